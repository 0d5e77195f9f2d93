/- Rounds of a range over a function: what is proved of a region holds in a round too. Laws alone. -/
import Derived.Test.YthdanjbgbbcafaaTypR
import Derived.RangeFuncNested
import Derived.RangeFuncBound
import Derived.RangeFuncCalls
import Derived.RangeFuncLeaves
import Derived.Shelf.Abstract
import Derived.Shelf.RegionOpen
import Derived.WalkKit
import Derived.OwnWalkIn
import Derived.TacticsInMore
import Derived.LoopNIn
import Derived.LoopIn
import Derived.OrdersIn
namespace Go.Proofs.Ythdanjbgbbcafaa
open Go Go.RowKit

def noDefer (l : List Oper) : Bool := l.all fun o => match o.op with | .defer _ => false | _ => true
theorem noDefer_mem {l : List Oper} (h : noDefer l = true) {o : Oper} (ho : o ∈ l) : ∀ c, o.op ≠ .defer c := fun c hc => by
  have := List.all_eq_true.1 h o ho
  rw [hc] at this
  simp at this
theorem noDefer_at {l : List Oper} (h : noDefer l = true) : ∀ (i : Nat) (o : Oper), l.toArray[i]? = some o → ∀ c, o.op ≠ .defer c := fun i o ho => by
  rw [List.getElem?_toArray] at ho
  exact noDefer_mem h (List.mem_of_getElem? ho)
section
variable {P : Program} {a : Act} {w : World} {Q : Exit → Act → World → Prop} {r m : Nat}
theorem rowsIn_of_rows {row : String} {args : Array Value} {R : Value → World → Prop} (h : Rows P row args w R) : RowsIn (Fence.wide.inRound r) m P row args w R :=
  fun c cs _ => let ⟨v, w', hr, s⟩ := h c cs; ⟨v, w', hr, stepsIn_wide.2 s⟩
theorem opIn_of_op {o : Oper} {K : Act → World → Prop} (hd : ∀ c, o.op ≠ .defer c) (h : o.wp P a w K Q) : o.wpIn (Fence.wide.inRound r) m P a w K Q := by
  refine ⟨fun _ _ => trivial, ?_⟩
  rw [show (Fence.wide.inRound r).round = some r from rfl, Oper.semAt_some r _ _ hd]
  unfold Oper.wp at h
  generalize (execOp a.eval o).run P w = x at *
  cases x with
  | ok x w' =>
    cases x <;> simp only [Oper.upon] at h <;> simp only [Oper.uponIn]
    case value => exact h
    case skip => exact h
    case defer => exact h
    case enter => exact ⟨(fun h => by cases h), (callsIn_wide.2 h).inRound r⟩
    case row => exact ⟨(fun h => by cases h), rowsIn_of_rows h⟩
  | halt x w' => cases x <;> simp only [Oper.upon] at h <;> simp only [Oper.uponIn] <;> exact h
theorem wpListIn_of_list {ops : Array Oper} (hL : ¬ LetsOut Q) : ∀ (l : List Oper) (a : Act) (w : World), noDefer l = true → wpList P ops Q l a w → wpListIn (Fence.wide.inRound r) m P ops Q l a w
  | [], _, _, _, h => h
  | o :: l, a, w, hn, h => by
    have hn' : noDefer l = true := by
      unfold noDefer at hn ⊢
      rw [List.all_cons, Bool.and_eq_true] at hn
      exact hn.2
    have hd := noDefer_mem hn (List.mem_cons_self)
    unfold wpList at h
    unfold wpListIn
    split
    · rename_i hw
      rw [if_pos hw] at h
      rcases h with h | ⟨_, h⟩
      · exact Oper.wpIn_mono (fun a' w' h' => wpListIn_of_list hL l a' w' hn' h') (opIn_of_op hd h)
      · exact absurd h hL
    · rename_i hw
      rw [if_neg hw] at h
      exact ⟨fun _ _ => trivial, wpListIn_of_list hL l _ _ hn' h⟩
/-- A region in the text's order. -/
theorem wpIn_region_plain {id : Nat} {l : List Oper} (hnd : noDefer l = true) (hL : ¬ LetsOut Q) (h : wpList P l.toArray Q l a w) : (Code.region id l.toArray false).wpIn (Fence.wide.inRound r) m P Q a w :=
  wpIn_region_lit (wpListIn_of_list hL l a w hnd h)
theorem wpAnyIn_of_any {ops : Array Oper} {md : Region.Mode} (hL : ¬ LetsOut Q) (hd : ∀ (i : Nat) (o : Oper), ops[i]? = some o → ∀ c, o.op ≠ .defer c) : ∀ (f : Nat) (listed : Array Bool) (a : Act) (w : World), wpAny P md ops Q f listed a w → wpAnyIn (Fence.wide.inRound r) m P md ops Q f listed a w
  | 0, _, _, _, h => h
  | f + 1, listed, a, w, ⟨h0, h1⟩ => by
    refine ⟨h0, fun i hi => ?_⟩
    have h := h1 i hi
    unfold wpOp at h
    unfold wpOpIn
    cases ho : ops[i]? with
    | none =>
      rw [ho] at h
      exact wpAnyIn_of_any hL hd f _ _ _ h
    | some o =>
      rw [ho] at h
      simp only [] at h ⊢
      split
      · rename_i hw
        rw [if_pos hw] at h
        rcases h with h | ⟨_, h⟩
        · exact Oper.wpIn_mono (fun a' w' h' => wpAnyIn_of_any hL hd f _ a' w' h') (opIn_of_op (hd i o ho) h)
        · exact absurd h hL
      · rename_i hw
        rw [if_neg hw] at h
        exact ⟨fun _ _ => trivial, wpAnyIn_of_any hL hd f _ _ _ h⟩
end
theorem wpAny_region_typ {P : Program} {Q : Exit → Act → World → Prop} {a : Act} {w : World} {l : List Oper} (n : Nat) (hB : typB l.toArray n = true)
    (h : wpTyp P l.toArray w.drew (fun Γ => ∀ (a' : Act) (w' : World), Grows w.drew w' → a'.defers = a.defers → a'.tmps.size = Γ.length → (∀ (t : Nat) (s : Slot), Γ[t]? = some s → s.holds (a'.tmps.getD t undef) w') → wpList P l.toArray Q (l.drop n) a' w') (l.take n) (a.tmps.toList.map Slot.is)) :
    wpAny P .any l.toArray Q l.toArray.size (Array.replicate l.toArray.size false) a { w with drawn := w.drawn + 1 } := by
  simp only [typB, Bool.and_eq_true, Bool.or_eq_true, decide_eq_true_eq] at hB
  obtain ⟨⟨⟨hh, hn⟩, ht⟩, hq⟩ := hB
  obtain ⟨Γs, e0, h1, h2⟩ := wpTyp_extract _ _ h
  have hnl : n ≤ l.length := by simpa using hn
  have hlen : (l.take n).length = n := by simp; omega
  rw [hlen] at h2
  have hc : openCount n (Array.replicate l.toArray.size false) = n := by
    unfold openCount
    rw [List.countP_eq_length.2 (fun i hi => by
      have : i < n := List.mem_range.1 hi
      have h' : i < l.length := by omega
      simp [h'])]
    simp
  have inv0 : HeadInv .any l.toArray n (Array.replicate l.toArray.size false) :=
    ⟨by simp, fun j oj _ hl => (by rw [getD_replicate_false] at hl; cases hl), fun t _ ht => getD_in (by simpa using ht) (getD_replicate_false _ _)⟩
  have H := typ_any (Q := Q) (base := w.drew) (d0 := a.defers) (Γs := Γs) hh hn ht hq (fun j o hj ho => h1 j o (by simpa [hj] using ho)) (by
      rw [e0]
      intro s hs
      obtain ⟨v, _, rfl⟩ := List.mem_map.1 hs
      exact Slot.stable_is v)
    (fun a' w' hg hd hs hf => by simpa using h2 a' w' hg hd hs hf) n _ a w.drew hc inv0
    ⟨Grows.refl _, rfl, by rw [e0]; simp, fun j _ hl => (by rw [getD_replicate_false] at hl; cases hl), fun t s _ hs => by
      rw [e0] at hs
      simp only [List.getElem?_map, Array.getElem?_toList, Option.map_eq_some_iff] at hs
      obtain ⟨v, hv, rfl⟩ := hs
      show a.tmps.getD t undef = v
      rw [Array.getD_eq_getD_getElem?, hv]
      rfl⟩
  rw [show l.toArray.size = n + (l.toArray.size - n) by simp; omega]
  simpa [show n + (l.length - n) = l.length by omega] using H

/-- **The same in a round.** -/
theorem wpIn_region_kinds {P : Program} {id r m : Nat} {Q : Exit → Act → World → Prop} {a : Act} {w : World} {l : List Oper} (n : Nat) (hm : P.follows .mixedOrders = true) (hB : regB l n a.tmps.size = true) (hnd : noDefer l = true) (hL : ¬ LetsOut Q)
    (h : ∀ F : List (Tmp × Slot) → Prop, (∀ u, nodupB (u.map (·.1)) = true → (u.all fun x => decide (x.1 < a.tmps.size)) = true → (∀ w', Grows w.drew w' → finish u a w' (fun a' => wpList P l.toArray Q (l.drop n) a' w')) → F u) → wpTypA P l.toArray w.drew a.tmps F (l.take n) []) :
    (Code.region id l.toArray true).wpIn (Fence.wide.inRound r) m P Q a w := by
  simp only [regB, Bool.and_eq_true] at hB
  obtain ⟨⟨hB1, hB2⟩, hB3⟩ := hB
  refine wpIn_region_any hm (wpAnyIn_of_any hL (noDefer_at hnd) _ _ _ _ (wpAny_region_typ n hB1 (typ_of_typA (f := a.tmps) ?_ (l.take n) _ [] hB2 ?_ (h (fun u => nodupB (u.map (·.1)) = true ∧ (u.all fun x => decide (x.1 < a.tmps.size)) = true ∧ ∀ w', Grows w.drew w' → finish u a w' (fun a' => wpList P l.toArray Q (l.drop n) a' w')) (fun u h1 h2 h3 => ⟨h1, h2, h3⟩)))))
  · rintro Γ u hr ⟨hnd', hin, hf⟩ a' w' hg hd hs hh
    refine finish_all u _ hnd' (fun x hx => ?_) (hf w' hg) a' hd (hs.trans hr.1) (fun t ht => ?_)
    · have := List.all_eq_true.1 hin x hx
      simpa using this
    · have htl : t < Γ.length := by rw [hr.1]; exact ht
      rw [← hr.2 t _ (List.getElem?_eq_getElem htl)]
      exact hh t _ (List.getElem?_eq_getElem htl)
  · refine ⟨by simp, fun t s hs => ?_⟩
    simp only [List.getElem?_map, Array.getElem?_toList, Option.map_eq_some_iff] at hs
    obtain ⟨v, hv, rfl⟩ := hs
    show Slot.is v = Slot.is (a.tmps.getD t undef)
    rw [Array.getD_eq_getD_getElem?, hv]
    rfl
/-- What lay below B is as it was, but for some blocks. -/
structure KeepBut (B : Nat) (rows : List Nat) (W W' : World) : Prop where
  os : W'.os = W.os
  tape : W'.tape = W.tape
  output : W'.output = W.output
  size : W.heap.size ≤ W'.heap.size
  block : ∀ k, k < B → k ∉ rows → W'.heap[k]? = W.heap[k]?
theorem KeepBut.refl (B : Nat) (rows : List Nat) (W : World) : KeepBut B rows W W := ⟨rfl, rfl, rfl, Nat.le_refl _, fun _ _ _ => rfl⟩
theorem KeepBut.trans {B : Nat} {rows : List Nat} {X Y Z : World} (h : KeepBut B rows X Y) (k : KeepBut B rows Y Z) : KeepBut B rows X Z :=
  ⟨k.os.trans h.os, k.tape.trans h.tape, k.output.trans h.output, Nat.le_trans h.size k.size, fun i hi hn => (k.block i hi hn).trans (h.block i hi hn)⟩
theorem KeepBut.of_but {B : Nat} {rows : List Nat} {W W' : World} (h : But rows W W') (hB : B ≤ W.heap.size) : KeepBut B rows W W' := ⟨h.os, h.tape, h.output, h.size, fun k hk hn => h.block k (by omega) hn⟩
theorem KeepBut.putObj {B : Nat} (rows : List Nat) (W : World) (l : Nat) (o' : Obj) (hl : B ≤ l) : KeepBut B rows W (W.putObj l o') :=
  ⟨rfl, rfl, rfl, by simp, fun k hk _ => World.putObj_heap_other (by omega)⟩
theorem KeepsFrom.of_but {B : Nat} {rows : List Nat} {W W' : World} (h : But rows W W') (hr : ∀ g ∈ rows, g < B) : KeepsFrom B W W' :=
  ⟨h.size, fun i o hB hi ho => by
    have hlt : i < W.heap.size := (Array.getElem?_eq_some_iff.1 hi).1
    rw [h.block i hlt (fun hm => by have := hr i hm; omega)]
    exact hi⟩
theorem blk_own {β : Type} (B g : Nat) (t : TypeId) (f : β → Array Value) : OwnFrom B (fun s W => Blk W g t (f s)) := fun s W W' row h hg hr =>
  h.grown hg (fun e => by
    obtain ⟨_, o, ho, hc⟩ := hr g e.symm
    rw [show W.heap[g]? = _ from h] at ho
    injection ho with ho
    rw [← ho] at hc
    cases hc)
/-- The loop's variables laid into their slots. -/
def putAll (ps : Array Tmp) (vs : Array Value) (t : Array Value) : Array Value := (ps.zip vs).foldl (fun t (p, v) => t.setIfInBounds p v) t
theorem putAll_two (p1 p2 : Tmp) (v1 v2 : Value) (t : Array Value) : putAll #[p1, p2] #[v1, v2] t = (t.setIfInBounds p1 v1).setIfInBounds p2 v2 := by simp [putAll]
theorem putAll_one (p1 : Tmp) (v1 : Value) (t : Array Value) : putAll #[p1] #[v1] t = t.setIfInBounds p1 v1 := by simp [putAll]
/-- A range over a function whose last variable lies in a box of its own in every round; the loop is not left early. -/
theorem wp_rangeFunc_box {P : Program} {α : Type} {g : Operand} {ps : Array Tmp} {assign body : Code} {Q : Exit → Act → World → Prop} {a : Act} {w : World} (d : Tmp)
    {gf : Nat} {lb : Array Value} (hg : a.eval g = .func (.func gf) #[] lb) (eg : ∀ args w, (callFunc gf args).run P w = .ok (.enter gf args) w)
    {encs : α → Array Value} {rows : List Nat} {S Sp : List α → Prop} {N : Nat} (hseq : SeqStopsK Fence.wide 5 P gf lb encs (KeepBut w.heap.size rows) S Sp N w) (hps : ∀ x, (encs x).size = ps.size)
    (I : List α → World → Prop) (hI : OwnFrom w.heap.size I) (h0 : I [] w) (Ay : α → Nat → World → Prop) (hAy : ∀ x B, OwnFrom w.heap.size (fun (_ : Unit) W => Ay x B W))
    (hassign : ∀ (l : Nat) (pre : List α) (x : α) (W : World) (K : Act → World → Prop), I pre W → (∀ (B : Nat) (W' : World), KeepsFrom w.heap.size W W' → KeepBut w.heap.size rows W W' → I pre W' → Ay x B W' → K { tmps := (putAll ps (encs x) a.tmps).setIfInBounds d (.pointer (some ⟨B, 0, none⟩)), defers := [] } W') →
      assign.wpIn (Fence.wide.inRound l) 4 P (Exit.then K (fun _ _ _ => False)) { tmps := putAll ps (encs x) a.tmps, defers := [] } W)
    (hbody : ∀ (l : Nat) (pre : List α) (x : α) (B : Nat) (W : World), I pre W → Ay x B W → pre.length < N → body.wpIn (Fence.wide.inRound l) 4 P (ownPostG w.heap.size (KeepBut w.heap.size rows) I (fun _ _ _ => False) (pre ++ [x]) W) { tmps := (putAll ps (encs x) a.tmps).setIfInBounds d (.pointer (some ⟨B, 0, none⟩)), defers := [] } W)
    (hdone : ∀ (D : Nat) (xs : List α) (W : World), w.heap.size ≤ D → S xs → I xs W → W.heap[D]? = some (.deferred (some [])) → Q .normal { a with defers := { target := .collected D, args := #[] } :: a.defers } W) :
    (Code.rangeFunc g ps assign body).wp P Q a w := by
  refine (wpIn_wide (n := 6)).1 ?_
  refine wpIn_rangeFunc_ownH (F := Fence.wide) (n := 6) rfl (by decide) hg trivial eg hseq (fun h k => h.trans k) (fun W l _ o' hl _ _ _ => KeepBut.putObj rows W l o' hl) (Below.refl _ _) hps I (fun _ _ _ => False) hI (fun _ _ _ _ _ hs _ _ => hs) h0
    (fun x a' W => ∃ B, Ay x B W ∧ a' = { tmps := (putAll ps (encs x) a.tmps).setIfInBounds d (.pointer (some ⟨B, 0, none⟩)), defers := [] }) ?_ ?_ ?_ ?_ ?_
  · rintro x a' s X Y row ⟨B, h, e⟩ hg hr
    exact ⟨B, hAy x B s X Y row h hg hr, e⟩
  · intro l pre x W K hi hK
    exact hassign l pre x W K hi (fun B W' h1 h2 h3 h4 => hK _ _ h1 h2 h3 ⟨B, h4, rfl⟩)
  · rintro l pre x a' W _ _ hi ⟨B, hA, rfl⟩ hlt
    exact hbody l pre x B W hi hA hlt
  · intro D xs W hD hS hi hK
    exact hdone D xs W hD hS hi hK
  · intro D c pre W _ _ h _
    exact h.elim
theorem bodyPostM_ret {P : Program} {F : Fence} {n : Nat} {fn : Func} {R : Ending → World → Prop} {a : Act} {w : World} {v : Value} (hr : (results fn a.tmps).run P w = .ok v w) (hd : a.defers = []) (hR : R (.returned v) w) : bodyPostM F n P fn R .ret a w := by
  show LeavesInM F n P fn a.tmps R a.defers .returning w
  rw [hd]
  exact ⟨v, hr, hR⟩
theorem bodyPostM_mark {P : Program} {F : Fence} {n : Nat} {fn : Func} {R : Ending → World → Prop} {a : Act} {w : World} {v : Value} {D : Nat} (hd : a.defers = [{ target := .collected D, args := #[] }]) (hD : w.heap[D]? = some (.deferred (some [])))
    (hr : (results fn a.tmps).run P (w.putObj D (.deferred none)) = .ok v (w.putObj D (.deferred none))) (hR : R (.returned v) (w.putObj D (.deferred none))) : bodyPostM F n P fn R .ret a w := by
  show LeavesInM F n P fn a.tmps R a.defers .returning w
  rw [hd]
  exact ⟨by simp, .inl ⟨_, _, rfl, run_takeDeferred hD, v, hr, hR⟩⟩
end Go.Proofs.Ythdanjbgbbcafaa
