/- Regions that draw their order and store late: all operations walked once in the order of the text; each store told apart. Laws alone, of whatever program. -/
import Derived.Test.YthdanjbgbbcafaaTyp
import Derived.Test.YthdanjbgbbcafaaMem
namespace Go.Proofs.Ythdanjbgbbcafaa
open Go Go.RowKit

/-- One world grows out of another, but for some blocks. -/
structure But (rows : List Nat) (w w' : World) : Prop where
  os : w'.os = w.os
  tape : w'.tape = w.tape
  output : w'.output = w.output
  size : w.heap.size ≤ w'.heap.size
  block : ∀ k, k < w.heap.size → k ∉ rows → w'.heap[k]? = w.heap[k]?
theorem But.refl (rows : List Nat) (w : World) : But rows w w := ⟨rfl, rfl, rfl, Nat.le_refl _, fun _ _ _ => rfl⟩
theorem But.trans {rows : List Nat} {a b c : World} (h : But rows a b) (k : But rows b c) : But rows a c :=
  ⟨k.os.trans h.os, k.tape.trans h.tape, k.output.trans h.output, Nat.le_trans h.size k.size, fun i hi hn => (k.block i (Nat.lt_of_lt_of_le hi h.size) hn).trans (h.block i hi hn)⟩
theorem But.of_grows {rows : List Nat} {w w' : World} (h : Grows w w') : But rows w w' := ⟨h.os, h.tape, h.output, h.size, fun k hk _ => h.block k hk⟩
theorem But.below {rows : List Nat} {B : Nat} {a w w' : World} (h : Below B a w) (k : But rows w w') (hB : B ≤ w.heap.size) (hr : ∀ g ∈ rows, B ≤ g) : Below B a w' :=
  h.trans ⟨k.os, k.tape, k.output, k.size, fun i hi => k.block i (by omega) (fun hm => by have := hr i hm; omega)⟩
theorem Blk.but {rows : List Nat} {w w' : World} {g : Nat} {t : TypeId} {cs : Array Value} (h : Blk w g t cs) (k : But rows w w') (hg : g ∉ rows) : Blk w' g t cs := (k.block g h.lt hg).trans h
theorem but_setRow {rows : List Nat} {w : World} {g : Nat} (hg : g ∈ rows) (cs : Array Value) : But rows w (w.setRow g cs) :=
  ⟨rfl, rfl, rfl, by simp [World.setRow], fun k _ hk => by
    simp only [World.setRow, Array.getElem?_modify]
    rw [if_neg (fun e => hk (by rw [← e]; exact hg))]⟩
theorem but_setCell {rows : List Nat} {w : World} {p : Addr} (hg : p.block ∈ rows) (v : Value) : But rows w (w.setCell p v) :=
  ⟨rfl, rfl, rfl, by simp, fun k _ hk => Below.heap_setCell w p v k (fun e => hk (by rw [e]; exact hg))⟩

/-- An operation that changes what was: what it does, what it wants, what is true behind it. -/
structure Eff where
  at_ : Nat
  E : World → World → Prop
  G : World → Prop
  F : World → Prop
def Step (effs : List Eff) (i : Nat) (w w' : World) : Prop :=
  (∃ e ∈ effs, e.at_ = i ∧ e.E w w' ∧ e.F w') ∨ ((∀ e ∈ effs, e.at_ ≠ i) ∧ Grows w w')
/-- What holds of them all together. -/
structure Effs (effs : List Eff) (base : World) : Prop where
  one : ∀ e ∈ effs, ∀ e' ∈ effs, e.at_ = e'.at_ → e = e'
  begin_ : ∀ e ∈ effs, e.G base
  growG : ∀ e ∈ effs, ∀ w w', Grows w w' → e.G w → e.G w'
  growF : ∀ e ∈ effs, ∀ w w', Grows w w' → e.F w → e.F w'
  farG : ∀ e ∈ effs, ∀ e' ∈ effs, e'.at_ ≠ e.at_ → ∀ w w', e'.E w w' → e.G w → e.G w'
  farF : ∀ e ∈ effs, ∀ e' ∈ effs, e'.at_ ≠ e.at_ → ∀ w w', e'.E w w' → e.F w → e.F w'
def Slot.stableR (rows : List Nat) (s : Slot) : Prop := ∀ v w w', s.holds v w → But rows w w' → s.holds v w'
theorem Slot.stableR_is (rows : List Nat) (v : Value) : (Slot.is v).stableR rows := fun _ _ _ h _ => h

def OblR (P : Program) (ops : Array Oper) (rows : List Nat) (effs : List Eff) (base : World) (i : Nat) (Γ : List Slot) (o : Oper) (S : Slot) : Prop :=
  ∀ (a : Act) (w : World), But rows base w → (∀ e ∈ effs, e.at_ = i ∨ Region.waitsFor .any ops e.at_ i = true → e.G w) → a.tmps.size = Γ.length → fits Γ (o.looksAt ops) a.eval w →
    (Region.wanted o (yielded ops a.tmps) = true ∧ ∀ K : Value → World → Prop, (∀ v w', But rows w w' → Step effs i w w' → S.holds v w' → K v w') → gives P o a.eval w K) ∨
    (Region.wanted o (yielded ops a.tmps) = false ∧ (∀ e ∈ effs, e.at_ ≠ i) ∧ ∀ w', S.holds undef w')
def wpTypR (P : Program) (ops : Array Oper) (rows : List Nat) (effs : List Eff) (base : World) (F : List Slot → Prop) : Nat → List Oper → List Slot → Prop
  | _, [], Γ => F Γ
  | i, o :: rest, Γ => ∃ S : Slot, S.stableR rows ∧ OblR P ops rows effs base i Γ o S ∧ wpTypR P ops rows effs base F (i + 1) rest (setSlot Γ o.dst S)
section
variable {P : Program} {ops : Array Oper} {rows : List Nat} {effs : List Eff} {base : World} {d0 : List Deferred} {n : Nat} {Γs : Nat → List Slot}
theorem wpTypR_extract {F : List Slot → Prop} : ∀ (l : List Oper) (i : Nat) (Γ : List Slot), wpTypR P ops rows effs base F i l Γ →
    ∃ Γs : Nat → List Slot, Γs 0 = Γ ∧ (∀ (j : Nat) (o : Oper), l[j]? = some o → ∃ S : Slot, S.stableR rows ∧ OblR P ops rows effs base (i + j) (Γs j) o S ∧ Γs (j + 1) = setSlot (Γs j) o.dst S) ∧ F (Γs l.length)
  | [], _, Γ, h => ⟨fun _ => Γ, rfl, fun j o hj => by simp at hj, h⟩
  | o :: rest, i, Γ, h => by
    obtain ⟨S, hs, ho, hr⟩ := h
    obtain ⟨Γs, h0, h1, h2⟩ := wpTypR_extract rest (i + 1) _ hr
    refine ⟨fun j => match j with | 0 => Γ | j + 1 => Γs j, rfl, ?_, h2⟩
    intro j o' hj
    cases j with
    | zero =>
      simp only [List.getElem?_cons_zero, Option.some.injEq] at hj
      subst hj
      exact ⟨S, hs, ho, h0⟩
    | succ j =>
      simp only [List.getElem?_cons_succ] at hj
      obtain ⟨S', a1, a2, a3⟩ := h1 j o' hj
      exact ⟨S', a1, by rw [show i + (j + 1) = i + 1 + j by omega]; exact a2, a3⟩
theorem gsR_len (hΓ : ∀ (j : Nat) (o : Oper), ops[j]? = some o → ∃ S : Slot, S.stableR rows ∧ OblR P ops rows effs base j (Γs j) o S ∧ Γs (j + 1) = setSlot (Γs j) o.dst S) : ∀ i, i ≤ ops.size → (Γs i).length = (Γs 0).length
  | 0, _ => rfl
  | i + 1, h => by
    obtain ⟨S, _, _, e⟩ := hΓ i _ (Array.getElem?_eq_getElem (by omega))
    rw [e, setSlot_length]
    exact gsR_len hΓ i (by omega)
theorem gsR_keep (hΓ : ∀ (j : Nat) (o : Oper), ops[j]? = some o → ∃ S : Slot, S.stableR rows ∧ OblR P ops rows effs base j (Γs j) o S ∧ Γs (j + 1) = setSlot (Γs j) o.dst S) (t : Tmp) : ∀ (k i : Nat), i + k ≤ ops.size → (∀ j, i ≤ j → j < i + k → dstOf ops j ≠ some t) → (Γs (i + k))[t]? = (Γs i)[t]?
  | 0, _, _, _ => rfl
  | k + 1, i, h, hw => by
    have ih := gsR_keep hΓ t k i (by omega) (fun j h1 h2 => hw j h1 (by omega))
    obtain ⟨S, _, _, e⟩ := hΓ (i + k) _ (Array.getElem?_eq_getElem (by omega))
    have hne := hw (i + k) (by omega) (by omega)
    rw [show i + (k + 1) = i + k + 1 by omega, e, ← ih]
    unfold dstOf at hne
    rw [Array.getElem?_eq_getElem (by omega)] at hne
    simp only [Option.bind_some] at hne
    cases hd : (ops[i + k]'(by omega)).dst with
    | none => rfl
    | some d =>
      rw [hd] at hne
      have hdt : d ≠ t := fun e => hne (by rw [e])
      simp only [setSlot]
      rw [List.getElem?_set_ne hdt]
structure TInvR (rows : List Nat) (effs : List Eff) (base : World) (d0 : List Deferred) (Γ0 : List Slot) (Γs : Nat → List Slot) (ops : Array Oper) (listed : Array Bool) (a : Act) (w : World) : Prop where
  grows : But rows base w
  defers : a.defers = d0
  size : a.tmps.size = Γ0.length
  done : ∀ j, j < ops.size → listed.getD j false = true → ∀ d s, dstOf ops j = some d → (Γs (j + 1))[d]? = some s → s.holds (a.tmps.getD d undef) w
  rest : ∀ t s, (∀ j, j < ops.size → listed.getD j false = true → dstOf ops j ≠ some t) → Γ0[t]? = some s → s.holds (a.tmps.getD t undef) w
  pre : ∀ e ∈ effs, listed.getD e.at_ false = false → e.G w
  post : ∀ e ∈ effs, listed.getD e.at_ false = true → e.F w
theorem typR_any {Q : Exit → Act → World → Prop} (hh : headB ops ops.size = true) (he : Effs effs base)
    (hΓ : ∀ (j : Nat) (o : Oper), ops[j]? = some o → ∃ S : Slot, S.stableR rows ∧ OblR P ops rows effs base j (Γs j) o S ∧ Γs (j + 1) = setSlot (Γs j) o.dst S)
    (hin_ : ∀ e ∈ effs, e.at_ < ops.size)
    (h0 : ∀ s ∈ Γs 0, s.stableR rows)
    (hF : ∀ (a : Act) (w : World), But rows base w → (∀ e ∈ effs, e.F w) → a.defers = d0 → a.tmps.size = (Γs ops.size).length → (∀ (t : Nat) (s : Slot), (Γs ops.size)[t]? = some s → s.holds (a.tmps.getD t undef) w) → Q .normal a w) :
    ∀ (m : Nat) (listed : Array Bool) (a : Act) (w : World), openCount ops.size listed = m → HeadInv .any ops ops.size listed → TInvR rows effs base d0 (Γs 0) Γs ops listed a w → wpAny P .any ops Q m listed a w
  | 0, listed, a, w, hc, inv, ti => by
    have hno : Region.ready .any ops listed = [] := by
      apply List.eq_nil_iff_forall_not_mem.2
      intro i hi
      obtain ⟨hun, o, ho, _⟩ := mem_ready.1 hi
      have hlt := (Array.getElem?_eq_some_iff.1 ho).1
      have := open_none hc i hlt
      rw [hun] at this
      cases this
    refine ⟨hno, hF a w ti.grows (fun e hm => ti.post e hm (getD_of_true (open_none hc _ (hin_ e hm)) (by rw [inv.size]; exact hin_ e hm))) ti.defers (ti.size.trans (gsR_len hΓ _ (Nat.le_refl _)).symm) ?_⟩
    intro t s hs
    by_cases hw : ∃ j, j < ops.size ∧ dstOf ops j = some t
    · obtain ⟨j, hj, hd⟩ := hw
      refine ti.done j hj (getD_of_true (open_none hc j hj) (by rw [inv.size]; omega)) t s hd ?_
      have hk := gsR_keep hΓ t (ops.size - (j + 1)) (j + 1) (by omega) (fun k h1 h2 hk => by
        have := head_slots hh (i := k) (j := j) (by omega) hj (by omega) (Array.getElem?_eq_getElem (by omega)) hd
        unfold dstOf at hk
        rw [Array.getElem?_eq_getElem (by omega)] at hk
        exact this.1 hk)
      rw [show j + 1 + (ops.size - (j + 1)) = ops.size by omega] at hk
      rw [← hk]
      exact hs
    · refine ti.rest t s (fun j hj _ hd => hw ⟨j, hj, hd⟩) ?_
      have hk := gsR_keep hΓ t ops.size 0 (by omega) (fun k _ h2 hk => hw ⟨k, by omega, hk⟩)
      rw [Nat.zero_add] at hk
      rw [← hk]
      exact hs
  | m + 1, listed, a, w, hc, inv, ti => by
    have hready : ∃ i, i ∈ Region.ready .any ops listed := by
      obtain ⟨i0, hi0, hu0⟩ := open_some (n := ops.size) (listed := listed) (by omega)
      have key : ∀ i, i < ops.size → listed.getD i true = false → ∃ i, i ∈ Region.ready .any ops listed := by
        intro i
        induction i using Nat.strongRecOn with
        | _ i ih =>
          intro hi hu
          by_cases hr : i ∈ Region.ready .any ops listed
          · exact ⟨i, hr⟩
          · have hex : ∃ e ∈ (ops[i]'(by omega)).after, Region.binds .any e = true ∧ listed.getD e.on false = false := by
              apply Classical.byContradiction
              intro hno
              apply hr
              rw [mem_ready]
              refine ⟨hu, _, Array.getElem?_eq_getElem (by omega), fun e he hb => ?_⟩
              cases hl : listed.getD e.on false with
              | true => rfl
              | false => exact absurd ⟨e, he, hb, hl⟩ hno
            obtain ⟨e, he, hb, hl⟩ := hex
            have hlt := head_edges hh hi (Array.getElem?_eq_getElem (by omega)) e he hb
            exact ih e.on hlt (by omega) (getD_in (by rw [inv.size]; omega) hl)
      exact key i0 hi0 hu0
    refine ⟨(fun h => by obtain ⟨i, hi⟩ := hready; rw [h] at hi; cases hi), fun i hi => ?_⟩
    obtain ⟨hun, o, ho, hafter⟩ := mem_ready.1 hi
    have hin : i < ops.size := (Array.getElem?_eq_some_iff.1 ho).1
    obtain ⟨S, hS, hobl, hnext⟩ := hΓ i o ho
    have hdst : dstOf ops i = o.dst := by unfold dstOf; rw [ho]; rfl
    have hfit : fits (Γs i) (o.looksAt ops) a.eval w := by
      intro t htl s hs
      show s.holds (a.tmps.getD t undef) w
      by_cases hw : ∃ j, j < i ∧ dstOf ops j = some t
      · obtain ⟨j, hj, hd⟩ := hw
        have hwait := (head_slots hh (i := i) (j := j) hin (by omega) (by omega) ho hd).2 htl
        rw [if_pos hj] at hwait
        obtain ⟨o', ho', e, he, hb, hon⟩ := Region.waitsFor_spec hwait
        have : o' = o := Option.some.inj (ho'.symm.trans ho)
        subst this
        have hlj := hafter e he hb
        rw [hon] at hlj
        refine ti.done j (by omega) hlj t s hd ?_
        have hk := gsR_keep hΓ t (i - (j + 1)) (j + 1) (by omega) (fun k h1 h2 hk => by
          have := head_slots hh (i := k) (j := j) (by omega) (by omega) (by omega) (Array.getElem?_eq_getElem (by omega)) hd
          unfold dstOf at hk
          rw [Array.getElem?_eq_getElem (by omega)] at hk
          exact this.1 hk)
        rw [show j + 1 + (i - (j + 1)) = i by omega] at hk
        rw [← hk]
        exact hs
      · refine ti.rest t s (fun j hj hlj hd => ?_) ?_
        · have hji : j ≠ i := fun e => by
            subst e
            rw [getD_both hun] at hlj
            cases hlj
          have hgt : ¬ j < i := fun h => hw ⟨j, h, hd⟩
          have hwait := (head_slots hh (i := i) (j := j) hin hj (Ne.symm hji) ho hd).2 htl
          rw [if_neg hgt] at hwait
          obtain ⟨oj, hoj, e, he, hb, hon⟩ := Region.waitsFor_spec hwait
          have := inv.closed j oj hoj hlj e he hb
          rw [hon, getD_both hun] at this
          cases this
        · have hk := gsR_keep hΓ t i 0 (by omega) (fun k _ h2 hk => hw ⟨k, by omega, hk⟩)
          rw [Nat.zero_add] at hk
          rw [← hk]
          exact hs
    have hlen : a.tmps.size = (Γs i).length := ti.size.trans (gsR_len hΓ i (by omega)).symm
    have hafterStep : ∀ v w', But rows w w' → Step effs i w w' → S.holds v w' → wpAny P .any ops Q m (listed.setIfInBounds i true) (a.put o.dst v) w' := by
      intro v w' hg hstep hv
      refine typR_any hh he hΓ hin_ h0 hF m _ _ _ (by have := open_set (n := ops.size) hin hun; omega) (inv.set hi hin) ?_
      have hst : ∀ j, j < ops.size → ∀ d s, dstOf ops j = some d → (Γs (j + 1))[d]? = some s → s.stableR rows := fun j hj d s hd hs => by
        obtain ⟨S', hS', _, hn'⟩ := hΓ j _ (Array.getElem?_eq_getElem (by omega))
        unfold dstOf at hd
        rw [Array.getElem?_eq_getElem (by omega)] at hd
        simp only [Option.bind_some] at hd
        rw [hn', hd] at hs
        simp only [setSlot] at hs
        rw [List.getElem?_set_self'] at hs
        cases hq' : (Γs j)[d]? with
        | none => rw [hq'] at hs; cases hs
        | some x => rw [hq'] at hs; injection hs with hs; exact hs ▸ hS'
      refine ⟨ti.grows.trans hg, ?_, ?_, ?_, ?_, ?_, ?_⟩
      · cases hd : o.dst <;> simp [Act.put, ti.defers]
      · cases hd : o.dst <;> simp [Act.put, ti.size]
      · intro j hj hl d s hd hs
        by_cases hji : j = i
        · subst hji
          rw [hdst] at hd
          rw [hnext, hd] at hs
          simp only [setSlot] at hs
          rw [List.getElem?_set_self'] at hs
          have hdl : d < (Γs j).length := by
            rcases Nat.lt_or_ge d (Γs j).length with h | h
            · exact h
            · rw [List.getElem?_eq_none h] at hs; cases hs
          rw [List.getElem?_eq_getElem hdl] at hs
          injection hs with hs
          subst hs
          rw [hd]
          have hds : d < a.tmps.size := by rw [hlen]; exact hdl
          simpa [Act.put, hds] using hv
        · rw [getD_set_ne false (Ne.symm hji)] at hl
          have hold := ti.done j hj hl d s hd hs
          have hne := (head_slots hh (i := i) (j := j) hin hj (Ne.symm hji) ho hd).1
          have heq : (a.put o.dst v).tmps.getD d undef = a.tmps.getD d undef := by
            cases hd' : o.dst with
            | none => rfl
            | some d' =>
              have : d' ≠ d := fun e => hne (by rw [hd', e])
              simp [Act.put, Array.getElem?_setIfInBounds_ne this]
          rw [heq]
          exact hst j hj d s hd hs _ _ _ hold hg
      · intro t s hno hs
        have hne : o.dst ≠ some t := by
          rw [← hdst]
          refine hno i hin ?_
          have hsz : i < listed.size := by rw [inv.size]; omega
          simp [hsz]
        have heq : (a.put o.dst v).tmps.getD t undef = a.tmps.getD t undef := by
          cases hd' : o.dst with
          | none => rfl
          | some d' =>
            have : d' ≠ t := fun e => hne (by rw [hd', e])
            simp [Act.put, Array.getElem?_setIfInBounds_ne this]
        rw [heq]
        exact h0 s (List.mem_of_getElem? hs) _ _ _ (ti.rest t s (fun j hj hl => hno j hj (getD_set_true hl)) hs) hg
      · intro e hm hl
        have hei : e.at_ ≠ i := fun h => by
          subst h
          have hsz : e.at_ < listed.size := by rw [inv.size]; omega
          simp [hsz] at hl
        rw [getD_set_ne false (Ne.symm hei)] at hl
        have hold := ti.pre e hm hl
        rcases hstep with ⟨e', hm', hi', hE, _⟩ | ⟨_, hgr⟩
        · exact he.farG e hm e' hm' (by rw [hi']; exact Ne.symm hei) _ _ hE hold
        · exact he.growG e hm _ _ hgr hold
      · intro e hm hl
        by_cases hei : e.at_ = i
        · rcases hstep with ⟨e', hm', hi', _, hFe⟩ | ⟨hno, _⟩
          · have := he.one e hm e' hm' (by rw [hi', hei])
            subst this
            exact hFe
          · exact absurd hei (hno e hm)
        · rw [getD_set_ne false (Ne.symm hei)] at hl
          have hold := ti.post e hm hl
          rcases hstep with ⟨e', hm', hi', hE, _⟩ | ⟨_, hgr⟩
          · exact he.farF e hm e' hm' (by rw [hi']; exact Ne.symm hei) _ _ hE hold
          · exact he.growF e hm _ _ hgr hold
    unfold wpOp
    rw [ho]
    simp only []
    have hpre : ∀ e ∈ effs, e.at_ = i ∨ Region.waitsFor .any ops e.at_ i = true → e.G w := fun e hm hi' => ti.pre e hm (by
      rcases hi' with hi' | hi'
      · rw [hi']; exact getD_both hun
      · obtain ⟨oj, hoj, ed, hed, hb, hon⟩ := Region.waitsFor_spec hi'
        cases hl : listed.getD e.at_ false with
        | false => rfl
        | true =>
          have := inv.closed e.at_ oj hoj hl ed hed hb
          rw [hon, getD_both hun] at this
          cases this)
    rcases hobl a w ti.grows hpre hlen hfit with ⟨hwt, hk⟩ | ⟨hwt, hne, hu⟩
    · rw [if_pos hwt]
      exact .inl (wp_of_gives (hk (fun v w' => But rows w w' ∧ Step effs i w w' ∧ S.holds v w') (fun v w' h1 h2 h3 => ⟨h1, h2, h3⟩)) (fun v w' h => hafterStep v w' h.1 h.2.1 h.2.2))
    · rw [if_neg (by rw [hwt]; exact Bool.false_ne_true)]
      exact hafterStep undef w (But.refl _ w) (.inr ⟨hne, Grows.refl w⟩) (hu w)
end
theorem wp_region_typR {P : Program} {id : Nat} {Q : Exit → Act → World → Prop} {a : Act} {w : World} {l : List Oper} (rows : List Nat) (effs : List Eff) (hm : P.follows .mixedOrders = true) (hB : headB l.toArray l.length = true) (he : Effs effs w.drew) (hin : ∀ e ∈ effs, e.at_ < l.length)
    (h : wpTypR P l.toArray rows effs w.drew (fun Γ => ∀ (a' : Act) (w' : World), But rows w.drew w' → (∀ e ∈ effs, e.F w') → a'.defers = a.defers → a'.tmps.size = Γ.length → (∀ (t : Nat) (s : Slot), Γ[t]? = some s → s.holds (a'.tmps.getD t undef) w') → Q .normal a' w') 0 l (a.tmps.toList.map Slot.is)) :
    (Code.region id l.toArray true).wp P Q a w := by
  obtain ⟨Γs, e0, h1, h2⟩ := wpTypR_extract _ _ _ h
  refine wp_region_any hm ?_
  have hc : openCount l.toArray.size (Array.replicate l.toArray.size false) = l.toArray.size := by
    unfold openCount
    rw [List.countP_eq_length.2 (fun i hi => by
      have : i < l.toArray.size := List.mem_range.1 hi
      have h' : i < l.length := by simpa using this
      simp [h'])]
    simp
  have inv0 : HeadInv .any l.toArray l.toArray.size (Array.replicate l.toArray.size false) :=
    ⟨by simp, fun j oj _ hl => (by rw [getD_replicate_false] at hl; cases hl), fun t ht ht' => absurd ht' (by omega)⟩
  exact typR_any (Q := Q) (base := w.drew) (d0 := a.defers) (Γs := Γs) (by simpa using hB) he (fun j o ho => by
      obtain ⟨S, b1, b2, b3⟩ := h1 j o (by simpa using ho)
      rw [Nat.zero_add] at b2
      exact ⟨S, b1, b2, b3⟩) (fun e hm => by simpa using hin e hm) (by
      rw [e0]
      intro s hs
      obtain ⟨v, _, rfl⟩ := List.mem_map.1 hs
      exact Slot.stableR_is _ v)
    (fun a' w' hg hf hd hs hh => h2 a' w' hg hf hd (by simpa using hs) (by simpa using hh)) l.toArray.size _ a w.drew hc inv0
    ⟨But.refl _ _, rfl, by rw [e0]; simp, fun j _ hl => (by rw [getD_replicate_false] at hl; cases hl), fun t s _ hs => by
      rw [e0] at hs
      simp only [List.getElem?_map, Array.getElem?_toList, Option.map_eq_some_iff] at hs
      obtain ⟨v, hv, rfl⟩ := hs
      show a.tmps.getD t undef = v
      rw [Array.getD_eq_getD_getElem?, hv]
      rfl, fun e hm _ => he.begin_ e hm, fun e _ hl => (by rw [getD_replicate_false] at hl; cases hl)⟩

/-! ### Over the frame that was and what has been written since -/
def RunsR (P : Program) (ops : Array Oper) (rows : List Nat) (effs : List Eff) (base : World) (f : Array Value) (u : List (Tmp × Slot)) (i : Nat) (o : Oper) (S : Slot) : Prop :=
  ∀ (ρ : Operand → Value) (w : World) (K : Value → World → Prop), But rows base w → (∀ e ∈ effs, e.at_ = i ∨ Region.waitsFor .any ops e.at_ i = true → e.G w) → fitsA u f o.op.operands.toList ρ w → (∀ v w', But rows w w' → Step effs i w w' → S.holds v w' → K v w') → gives P o ρ w K
def OblAR (P : Program) (ops : Array Oper) (rows : List Nat) (effs : List Eff) (base : World) (f : Array Value) (u : List (Tmp × Slot)) (i : Nat) (o : Oper) (S : Slot) : Prop :=
  match o.guard with
  | none => RunsR P ops rows effs base f u i o S
  | some (g, b) => match dstOf ops g with
    | none => (∀ e ∈ effs, e.at_ ≠ i) ∧ ∀ w, S.holds undef w
    | some d => match look u f d with
      | .is (.bool c) => if c = b then RunsR P ops rows effs base f u i o S else (∀ e ∈ effs, e.at_ ≠ i) ∧ ∀ w, S.holds undef w
      | .is _ => (∀ e ∈ effs, e.at_ ≠ i) ∧ ∀ w, S.holds undef w
      | .like _ => False
def wpTypAR (P : Program) (ops : Array Oper) (rows : List Nat) (effs : List Eff) (base : World) (f : Array Value) (F : List (Tmp × Slot) → Prop) : Nat → List Oper → List (Tmp × Slot) → Prop
  | _, [], u => F u
  | i, o :: rest, u => ∃ S : Slot, S.stableR rows ∧ OblAR P ops rows effs base f u i o S ∧ wpTypAR P ops rows effs base f F (i + 1) rest (pushSlot u o.dst S)
section
variable {P : Program} {ops : Array Oper} {rows : List Nat} {effs : List Eff} {base : World} {f : Array Value}
theorem oblR_of {Γ : List Slot} {u : List (Tmp × Slot)} (h : Rep Γ u f) {i : Nat} {o : Oper} {S : Slot} (hin : ∀ t ∈ o.looksAt ops, t < f.size) (ho : OblAR P ops rows effs base f u i o S) : OblR P ops rows effs base i Γ o S := by
  intro a w hg hpre hsz hf
  have hfa : fitsA u f o.op.operands.toList a.eval w := by
    refine fitsA_of h hsz _ (fun t ht s hs => ?_) (fun t ht hn => ?_)
    · exact hf t (List.mem_append_left _ (List.mem_filterMap.2 ⟨_, ht, rfl⟩)) s hs
    · have := hin t (List.mem_append_left _ (List.mem_filterMap.2 ⟨_, ht, rfl⟩))
      rw [List.getElem?_eq_none_iff, h.1] at hn
      exact absurd this (Nat.not_lt.2 hn)
  unfold OblAR at ho
  cases hgd : o.guard with
  | none =>
    rw [hgd] at ho
    refine .inl ⟨by simp [Region.wanted, hgd], fun K hK => ho a.eval w K hg hpre hfa hK⟩
  | some gb =>
    obtain ⟨g, b⟩ := gb
    rw [hgd] at ho
    simp only [] at ho
    have hy : ∀ c : Option Bool, yielded ops a.tmps g = c → Region.wanted o (yielded ops a.tmps) = (c == some b) := fun c hc => by
      simp only [Region.wanted, hgd, hc]
    unfold dstOf at ho
    cases hd : (ops[g]?).bind (·.dst) with
    | none =>
      rw [hd] at ho
      refine .inr ⟨?_, ho⟩
      rw [hy none (by unfold yielded; rw [hd]; rfl)]
      rfl
    | some d =>
      rw [hd] at ho
      simp only [] at ho
      have hmem : d ∈ o.looksAt ops := by
        unfold Oper.looksAt
        refine List.mem_append_right _ ?_
        rw [hgd]
        simp [hd]
      have hlt := hin d hmem
      have hdl : d < Γ.length := by rw [h.1]; exact hlt
      have hs := h.2 d _ (List.getElem?_eq_getElem hdl)
      have hh := hf d hmem _ (List.getElem?_eq_getElem hdl)
      rw [hs] at hh
      have hda : d < a.tmps.size := by rw [hsz]; exact hdl
      have hev : a.eval (.tmp d) = a.tmps[d] := by
        show a.tmps.getD d undef = _
        simp [hda]
      rw [hev] at hh
      have hyv : yielded ops a.tmps g = match a.tmps[d] with | .bool c => some c | _ => none := by
        unfold yielded
        rw [hd]
        simp only [Option.bind_some, Array.getElem?_eq_getElem hda]
        cases a.tmps[d] <;> rfl
      cases hl : look u f d with
      | like V => rw [hl] at ho; exact ho.elim
      | is v =>
        rw [hl] at ho hh
        have hh' : a.tmps[d] = v := hh
        rw [hh'] at hyv
        cases v with
        | bool c =>
          simp only [] at ho hyv
          by_cases hcb : c = b
          · rw [if_pos hcb] at ho
            refine .inl ⟨?_, fun K hK => ho a.eval w K hg hpre hfa hK⟩
            rw [hy _ hyv, hcb]
            simp
          · rw [if_neg hcb] at ho
            refine .inr ⟨?_, ho⟩
            rw [hy _ hyv]
            simpa using hcb
        | _ =>
          refine .inr ⟨?_, ho⟩
          rw [hy _ hyv]
          rfl
theorem typR_of_typAR {F : List Slot → Prop} {FA : List (Tmp × Slot) → Prop} (hF : ∀ Γ u, Rep Γ u f → FA u → F Γ) : ∀ (l : List Oper) (i : Nat) (Γ : List Slot) (u : List (Tmp × Slot)), insideB l ops f.size = true → Rep Γ u f → wpTypAR P ops rows effs base f FA i l u → wpTypR P ops rows effs base F i l Γ
  | [], _, Γ, u, _, hr, h => hF Γ u hr h
  | o :: rest, i, Γ, u, hi, hr, h => by
    obtain ⟨S, hS, ho, hn⟩ := h
    unfold insideB at hi
    simp only [List.all_cons, Bool.and_eq_true, List.all_eq_true, decide_eq_true_eq] at hi
    refine ⟨S, hS, oblR_of hr hi.1 ho, typR_of_typAR hF rest _ _ _ ?_ (hr.push o.dst S) hn⟩
    unfold insideB
    simp only [List.all_eq_true, decide_eq_true_eq]
    exact hi.2
/-- What the region owes besides its walk: told by the kernel. -/
def regBR (l : List Oper) (m : Nat) : Bool := headB l.toArray l.length && insideB l l.toArray m && l.all fun o => match o.dst with | some d => decide (d < m) | none => true
end
/-- **A region that draws its order and stores, walked once.** -/
theorem wp_region_kindsR {P : Program} {id : Nat} {Q : Exit → Act → World → Prop} {a : Act} {w : World} {l : List Oper} (rows : List Nat) (effs : List Eff) (hm : P.follows .mixedOrders = true) (hB : regBR l a.tmps.size = true) (he : Effs effs w.drew) (hin : (effs.all fun e => decide (e.at_ < l.length)) = true)
    (h : ∀ F : List (Tmp × Slot) → Prop, (∀ u, nodupB (u.map (·.1)) = true → (u.all fun x => decide (x.1 < a.tmps.size)) = true → (∀ w', But rows w.drew w' → (∀ e ∈ effs, e.F w') → finish u a w' (fun a' => Q .normal a' w')) → F u) → wpTypAR P l.toArray rows effs w.drew a.tmps F 0 l []) :
    (Code.region id l.toArray true).wp P Q a w := by
  simp only [regBR, Bool.and_eq_true] at hB
  obtain ⟨⟨hB1, hB2⟩, hB3⟩ := hB
  refine wp_region_typR rows effs hm hB1 he (fun e hm' => by have := List.all_eq_true.1 hin e hm'; simpa using this) (typR_of_typAR (f := a.tmps) ?_ l 0 _ [] hB2 ?_ (h (fun u => nodupB (u.map (·.1)) = true ∧ (u.all fun x => decide (x.1 < a.tmps.size)) = true ∧ ∀ w', But rows w.drew w' → (∀ e ∈ effs, e.F w') → finish u a w' (fun a' => Q .normal a' w')) (fun u h1 h2 h3 => ⟨h1, h2, h3⟩)))
  · rintro Γ u hr ⟨hnd, hin', hf⟩ a' w' hg hFe hd hs hh
    refine finish_all u _ hnd (fun x hx => ?_) (hf w' hg hFe) a' hd (hs.trans hr.1) (fun t ht => ?_)
    · have := List.all_eq_true.1 hin' x hx
      simpa using this
    · have htl : t < Γ.length := by rw [hr.1]; exact ht
      rw [← hr.2 t _ (List.getElem?_eq_getElem htl)]
      exact hh t _ (List.getElem?_eq_getElem htl)
  · refine ⟨by simp, fun t s hs => ?_⟩
    simp only [List.getElem?_map, Array.getElem?_toList, Option.map_eq_some_iff] at hs
    obtain ⟨v, hv, rfl⟩ := hs
    show Slot.is v = Slot.is (a.tmps.getD t undef)
    rw [Array.getD_eq_getD_getElem?, hv]
    rfl
section
variable {P : Program} {ops : Array Oper} {rows : List Nat} {effs : List Eff} {base : World} {f : Array Value} {F : List (Tmp × Slot) → Prop} {o : Oper} {rest : List Oper} {u : List (Tmp × Slot)} {i : Nat}
def noEff (effs : List Eff) (i : Nat) : Bool := effs.all fun e => !(Nat.beq e.at_ i)
theorem noEff_spec (h : noEff effs i = true) : ∀ e ∈ effs, e.at_ ≠ i := fun e hm hi => by
  have := List.all_eq_true.1 h e hm
  rw [hi] at this
  simp at this
theorem kindsR_nil (h : F u) : wpTypAR P ops rows effs base f F i [] u := h
/-- An operation whose value is told. -/
theorem kindsR_is {v : Value} (hg : o.guard = none) (hn : noEff effs i = true) (h : ∀ (ρ : Operand → Value) (w : World) (K : Value → World → Prop), But rows base w → fitsA u f o.op.operands.toList ρ w → (∀ w', Grows w w' → K v w') → gives P o ρ w K)
    (hr : wpTypAR P ops rows effs base f F (i + 1) rest (pushSlot u o.dst (.is v))) : wpTypAR P ops rows effs base f F i (o :: rest) u :=
  ⟨.is v, Slot.stableR_is _ v, by unfold OblAR; rw [hg]; exact fun ρ w K hw _ hf hK => h ρ w K hw hf (fun w' hg' => hK v w' (But.of_grows hg') (.inr ⟨noEff_spec hn, hg'⟩) rfl), hr⟩
theorem kindsR_move_is (t : Tmp) {v : Value} (hg : o.guard = none) (hn : noEff effs i = true) (ho : o.op = .move (.tmp t) ∨ o.op = .assign (.tmp t)) (hl : look u f t = .is v)
    (hr : wpTypAR P ops rows effs base f F (i + 1) rest (pushSlot u o.dst (.is v))) : wpTypAR P ops rows effs base f F i (o :: rest) u := by
  refine kindsR_is hg hn (fun ρ w K hw hf hK => ?_) hr
  have hs : ρ (.tmp t) = v := by
    rcases ho with ho | ho
    · rw [ho] at hf
      have h1 : (look u f t).holds (ρ (.tmp t)) w := hf.1
      rw [hl] at h1
      exact h1
    · rw [ho] at hf
      have h1 : (look u f t).holds (ρ (.tmp t)) w := hf.1
      rw [hl] at h1
      exact h1
  unfold gives execOp
  rcases ho with ho | ho <;> simp only [ho, hs] <;> exact hK _ (Grows.refl w)
theorem kindsR_load (t : Tmp) (ty : TypeId) {q v : Value} (hg : o.guard = none) (hn : noEff effs i = true) (ho : o.op = .load ty (.tmp t)) (hl : look u f t = .is q) (h : ∀ w', But rows base w' → (Instr.loadAt ty q).run P w' = .ok v w')
    (hr : wpTypAR P ops rows effs base f F (i + 1) rest (pushSlot u o.dst (.is v))) : wpTypAR P ops rows effs base f F i (o :: rest) u := by
  refine kindsR_is hg hn (fun ρ w K hw hf hK => ?_) hr
  rw [ho] at hf
  have hs : (look u f t).holds (ρ (.tmp t)) w := hf.1
  rw [hl] at hs
  have e : ρ (.tmp t) = q := hs
  unfold gives execOp
  simp only [ho, Sem.run_bind, e, h w hw, Result.andThen_ok, Sem.run_pure]
  exact hK _ (Grows.refl w)
/-- An operation that reads what is not yet stored. -/
theorem kindsR_pre {v : Value} (e : Eff) (he : e ∈ effs) (hw : Region.waitsFor .any ops e.at_ i = true) (hg : o.guard = none) (hn : noEff effs i = true) (h : ∀ (ρ : Operand → Value) (w : World) (K : Value → World → Prop), But rows base w → e.G w → fitsA u f o.op.operands.toList ρ w → (∀ w', Grows w w' → K v w') → gives P o ρ w K)
    (hr : wpTypAR P ops rows effs base f F (i + 1) rest (pushSlot u o.dst (.is v))) : wpTypAR P ops rows effs base f F i (o :: rest) u :=
  ⟨.is v, Slot.stableR_is _ v, by unfold OblAR; rw [hg]; exact fun ρ w K hw' hp hf hK => h ρ w K hw' (hp e he (.inr hw)) hf (fun w' hg' => hK v w' (But.of_grows hg') (.inr ⟨noEff_spec hn, hg'⟩) rfl), hr⟩
theorem kindsR_preload (t : Tmp) (ty : TypeId) {q v : Value} (e : Eff) (he : e ∈ effs) (hw : Region.waitsFor .any ops e.at_ i = true) (hg : o.guard = none) (hn : noEff effs i = true) (ho : o.op = .load ty (.tmp t)) (hl : look u f t = .is q) (h : ∀ w', e.G w' → (Instr.loadAt ty q).run P w' = .ok v w')
    (hr : wpTypAR P ops rows effs base f F (i + 1) rest (pushSlot u o.dst (.is v))) : wpTypAR P ops rows effs base f F i (o :: rest) u := by
  refine kindsR_pre e he hw hg hn (fun ρ w K _ hG hf hK => ?_) hr
  rw [ho] at hf
  have hs : (look u f t).holds (ρ (.tmp t)) w := hf.1
  rw [hl] at hs
  have e : ρ (.tmp t) = q := hs
  unfold gives execOp
  simp only [ho, Sem.run_bind, e, h w hG, Result.andThen_ok, Sem.run_pure]
  exact hK _ (Grows.refl w)
/-- A call whose answer is told, in memory of its own. -/
theorem kindsR_call {v : Value} (hg : o.guard = none) (hn : noEff effs i = true) (h : ∀ (ρ : Operand → Value) (w : World) (K : Value → World → Prop), But rows base w → fitsA u f o.op.operands.toList ρ w → (∀ w', Grows w w' → K v w') → gives P o ρ w K)
    (hr : wpTypAR P ops rows effs base f F (i + 1) rest (pushSlot u o.dst (.is v))) : wpTypAR P ops rows effs base f F i (o :: rest) u := kindsR_is hg hn h hr
/-- A store of a whole row. -/
theorem kindsR_row (tp tv : Tmp) (ty : TypeId) (g : Nat) (t : TypeId) (old cells : Array Value) (hg : o.guard = none) (hd : o.dst = none) (ho : o.op = .store ty (.tmp tp) (.tmp tv)) (hlp : look u f tp = .is (.pointer (some ⟨g, 0, none⟩))) (hlv : look u f tv = .is (.agg cells))
    (hm : (⟨i, fun w w' => w' = w.setRow g cells, fun w => Blk w g t old, fun w => Blk w g t cells⟩ : Eff) ∈ effs) (hgr : g ∈ rows) (hi : (P.info? ty).map (·.size) = some cells.size) (hold : old.size = cells.size) (h1 : cells.all (·.oneCell') = true)
    (hr : wpTypAR P ops rows effs base f F (i + 1) rest u) : wpTypAR P ops rows effs base f F i (o :: rest) u := by
  refine ⟨.is undef, Slot.stableR_is _ _, ?_, by rw [hd]; exact hr⟩
  unfold OblAR
  rw [hg]
  intro ρ w K hw hpre hf hK
  rw [ho] at hf
  have e1 : ρ (.tmp tp) = .pointer (some ⟨g, 0, none⟩) := by
    have : (look u f tp).holds (ρ (.tmp tp)) w := hf.1
    rw [hlp] at this
    exact this
  have e2 : ρ (.tmp tv) = .agg cells := by
    have : (look u f tv).holds (ρ (.tmp tv)) w := hf.2.1
    rw [hlv] at this
    exact this
  have hB : Blk w g t old := hpre _ hm (.inl rfl)
  have key : (Instr.storeAt ty (.pointer (some ⟨g, 0, none⟩)) (.agg cells)).run P w = .ok () (w.setRow g cells) := by
    simp only [Instr.storeAt, Instr.sureAddr, Sem.run_bind, Sem.run_pure, Result.andThen_ok, run_storeVar_row w g t ty old cells hB hi hold h1]
  unfold gives execOp
  simp only [ho, Sem.run_bind, e1, e2, key, Result.andThen_ok, Sem.run_pure]
  exact hK undef _ (but_setRow hgr cells) (.inl ⟨_, hm, rfl, rfl, Blk.setRow hB cells⟩) rfl
/-- A store of one cell. -/
theorem kindsR_cell (tp tv : Tmp) (ty : TypeId) (g k : Nat) (t : TypeId) (old : Array Value) (v : Value) (hg : o.guard = none) (hd : o.dst = none) (ho : o.op = .store ty (.tmp tp) (.tmp tv)) (hlp : look u f tp = .is (.pointer (some ⟨g, k, none⟩))) (hlv : look u f tv = .is v)
    (hm : (⟨i, fun w w' => w' = w.setCell ⟨g, k, none⟩ v, fun w => Blk w g t old, fun w => Blk w g t (old.setIfInBounds k v)⟩ : Eff) ∈ effs) (hgr : g ∈ rows) (key : ∀ w : World, Blk w g t old → (Instr.storeAt ty (.pointer (some ⟨g, k, none⟩)) v).run P w = .ok () (w.setCell ⟨g, k, none⟩ v))
    (hr : wpTypAR P ops rows effs base f F (i + 1) rest u) : wpTypAR P ops rows effs base f F i (o :: rest) u := by
  refine ⟨.is undef, Slot.stableR_is _ _, ?_, by rw [hd]; exact hr⟩
  unfold OblAR
  rw [hg]
  intro ρ w K hw hpre hf hK
  rw [ho] at hf
  have e1 : ρ (.tmp tp) = .pointer (some ⟨g, k, none⟩) := by
    have : (look u f tp).holds (ρ (.tmp tp)) w := hf.1
    rw [hlp] at this
    exact this
  have e2 : ρ (.tmp tv) = v := by
    have : (look u f tv).holds (ρ (.tmp tv)) w := hf.2.1
    rw [hlv] at this
    exact this
  have hB : Blk w g t old := hpre _ hm (.inl rfl)
  unfold gives execOp
  simp only [ho, Sem.run_bind, e1, e2, key w hB, Result.andThen_ok, Sem.run_pure]
  exact hK undef _ (but_setCell hgr v) (.inl ⟨_, hm, rfl, rfl, hB.set_ k v⟩) rfl
/-- A guarded operation that is wanted. -/
theorem kindsR_on {g : Nat} {b : Bool} {d : Tmp} (hg : o.guard = some (g, b)) (hd : dstOf ops g = some d) (hl : look u f d = .is (.bool b)) (h : wpTypAR P ops rows effs base f F i ({ o with guard := none } :: rest) u) : wpTypAR P ops rows effs base f F i (o :: rest) u := by
  obtain ⟨S, hS, ho, hr⟩ := h
  refine ⟨S, hS, ?_, hr⟩
  unfold OblAR
  rw [hg]
  simp only [hd, hl, if_true]
  exact ho
end
/-- One store alone. -/
theorem effs_one {base : World} {e : Eff} (hB : e.G base) (hG : ∀ w w', Grows w w' → e.G w → e.G w') (hF : ∀ w w', Grows w w' → e.F w → e.F w') : Effs [e] base := by
  refine ⟨?_, ?_, ?_, ?_, ?_, ?_⟩
  · intro a ha b hb _
    simp only [List.mem_cons, List.not_mem_nil, or_false] at ha hb
    rw [ha, hb]
  · intro a ha
    simp only [List.mem_cons, List.not_mem_nil, or_false] at ha
    rw [ha]; exact hB
  · intro a ha
    simp only [List.mem_cons, List.not_mem_nil, or_false] at ha
    rw [ha]; exact hG
  · intro a ha
    simp only [List.mem_cons, List.not_mem_nil, or_false] at ha
    rw [ha]; exact hF
  · intro a ha b hb hne
    simp only [List.mem_cons, List.not_mem_nil, or_false] at ha hb
    exact absurd (by rw [ha, hb]) hne
  · intro a ha b hb hne
    simp only [List.mem_cons, List.not_mem_nil, or_false] at ha hb
    exact absurd (by rw [ha, hb]) hne
theorem notin1 {g a : Nat} (h : g ≠ a) : g ∉ [a] := by simpa using h
theorem notin2 {g a b : Nat} (h : g ≠ a) (h' : g ≠ b) : g ∉ [a, b] := by simp [h, h']
abbrev effRow (i g : Nat) (t : TypeId) (old cells : Array Value) : Eff := ⟨i, fun w w' => w' = w.setRow g cells, fun w => Blk w g t old, fun w => Blk w g t cells⟩
abbrev effCell (i g k : Nat) (t : TypeId) (old : Array Value) (v : Value) : Eff := ⟨i, fun w w' => w' = w.setCell ⟨g, k, none⟩ v, fun w => Blk w g t old, fun w => Blk w g t (old.setIfInBounds k v)⟩
theorem effs_row {base : World} {i g : Nat} {t : TypeId} {old cells : Array Value} (B : Blk base g t old) : Effs [effRow i g t old cells] base :=
  effs_one B (fun w _ hg (hG : Blk w g t old) => hG.below hg hG.lt) (fun w _ hg (hG : Blk w g t cells) => hG.below hg hG.lt)
theorem effs_cell {base : World} {i g k : Nat} {t : TypeId} {old : Array Value} {v : Value} (B : Blk base g t old) : Effs [effCell i g k t old v] base :=
  effs_one B (fun w _ hg (hG : Blk w g t old) => hG.below hg hG.lt) (fun w _ hg (hG : Blk w g t (old.setIfInBounds k v)) => hG.below hg hG.lt)
theorem cell_but {rows : List Nat} {w : World} {g : Nat} {t : TypeId} {cs : Array Value} {i : Nat} {v : Value} (h : Blk w g t cs) (hg : g ∉ rows) (hv : cs[i]? = some v) : ∀ w', But rows w w' → w'.cell? ⟨g, i, none⟩ = some v :=
  fun _ hb => ((h.but hb hg).cell i).trans hv
/-- Two stores of whatever kind, each once. -/
theorem effs_pair {base : World} {e d : Eff} (hne : e.at_ ≠ d.at_) (hB : e.G base) (hB' : d.G base) (hG : ∀ w w', Grows w w' → e.G w → e.G w') (hF : ∀ w w', Grows w w' → e.F w → e.F w') (hG' : ∀ w w', Grows w w' → d.G w → d.G w') (hF' : ∀ w w', Grows w w' → d.F w → d.F w')
    (h1 : ∀ w w', d.E w w' → e.G w → e.G w') (h2 : ∀ w w', d.E w w' → e.F w → e.F w') (h3 : ∀ w w', e.E w w' → d.G w → d.G w') (h4 : ∀ w w', e.E w w' → d.F w → d.F w') : Effs [e, d] base := by
  refine ⟨?_, ?_, ?_, ?_, ?_, ?_⟩
  · intro a ha b hb h
    simp only [List.mem_cons, List.not_mem_nil, or_false] at ha hb
    rcases ha with rfl | rfl <;> rcases hb with rfl | rfl <;> first | rfl | exact absurd h hne | exact absurd h.symm hne
  · intro a ha
    simp only [List.mem_cons, List.not_mem_nil, or_false] at ha
    rcases ha with rfl | rfl <;> assumption
  · intro a ha
    simp only [List.mem_cons, List.not_mem_nil, or_false] at ha
    rcases ha with rfl | rfl <;> assumption
  · intro a ha
    simp only [List.mem_cons, List.not_mem_nil, or_false] at ha
    rcases ha with rfl | rfl <;> assumption
  · intro a ha b hb hab
    simp only [List.mem_cons, List.not_mem_nil, or_false] at ha hb
    rcases ha with rfl | rfl <;> rcases hb with rfl | rfl <;> first | exact absurd rfl hab | assumption
  · intro a ha b hb hab
    simp only [List.mem_cons, List.not_mem_nil, or_false] at ha hb
    rcases ha with rfl | rfl <;> rcases hb with rfl | rfl <;> first | exact absurd rfl hab | assumption
theorem effs_cells {base : World} {i j g h k l : Nat} {t t' : TypeId} {old old' : Array Value} {v v' : Value} (hij : i ≠ j) (hgh : g ≠ h) (B : Blk base g t old) (B' : Blk base h t' old') : Effs [effCell i g k t old v, effCell j h l t' old' v'] base :=
  effs_pair hij B B' (fun w _ hg (hG : Blk w g t old) => hG.below hg hG.lt) (fun w _ hg (hG : Blk w g t (old.setIfInBounds k v)) => hG.below hg hG.lt) (fun w _ hg (hG : Blk w h t' old') => hG.below hg hG.lt) (fun w _ hg (hG : Blk w h t' (old'.setIfInBounds l v')) => hG.below hg hG.lt)
    (fun w w' (hE : w' = w.setCell ⟨h, l, none⟩ v') (hG : Blk w g t old) => by subst hE; exact hG.far (p := ⟨h, l, none⟩) hgh _) (fun w w' (hE : w' = w.setCell ⟨h, l, none⟩ v') (hG : Blk w g t (old.setIfInBounds k v)) => by subst hE; exact hG.far (p := ⟨h, l, none⟩) hgh _)
    (fun w w' (hE : w' = w.setCell ⟨g, k, none⟩ v) (hG : Blk w h t' old') => by subst hE; exact hG.far (p := ⟨g, k, none⟩) (Ne.symm hgh) _) (fun w w' (hE : w' = w.setCell ⟨g, k, none⟩ v) (hG : Blk w h t' (old'.setIfInBounds l v')) => by subst hE; exact hG.far (p := ⟨g, k, none⟩) (Ne.symm hgh) _)
/-- Two rows stored, each once. -/
theorem effs_two {base : World} {i j g h : Nat} {t t' : TypeId} {old cs old' cs' : Array Value} (hij : i ≠ j) (hgh : g ≠ h) (B : Blk base g t old) (B' : Blk base h t' old') :
    Effs [effRow i g t old cs, effRow j h t' old' cs'] base := by
  refine ⟨?_, ?_, ?_, ?_, ?_, ?_⟩
  · intro e he e' he' h1
    simp only [List.mem_cons, List.not_mem_nil, or_false] at he he'
    rcases he with rfl | rfl <;> rcases he' with rfl | rfl <;> first | rfl | exact absurd h1 hij | exact absurd h1.symm hij
  · intro e he
    simp only [List.mem_cons, List.not_mem_nil, or_false] at he
    rcases he with rfl | rfl
    · exact B
    · exact B'
  · intro e he w w' hg hG
    simp only [List.mem_cons, List.not_mem_nil, or_false] at he
    rcases he with rfl | rfl <;> exact Blk.below (w := w) hG hg (Blk.lt hG)
  · intro e he w w' hg hG
    simp only [List.mem_cons, List.not_mem_nil, or_false] at he
    rcases he with rfl | rfl <;> exact Blk.below (w := w) hG hg (Blk.lt hG)
  · intro e he e' he' hne w w' hE hG
    simp only [List.mem_cons, List.not_mem_nil, or_false] at he he'
    rcases he with rfl | rfl <;> rcases he' with rfl | rfl
    · exact absurd rfl hne
    · obtain rfl := hE
      exact Blk.setRow_far hG hgh _
    · obtain rfl := hE
      exact Blk.setRow_far hG (Ne.symm hgh) _
    · exact absurd rfl hne
  · intro e he e' he' hne w w' hE hG
    simp only [List.mem_cons, List.not_mem_nil, or_false] at he he'
    rcases he with rfl | rfl <;> rcases he' with rfl | rfl
    · exact absurd rfl hne
    · obtain rfl := hE
      exact Blk.setRow_far hG hgh _
    · obtain rfl := hE
      exact Blk.setRow_far hG (Ne.symm hgh) _
    · exact absurd rfl hne
end Go.Proofs.Ythdanjbgbbcafaa
