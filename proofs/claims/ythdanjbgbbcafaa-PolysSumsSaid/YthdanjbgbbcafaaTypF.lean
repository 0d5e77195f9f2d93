/- Regions that draw their order and make variables: each new block by a ghost name. Laws alone, of whatever program. -/
import Derived.Test.YthdanjbgbbcafaaTypR
namespace Go.Proofs.Ythdanjbgbbcafaa
open Go Go.RowKit

/-- A block that the region makes and fills: its making, its filling. -/
structure Fresh where
  al : Nat
  st : Nat
  t : TypeId
  z : Array Value
  cells : Array Value
def FreshAt (ops : Array Oper) (fr : List Fresh) (base : World) (listed : Array Bool) (γ : Nat → Nat) (a : Act) (w : World) : Prop :=
  (∀ f ∈ fr, listed.getD f.al false = true → base.heap.size ≤ γ f.al ∧ γ f.al < w.heap.size ∧ Blk w (γ f.al) f.t (if listed.getD f.st false = true then f.cells else f.z) ∧ ∀ d, dstOf ops f.al = some d → a.tmps.getD d undef = .pointer (some ⟨γ f.al, 0, none⟩)) ∧
  (∀ f ∈ fr, ∀ f' ∈ fr, listed.getD f.al false = true → listed.getD f'.al false = true → f.al ≠ f'.al → γ f.al ≠ γ f'.al)
/-- A step of such a region: what lay below stays; a block that may be none of the variables stays too. -/
structure FStep (fr : List Fresh) (base w w' : World) : Prop where
  below : Below base.heap.size w w'
  other : ∀ (k : Nat) (cs : Array Value) (t : TypeId), w.heap[k]? = some (.cells cs t (0, 0)) → (∀ f ∈ fr, f.t ≠ t ∨ f.z.size ≠ cs.size) → w'.heap[k]? = w.heap[k]?
theorem FStep.of_grows {fr : List Fresh} {base w w' : World} (h : Grows w w') (hb : base.heap.size ≤ w.heap.size) : FStep fr base w w' :=
  ⟨h.mono hb, fun k _ _ hk _ => h.block k (Array.getElem?_eq_some_iff.1 hk).1⟩
theorem FStep.of_row {fr : List Fresh} {base w : World} {f : Fresh} {g : Nat} (hf : f ∈ fr) (B : Blk w g f.t f.z) (hb : base.heap.size ≤ g) (cs : Array Value) : FStep fr base w (w.setRow g cs) :=
  ⟨below_setRow (Below.refl _ w) hb _, fun k cs' t hk hn => by
    simp only [World.setRow, Array.getElem?_modify]
    by_cases e : g = k
    · subst e
      rw [show w.heap[g]? = _ from B] at hk
      injection hk with hk
      injection hk with h1 h2
      rcases hn f hf with h | h
      · exact absurd h2 h
      · exact absurd (by rw [h1]) h
    · rw [if_neg e]⟩
theorem Blk.fstep {fr : List Fresh} {base w w' : World} {g : Nat} {t : TypeId} {cs : Array Value} (h : Blk w g t cs) (hs : FStep fr base w w') (hn : ∀ f ∈ fr, f.t ≠ t ∨ f.z.size ≠ cs.size) : Blk w' g t cs := (hs.other g cs t h hn).trans h
def Slot.stableF (fr : List Fresh) (base : World) (s : Slot) : Prop := ∀ v w w', s.holds v w → FStep fr base w w' → s.holds v w'
theorem Slot.stableF_is (fr : List Fresh) (base : World) (v : Value) : (Slot.is v).stableF fr base := fun _ _ _ h _ => h
theorem Slot.stableF_any (fr : List Fresh) (base : World) : (Slot.like fun _ _ => True).stableF fr base := fun _ _ _ _ _ => True.intro
def freshB (ops : Array Oper) (fr : List Fresh) : Bool :=
  (fr.all fun f => decide (f.al < ops.size) && decide (f.st < ops.size) && Region.waitsFor .any ops f.st f.al && (fr.all fun f' => !(Nat.beq f.al f'.st))) &&
  ((List.range fr.length).all fun i => (List.range fr.length).all fun j => Nat.beq i j || (match fr[i]?, fr[j]? with | some f, some g => !(Nat.beq f.al g.al) && !(Nat.beq f.st g.st) | _, _ => true))
theorem freshB_one {ops : Array Oper} {fr : List Fresh} (h : freshB ops fr = true) : (∀ f ∈ fr, f.al < ops.size ∧ f.st < ops.size ∧ Region.waitsFor .any ops f.st f.al = true ∧ ∀ f' ∈ fr, f.al ≠ f'.st) ∧ (∀ f ∈ fr, ∀ g ∈ fr, f.al = g.al ∨ f.st = g.st → f = g) := by
  unfold freshB at h
  simp only [Bool.and_eq_true, List.all_eq_true, decide_eq_true_eq, List.mem_range, Bool.or_eq_true, Bool.not_eq_true'] at h
  refine ⟨fun f hf => ?_, fun f hf g hg heq => ?_⟩
  · obtain ⟨⟨⟨h1, h2⟩, h3⟩, h4⟩ := h.1 f hf
    exact ⟨h1, h2, h3, fun f' hf' e => by have := h4 f' hf'; rw [e] at this; simp at this⟩
  · obtain ⟨i, hi, rfl⟩ := List.getElem_of_mem hf
    obtain ⟨j, hj, rfl⟩ := List.getElem_of_mem hg
    rcases h.2 i hi j hj with e | e
    · have : i = j := Nat.eq_of_beq_eq_true e
      subst this; rfl
    · rw [List.getElem?_eq_getElem hi, List.getElem?_eq_getElem hj] at e
      simp only [Bool.and_eq_true, Bool.not_eq_true'] at e
      rcases heq with heq | heq
      · rw [heq] at e; simp at e
      · rw [heq] at e; simp at e
def OblF (P : Program) (ops : Array Oper) (fr : List Fresh) (base : World) (i : Nat) (Γ : List Slot) (o : Oper) (S : Slot) : Prop :=
  ((∀ f ∈ fr, f.al ≠ i ∧ f.st ≠ i) ∧ Obl P ops base Γ o S) ∨
  (∃ f ∈ fr, f.al = i ∧ o.guard = none ∧ S = .like (fun _ _ => True) ∧ ∀ (ρ : Operand → Value) (w : World), (execOp ρ o).run P w = .ok (.value (.pointer (some ⟨w.heap.size, 0, none⟩))) (w.alloc (.cells f.z f.t))) ∨
  (∃ f ∈ fr, f.st = i ∧ o.guard = none ∧ o.dst = none ∧ ∃ d, dstOf ops f.al = some d ∧ ∀ (a : Act) (w : World) (g : Nat), Blk w g f.t f.z → a.tmps.size = Γ.length → a.tmps.getD d undef = .pointer (some ⟨g, 0, none⟩) → fits Γ (o.looksAt ops) a.eval w → ∃ n, (n = .skip ∨ ∃ v, n = .value v) ∧ (execOp a.eval o).run P w = .ok n (w.setRow g f.cells))
def wpTypF (P : Program) (ops : Array Oper) (fr : List Fresh) (base : World) (F : List Slot → Prop) : Nat → List Oper → List Slot → Prop
  | _, [], Γ => F Γ
  | i, o :: rest, Γ => ∃ S : Slot, S.stableF fr base ∧ OblF P ops fr base i Γ o S ∧ wpTypF P ops fr base F (i + 1) rest (setSlot Γ o.dst S)
section
variable {P : Program} {ops : Array Oper} {fr : List Fresh} {base : World} {d0 : List Deferred} {Γs : Nat → List Slot}
theorem wpTypF_extract {F : List Slot → Prop} : ∀ (l : List Oper) (i : Nat) (Γ : List Slot), wpTypF P ops fr base F i l Γ →
    ∃ Γs : Nat → List Slot, Γs 0 = Γ ∧ (∀ (j : Nat) (o : Oper), l[j]? = some o → ∃ S : Slot, S.stableF fr base ∧ OblF P ops fr base (i + j) (Γs j) o S ∧ Γs (j + 1) = setSlot (Γs j) o.dst S) ∧ F (Γs l.length)
  | [], _, Γ, h => ⟨fun _ => Γ, rfl, fun j o hj => by simp at hj, h⟩
  | o :: rest, i, Γ, h => by
    obtain ⟨S, hs, ho, hr⟩ := h
    obtain ⟨Γs, h0, h1, h2⟩ := wpTypF_extract rest (i + 1) _ hr
    refine ⟨fun j => match j with | 0 => Γ | j + 1 => Γs j, rfl, ?_, h2⟩
    intro j o' hj
    cases j with
    | zero =>
      simp only [List.getElem?_cons_zero, Option.some.injEq] at hj
      subst hj
      exact ⟨S, hs, ho, h0⟩
    | succ j =>
      simp only [List.getElem?_cons_succ] at hj
      obtain ⟨S', a1, a2, a3⟩ := h1 j o' hj
      exact ⟨S', a1, by rw [show i + (j + 1) = i + 1 + j by omega]; exact a2, a3⟩
theorem gsF_len (hΓ : ∀ (j : Nat) (o : Oper), ops[j]? = some o → ∃ S : Slot, S.stableF fr base ∧ OblF P ops fr base j (Γs j) o S ∧ Γs (j + 1) = setSlot (Γs j) o.dst S) : ∀ i, i ≤ ops.size → (Γs i).length = (Γs 0).length
  | 0, _ => rfl
  | i + 1, h => by
    obtain ⟨S, _, _, e⟩ := hΓ i _ (Array.getElem?_eq_getElem (by omega))
    rw [e, setSlot_length]
    exact gsF_len hΓ i (by omega)
theorem gsF_keep (hΓ : ∀ (j : Nat) (o : Oper), ops[j]? = some o → ∃ S : Slot, S.stableF fr base ∧ OblF P ops fr base j (Γs j) o S ∧ Γs (j + 1) = setSlot (Γs j) o.dst S) (t : Tmp) : ∀ (k i : Nat), i + k ≤ ops.size → (∀ j, i ≤ j → j < i + k → dstOf ops j ≠ some t) → (Γs (i + k))[t]? = (Γs i)[t]?
  | 0, _, _, _ => rfl
  | k + 1, i, h, hw => by
    have ih := gsF_keep hΓ t k i (by omega) (fun j h1 h2 => hw j h1 (by omega))
    obtain ⟨S, _, _, e⟩ := hΓ (i + k) _ (Array.getElem?_eq_getElem (by omega))
    have hne := hw (i + k) (by omega) (by omega)
    rw [show i + (k + 1) = i + k + 1 by omega, e, ← ih]
    unfold dstOf at hne
    rw [Array.getElem?_eq_getElem (by omega)] at hne
    simp only [Option.bind_some] at hne
    cases hd : (ops[i + k]'(by omega)).dst with
    | none => rfl
    | some d =>
      rw [hd] at hne
      have hdt : d ≠ t := fun e => hne (by rw [e])
      simp only [setSlot]
      rw [List.getElem?_set_ne hdt]
structure TInvF (fr : List Fresh) (base : World) (d0 : List Deferred) (Γ0 : List Slot) (Γs : Nat → List Slot) (ops : Array Oper) (listed : Array Bool) (a : Act) (w : World) : Prop where
  grows : Grows base w
  defers : a.defers = d0
  size : a.tmps.size = Γ0.length
  done : ∀ j, j < ops.size → listed.getD j false = true → ∀ d s, dstOf ops j = some d → (Γs (j + 1))[d]? = some s → s.holds (a.tmps.getD d undef) w
  rest : ∀ t s, (∀ j, j < ops.size → listed.getD j false = true → dstOf ops j ≠ some t) → Γ0[t]? = some s → s.holds (a.tmps.getD t undef) w
  fresh : ∃ γ, FreshAt ops fr base listed γ a w
theorem typF_any {Q : Exit → Act → World → Prop} (hh : headB ops ops.size = true) (hfr : freshB ops fr = true)
    (hΓ : ∀ (j : Nat) (o : Oper), ops[j]? = some o → ∃ S : Slot, S.stableF fr base ∧ OblF P ops fr base j (Γs j) o S ∧ Γs (j + 1) = setSlot (Γs j) o.dst S)
    (hsz : ∀ f ∈ fr, ∀ d, dstOf ops f.al = some d → d < (Γs 0).length)
    (h0 : ∀ s ∈ Γs 0, s.stableF fr base)
    (hF : ∀ (a : Act) (w : World) (γ : Nat → Nat), Grows base w → (∀ f ∈ fr, base.heap.size ≤ γ f.al ∧ Blk w (γ f.al) f.t f.cells ∧ ∀ d, dstOf ops f.al = some d → a.tmps.getD d undef = .pointer (some ⟨γ f.al, 0, none⟩)) → (∀ f ∈ fr, ∀ f' ∈ fr, f.al ≠ f'.al → γ f.al ≠ γ f'.al) → a.defers = d0 → a.tmps.size = (Γs ops.size).length → (∀ (t : Nat) (s : Slot), (Γs ops.size)[t]? = some s → s.holds (a.tmps.getD t undef) w) → Q .normal a w) :
    ∀ (m : Nat) (listed : Array Bool) (a : Act) (w : World), openCount ops.size listed = m → HeadInv .any ops ops.size listed → TInvF fr base d0 (Γs 0) Γs ops listed a w → wpAny P .any ops Q m listed a w
  | 0, listed, a, w, hc, inv, ti => by
    obtain ⟨hf1, hf2⟩ := freshB_one hfr
    have hno : Region.ready .any ops listed = [] := by
      apply List.eq_nil_iff_forall_not_mem.2
      intro i hi
      obtain ⟨hun, o, ho, _⟩ := mem_ready.1 hi
      have hlt := (Array.getElem?_eq_some_iff.1 ho).1
      have := open_none hc i hlt
      rw [hun] at this
      cases this
    have hall : ∀ j, j < ops.size → listed.getD j false = true := fun j hj => getD_of_true (open_none hc j hj) (by rw [inv.size]; exact hj)
    obtain ⟨γ, hγ1, hγ2⟩ := ti.fresh
    refine ⟨hno, hF a w γ ti.grows (fun f hm => ?_) (fun f hm f' hm' hne => hγ2 f hm f' hm' (hall _ (hf1 f hm).1) (hall _ (hf1 f' hm').1) hne) ti.defers (ti.size.trans (gsF_len hΓ _ (Nat.le_refl _)).symm) ?_⟩
    · obtain ⟨b1, _, b3, b4⟩ := hγ1 f hm (hall _ (hf1 f hm).1)
      rw [if_pos (hall _ (hf1 f hm).2.1)] at b3
      exact ⟨b1, b3, b4⟩
    intro t s hs
    by_cases hw : ∃ j, j < ops.size ∧ dstOf ops j = some t
    · obtain ⟨j, hj, hd⟩ := hw
      refine ti.done j hj (hall j hj) t s hd ?_
      have hk := gsF_keep hΓ t (ops.size - (j + 1)) (j + 1) (by omega) (fun k h1 h2 hk => by
        have := head_slots hh (i := k) (j := j) (by omega) hj (by omega) (Array.getElem?_eq_getElem (by omega)) hd
        unfold dstOf at hk
        rw [Array.getElem?_eq_getElem (by omega)] at hk
        exact this.1 hk)
      rw [show j + 1 + (ops.size - (j + 1)) = ops.size by omega] at hk
      rw [← hk]
      exact hs
    · refine ti.rest t s (fun j hj _ hd => hw ⟨j, hj, hd⟩) ?_
      have hk := gsF_keep hΓ t ops.size 0 (by omega) (fun k _ h2 hk => hw ⟨k, by omega, hk⟩)
      rw [Nat.zero_add] at hk
      rw [← hk]
      exact hs
  | m + 1, listed, a, w, hc, inv, ti => by
    obtain ⟨hf1, hf2⟩ := freshB_one hfr
    have hready : ∃ i, i ∈ Region.ready .any ops listed := by
      obtain ⟨i0, hi0, hu0⟩ := open_some (n := ops.size) (listed := listed) (by omega)
      have key : ∀ i, i < ops.size → listed.getD i true = false → ∃ i, i ∈ Region.ready .any ops listed := by
        intro i
        induction i using Nat.strongRecOn with
        | _ i ih =>
          intro hi hu
          by_cases hr : i ∈ Region.ready .any ops listed
          · exact ⟨i, hr⟩
          · have hex : ∃ e ∈ (ops[i]'(by omega)).after, Region.binds .any e = true ∧ listed.getD e.on false = false := by
              apply Classical.byContradiction
              intro hno
              apply hr
              rw [mem_ready]
              refine ⟨hu, _, Array.getElem?_eq_getElem (by omega), fun e he hb => ?_⟩
              cases hl : listed.getD e.on false with
              | true => rfl
              | false => exact absurd ⟨e, he, hb, hl⟩ hno
            obtain ⟨e, he, hb, hl⟩ := hex
            have hlt := head_edges hh hi (Array.getElem?_eq_getElem (by omega)) e he hb
            exact ih e.on hlt (by omega) (getD_in (by rw [inv.size]; omega) hl)
      exact key i0 hi0 hu0
    refine ⟨(fun h => by obtain ⟨i, hi⟩ := hready; rw [h] at hi; cases hi), fun i hi => ?_⟩
    obtain ⟨hun, o, ho, hafter⟩ := mem_ready.1 hi
    have hin : i < ops.size := (Array.getElem?_eq_some_iff.1 ho).1
    have hil : i < listed.size := by rw [inv.size]; exact hin
    obtain ⟨S, hS, hobl, hnext⟩ := hΓ i o ho
    have hdst : dstOf ops i = o.dst := by unfold dstOf; rw [ho]; rfl
    have hfit : fits (Γs i) (o.looksAt ops) a.eval w := by
      intro t htl s hs
      show s.holds (a.tmps.getD t undef) w
      by_cases hw : ∃ j, j < i ∧ dstOf ops j = some t
      · obtain ⟨j, hj, hd⟩ := hw
        have hwait := (head_slots hh (i := i) (j := j) hin (by omega) (by omega) ho hd).2 htl
        rw [if_pos hj] at hwait
        obtain ⟨o', ho', e, he, hb, hon⟩ := Region.waitsFor_spec hwait
        have : o' = o := Option.some.inj (ho'.symm.trans ho)
        subst this
        have hlj := hafter e he hb
        rw [hon] at hlj
        refine ti.done j (by omega) hlj t s hd ?_
        have hk := gsF_keep hΓ t (i - (j + 1)) (j + 1) (by omega) (fun k h1 h2 hk => by
          have := head_slots hh (i := k) (j := j) (by omega) (by omega) (by omega) (Array.getElem?_eq_getElem (by omega)) hd
          unfold dstOf at hk
          rw [Array.getElem?_eq_getElem (by omega)] at hk
          exact this.1 hk)
        rw [show j + 1 + (i - (j + 1)) = i by omega] at hk
        rw [← hk]
        exact hs
      · refine ti.rest t s (fun j hj hlj hd => ?_) ?_
        · have hji : j ≠ i := fun e => by
            subst e
            rw [getD_both hun] at hlj
            cases hlj
          have hgt : ¬ j < i := fun h => hw ⟨j, h, hd⟩
          have hwait := (head_slots hh (i := i) (j := j) hin hj (Ne.symm hji) ho hd).2 htl
          rw [if_neg hgt] at hwait
          obtain ⟨oj, hoj, e, he, hb, hon⟩ := Region.waitsFor_spec hwait
          have := inv.closed j oj hoj hlj e he hb
          rw [hon, getD_both hun] at this
          cases this
        · have hk := gsF_keep hΓ t i 0 (by omega) (fun k _ h2 hk => hw ⟨k, by omega, hk⟩)
          rw [Nat.zero_add] at hk
          rw [← hk]
          exact hs
    have hlen : a.tmps.size = (Γs i).length := ti.size.trans (gsF_len hΓ i (by omega)).symm
    have hput : ∀ v t, o.dst ≠ some t → (a.put o.dst v).tmps.getD t undef = a.tmps.getD t undef := by
      intro v t hne
      cases hd' : o.dst with
      | none => rfl
      | some d' =>
        have : d' ≠ t := fun e => hne (by rw [hd', e])
        simp [Act.put, Array.getElem?_setIfInBounds_ne this]
    have hafterStep : ∀ v w', FStep fr base w w' → S.holds v w' → (∃ γ, FreshAt ops fr base (listed.setIfInBounds i true) γ (a.put o.dst v) w') → wpAny P .any ops Q m (listed.setIfInBounds i true) (a.put o.dst v) w' := by
      intro v w' hg hv hfresh
      refine typF_any hh hfr hΓ hsz h0 hF m _ _ _ (by have := open_set (n := ops.size) hin hun; omega) (inv.set hi hin) ?_
      have hst : ∀ j, j < ops.size → ∀ d s, dstOf ops j = some d → (Γs (j + 1))[d]? = some s → s.stableF fr base := fun j hj d s hd hs => by
        obtain ⟨S', hS', _, hn'⟩ := hΓ j _ (Array.getElem?_eq_getElem (by omega))
        unfold dstOf at hd
        rw [Array.getElem?_eq_getElem (by omega)] at hd
        simp only [Option.bind_some] at hd
        rw [hn', hd] at hs
        simp only [setSlot] at hs
        rw [List.getElem?_set_self'] at hs
        cases hq' : (Γs j)[d]? with
        | none => rw [hq'] at hs; cases hs
        | some x => rw [hq'] at hs; injection hs with hs; exact hs ▸ hS'
      refine ⟨Below.trans ti.grows hg.below, ?_, ?_, ?_, ?_, hfresh⟩
      · cases hd : o.dst <;> simp [Act.put, ti.defers]
      · cases hd : o.dst <;> simp [Act.put, ti.size]
      · intro j hj hl d s hd hs
        by_cases hji : j = i
        · subst hji
          rw [hdst] at hd
          rw [hnext, hd] at hs
          simp only [setSlot] at hs
          rw [List.getElem?_set_self'] at hs
          have hdl : d < (Γs j).length := by
            rcases Nat.lt_or_ge d (Γs j).length with h | h
            · exact h
            · rw [List.getElem?_eq_none h] at hs; cases hs
          rw [List.getElem?_eq_getElem hdl] at hs
          injection hs with hs
          subst hs
          rw [hd]
          have hds : d < a.tmps.size := by rw [hlen]; exact hdl
          simpa [Act.put, hds] using hv
        · rw [getD_set_ne false (Ne.symm hji)] at hl
          have hold := ti.done j hj hl d s hd hs
          rw [hput v d (head_slots hh (i := i) (j := j) hin hj (Ne.symm hji) ho hd).1]
          exact hst j hj d s hd hs _ _ _ hold hg
      · intro t s hno hs
        have hne : o.dst ≠ some t := by
          rw [← hdst]
          refine hno i hin ?_
          simp [hil]
        rw [hput v t hne]
        exact h0 s (List.mem_of_getElem? hs) _ _ _ (ti.rest t s (fun j hj hl => hno j hj (getD_set_true hl)) hs) hg
    obtain ⟨γ, hγ1, hγ2⟩ := ti.fresh
    have hself : (listed.setIfInBounds i true).getD i false = true := by simp [hil]
    unfold wpOp
    rw [ho]
    simp only []
    rcases hobl with ⟨hnf, hob⟩ | ⟨f, hfm, hfi, hgd, hSe, hrun⟩ | ⟨f, hfm, hfi, hgd, hdn, d, hfd, hrun⟩
    · have hkeep : ∀ v w', Grows w w' → FreshAt ops fr base (listed.setIfInBounds i true) γ (a.put o.dst v) w' := by
        intro v w' hg
        refine ⟨fun f hm hl => ?_, fun f hm f' hm' hl hl' hne => ?_⟩
        · rw [getD_set_ne false (Ne.symm (hnf f hm).1)] at hl
          rw [getD_set_ne false (Ne.symm (hnf f hm).2)]
          obtain ⟨b1, b2, b3, b4⟩ := hγ1 f hm hl
          refine ⟨b1, Nat.lt_of_lt_of_le b2 hg.size, b3.below hg b2, fun d hd => ?_⟩
          rw [hput v d (head_slots hh (i := i) (j := f.al) hin (hf1 f hm).1 (Ne.symm (hnf f hm).1) ho hd).1]
          exact b4 d hd
        · rw [getD_set_ne false (Ne.symm (hnf f hm).1)] at hl
          rw [getD_set_ne false (Ne.symm (hnf f' hm').1)] at hl'
          exact hγ2 f hm f' hm' hl hl' hne
      rcases hob a w ti.grows hlen hfit with ⟨hwt, hk⟩ | ⟨hwt, hu⟩
      · rw [if_pos hwt]
        exact .inl (wp_of_gives (hk (fun v w' => Grows w w' ∧ S.holds v w') (fun v w' h1 h2 => ⟨h1, h2⟩)) (fun v w' h => hafterStep v w' (FStep.of_grows h.1 ti.grows.size) h.2 ⟨γ, hkeep v w' h.1⟩))
      · rw [if_neg (by rw [hwt]; exact Bool.false_ne_true)]
        exact hafterStep undef w (FStep.of_grows (Grows.refl w) ti.grows.size) (hu w) ⟨γ, hkeep undef w (Grows.refl w)⟩
    · have hwt : Region.wanted o (yielded ops a.tmps) = true := by simp [Region.wanted, hgd]
      rw [if_pos hwt]
      refine .inl ?_
      unfold Oper.wp
      rw [hrun a.eval w]
      simp only [Oper.upon]
      refine hafterStep _ _ (FStep.of_grows ((Below.refl _ w).alloc (Nat.le_refl _) _) ti.grows.size) (by rw [hSe]; exact True.intro) ⟨fun j => if j = i then w.heap.size else γ j, fun f' hm hl => ?_, fun f1 hm1 f2 hm2 hl1 hl2 hne => ?_⟩
      · by_cases hal : f'.al = i
        · obtain rfl := hf2 f' hm f hfm (.inl (by rw [hal, hfi]))
          have hst : listed.getD f'.st false = false := by
            obtain ⟨oj, hoj, ed, hed, hb, hon⟩ := Region.waitsFor_spec (hf1 f' hm).2.2.1
            cases hl' : listed.getD f'.st false with
            | false => rfl
            | true =>
              have := inv.closed f'.st oj hoj hl' ed hed hb
              rw [hon, hal, getD_both hun] at this
              cases this
          have hne : i ≠ f'.st := fun e => (hf1 f' hm).2.2.2 f' hm (by rw [hal]; exact e)
          have e : (fun j => if j = i then w.heap.size else γ j) f'.al = w.heap.size := if_pos hal
          rw [getD_set_ne false hne, hst, if_neg Bool.false_ne_true, e]
          refine ⟨ti.grows.size, by simp, Blk.new w _ _, fun d hd => ?_⟩
          rw [hal, hdst] at hd
          rw [hd]
          have hdl : d < a.tmps.size := by
            rw [ti.size]
            exact hsz f' hm d (by rw [hal, hdst]; exact hd)
          simp [Act.put, hdl]
        · rw [getD_set_ne false (Ne.symm hal)] at hl
          have hne : i ≠ f'.st := fun e => (hf1 f hfm).2.2.2 f' hm (by rw [hfi]; exact e)
          have e : (fun j => if j = i then w.heap.size else γ j) f'.al = γ f'.al := if_neg hal
          rw [getD_set_ne false hne, e]
          obtain ⟨b1, b2, b3, b4⟩ := hγ1 f' hm hl
          refine ⟨b1, by simp; omega, b3.alloc _, fun d hd => ?_⟩
          rw [hput _ d (head_slots hh (i := i) (j := f'.al) hin (hf1 f' hm).1 (Ne.symm hal) ho hd).1]
          exact b4 d hd
      · show (if f1.al = i then w.heap.size else γ f1.al) ≠ (if f2.al = i then w.heap.size else γ f2.al)
        by_cases h1 : f1.al = i
        · have h2 : f2.al ≠ i := fun e => hne (by rw [h1, e])
          rw [if_pos h1, if_neg h2]
          rw [getD_set_ne false (Ne.symm h2)] at hl2
          have := (hγ1 f2 hm2 hl2).2.1
          omega
        · rw [if_neg h1]
          rw [getD_set_ne false (Ne.symm h1)] at hl1
          by_cases h2 : f2.al = i
          · rw [if_pos h2]
            have := (hγ1 f1 hm1 hl1).2.1
            omega
          · rw [if_neg h2]
            rw [getD_set_ne false (Ne.symm h2)] at hl2
            exact hγ2 f1 hm1 f2 hm2 hl1 hl2 hne
    · have hwt : Region.wanted o (yielded ops a.tmps) = true := by simp [Region.wanted, hgd]
      rw [if_pos hwt]
      refine .inl ?_
      have hal : listed.getD f.al false = true := by
        obtain ⟨oj, hoj, ed, hed, hb, hon⟩ := Region.waitsFor_spec (hf1 f hfm).2.2.1
        rw [hfi] at hoj
        have : oj = o := Option.some.inj (hoj.symm.trans ho)
        subst this
        have := hafter ed hed hb
        rw [hon] at this
        exact this
      obtain ⟨b1, b2, b3, b4⟩ := hγ1 f hfm hal
      rw [hfi, getD_both hun, if_neg Bool.false_ne_true] at b3
      obtain ⟨n, hn, hr⟩ := hrun a w (γ f.al) b3 hlen (b4 d hfd) hfit
      have hFS : FStep fr base w (w.setRow (γ f.al) f.cells) := FStep.of_row hfm b3 b1 _
      have hB : Below base.heap.size w (w.setRow (γ f.al) f.cells) := hFS.below
      have hfr' : ∀ v, FreshAt ops fr base (listed.setIfInBounds i true) γ (a.put o.dst v) (w.setRow (γ f.al) f.cells) := by
        intro v
        rw [hdn]
        refine ⟨fun f' hm hl => ?_, fun f1 hm1 f2 hm2 hl1 hl2 hne => ?_⟩
        · have hne : i ≠ f'.al := fun e => (hf1 f' hm).2.2.2 f hfm (by rw [hfi]; exact e.symm)
          rw [getD_set_ne false hne] at hl
          obtain ⟨c1, c2, c3, c4⟩ := hγ1 f' hm hl
          refine ⟨c1, by simp [World.setRow]; exact c2, ?_, c4⟩
          by_cases hst : f'.st = i
          · obtain rfl := hf2 f' hm f hfm (.inr (by rw [hst, hfi]))
            rw [hst, hself, if_pos rfl]
            exact b3.setRow _
          · rw [getD_set_ne false (Ne.symm hst)]
            have hff : f'.al ≠ f.al := fun e => hst (by rw [hf2 f' hm f hfm (.inl e), hfi])
            exact c3.setRow_far (hγ2 f' hm f hfm hl hal hff) _
        · have hne1 : i ≠ f1.al := fun e => (hf1 f1 hm1).2.2.2 f hfm (by rw [hfi]; exact e.symm)
          have hne2 : i ≠ f2.al := fun e => (hf1 f2 hm2).2.2.2 f hfm (by rw [hfi]; exact e.symm)
          rw [getD_set_ne false hne1] at hl1
          rw [getD_set_ne false hne2] at hl2
          exact hγ2 f1 hm1 f2 hm2 hl1 hl2 hne
      have hSv : ∀ v, (∀ d s, o.dst = some d → s = S → s.holds v (w.setRow (γ f.al) f.cells)) := fun v d s h _ => by rw [hdn] at h; cases h
      have hgo : ∀ v, wpAny P .any ops Q m (listed.setIfInBounds i true) (a.put o.dst v) (w.setRow (γ f.al) f.cells) := by
        intro v
        refine typF_any hh hfr hΓ hsz h0 hF m _ _ _ (by have := open_set (n := ops.size) hin hun; omega) (inv.set hi hin) ?_
        rw [hdn]
        refine ⟨Below.trans ti.grows hB, ti.defers, ti.size, fun j hj hl d' s hd' hs => ?_, fun t s hno hs => ?_, ⟨γ, by have := hfr' v; rw [hdn] at this; exact this⟩⟩
        · have hji : j ≠ i := fun e => by rw [e, hdst, hdn] at hd'; cases hd'
          rw [getD_set_ne false (Ne.symm hji)] at hl
          obtain ⟨S', hS', _, hn'⟩ := hΓ j _ (Array.getElem?_eq_getElem (by omega))
          have hst : s.stableF fr base := by
            have hd2 := hd'
            unfold dstOf at hd2
            rw [Array.getElem?_eq_getElem (by omega)] at hd2
            simp only [Option.bind_some] at hd2
            rw [hn', hd2] at hs
            simp only [setSlot] at hs
            rw [List.getElem?_set_self'] at hs
            cases hq' : (Γs j)[d']? with
            | none => rw [hq'] at hs; cases hs
            | some x => rw [hq'] at hs; injection hs with hs; exact hs ▸ hS'
          exact hst _ _ _ (ti.done j hj hl d' s hd' hs) hFS
        · exact h0 s (List.mem_of_getElem? hs) _ _ _ (ti.rest t s (fun j hj hl => hno j hj (getD_set_true hl)) hs) hFS
      unfold Oper.wp
      rw [hr]
      rcases hn with rfl | ⟨v, rfl⟩
      · simp only [Oper.upon]; exact hgo _
      · simp only [Oper.upon]; exact hgo _
end
/-- **A region that draws its order and makes variables, walked in the order of its text.** -/
theorem wp_region_typF {P : Program} {id : Nat} {Q : Exit → Act → World → Prop} {a : Act} {w : World} {l : List Oper} (fr : List Fresh) (hm : P.follows .mixedOrders = true) (hB : headB l.toArray l.length = true) (hfr : freshB l.toArray fr = true)
    (hsz : ∀ f ∈ fr, ∀ d, dstOf l.toArray f.al = some d → d < a.tmps.size)
    (h : wpTypF P l.toArray fr w.drew (fun Γ => ∀ (a' : Act) (w' : World) (γ : Nat → Nat), Grows w.drew w' → (∀ f ∈ fr, w.drew.heap.size ≤ γ f.al ∧ Blk w' (γ f.al) f.t f.cells ∧ ∀ d, dstOf l.toArray f.al = some d → a'.tmps.getD d undef = .pointer (some ⟨γ f.al, 0, none⟩)) → (∀ f ∈ fr, ∀ f' ∈ fr, f.al ≠ f'.al → γ f.al ≠ γ f'.al) → a'.defers = a.defers → a'.tmps.size = Γ.length → (∀ (t : Nat) (s : Slot), Γ[t]? = some s → s.holds (a'.tmps.getD t undef) w') → Q .normal a' w') 0 l (a.tmps.toList.map Slot.is)) :
    (Code.region id l.toArray true).wp P Q a w := by
  obtain ⟨Γs, e0, h1, h2⟩ := wpTypF_extract _ _ _ h
  refine wp_region_any hm ?_
  have hc : openCount l.toArray.size (Array.replicate l.toArray.size false) = l.toArray.size := by
    unfold openCount
    rw [List.countP_eq_length.2 (fun i hi => by
      have : i < l.toArray.size := List.mem_range.1 hi
      have h' : i < l.length := by simpa using this
      simp [h'])]
    simp
  have inv0 : HeadInv .any l.toArray l.toArray.size (Array.replicate l.toArray.size false) :=
    ⟨by simp, fun j oj _ hl => (by rw [getD_replicate_false] at hl; cases hl), fun t ht ht' => absurd ht' (by omega)⟩
  exact typF_any (Q := Q) (base := w.drew) (d0 := a.defers) (Γs := Γs) (by simpa using hB) hfr (fun j o ho => by
      obtain ⟨S, b1, b2, b3⟩ := h1 j o (by simpa using ho)
      rw [Nat.zero_add] at b2
      exact ⟨S, b1, b2, b3⟩) (by rw [e0]; simpa using hsz) (by
      rw [e0]
      intro s hs
      obtain ⟨v, _, rfl⟩ := List.mem_map.1 hs
      exact Slot.stableF_is _ _ v)
    (fun a' w' γ hg hf hne hd hs hh => h2 a' w' γ hg hf hne hd (by simpa using hs) (by simpa using hh)) l.toArray.size _ a w.drew hc inv0
    ⟨Grows.refl _, rfl, by rw [e0]; simp, fun j _ hl => (by rw [getD_replicate_false] at hl; cases hl), fun t s _ hs => by
      rw [e0] at hs
      simp only [List.getElem?_map, Array.getElem?_toList, Option.map_eq_some_iff] at hs
      obtain ⟨v, hv, rfl⟩ := hs
      show a.tmps.getD t undef = v
      rw [Array.getD_eq_getD_getElem?, hv]
      rfl, ⟨fun _ => 0, fun f _ hl => (by rw [getD_replicate_false] at hl; cases hl), fun f _ f' _ hl => (by rw [getD_replicate_false] at hl; cases hl)⟩⟩
/-! ### Over the frame that was and what has been written since -/
def OblAF (P : Program) (ops : Array Oper) (fr : List Fresh) (base : World) (f : Array Value) (u : List (Tmp × Slot)) (i : Nat) (o : Oper) (S : Slot) : Prop :=
  ((∀ x ∈ fr, x.al ≠ i ∧ x.st ≠ i) ∧ OblA P ops base f u o S) ∨
  (∃ x ∈ fr, x.al = i ∧ o.guard = none ∧ S = .like (fun _ _ => True) ∧ ∀ (ρ : Operand → Value) (w : World), (execOp ρ o).run P w = .ok (.value (.pointer (some ⟨w.heap.size, 0, none⟩))) (w.alloc (.cells x.z x.t))) ∨
  (∃ x ∈ fr, x.st = i ∧ o.guard = none ∧ o.dst = none ∧ ∃ d, dstOf ops x.al = some d ∧ ∀ (ρ : Operand → Value) (w : World) (g : Nat), Blk w g x.t x.z → ρ (.tmp d) = .pointer (some ⟨g, 0, none⟩) → fitsA u f o.op.operands.toList ρ w → ∃ n, (n = .skip ∨ ∃ v, n = .value v) ∧ (execOp ρ o).run P w = .ok n (w.setRow g x.cells))
def wpTypAF (P : Program) (ops : Array Oper) (fr : List Fresh) (base : World) (f : Array Value) (F : List (Tmp × Slot) → Prop) : Nat → List Oper → List (Tmp × Slot) → Prop
  | _, [], u => F u
  | i, o :: rest, u => ∃ S : Slot, S.stableF fr base ∧ OblAF P ops fr base f u i o S ∧ wpTypAF P ops fr base f F (i + 1) rest (pushSlot u o.dst S)
section
variable {P : Program} {ops : Array Oper} {fr : List Fresh} {base : World} {f : Array Value}
theorem oblF_of {Γ : List Slot} {u : List (Tmp × Slot)} (h : Rep Γ u f) {i : Nat} {o : Oper} {S : Slot} (hin : ∀ t ∈ o.looksAt ops, t < f.size) (ho : OblAF P ops fr base f u i o S) : OblF P ops fr base i Γ o S := by
  rcases ho with ⟨h1, h2⟩ | h2 | ⟨x, hx, hi, hg, hd, d, hdd, hr⟩
  · exact .inl ⟨h1, obl_of h hin h2⟩
  · exact .inr (.inl h2)
  · refine .inr (.inr ⟨x, hx, hi, hg, hd, d, hdd, fun a w g hB hsz hp hf => hr a.eval w g hB hp ?_⟩)
    refine fitsA_of h hsz _ (fun t ht s hs => ?_) (fun t ht hn => ?_)
    · exact hf t (List.mem_append_left _ (List.mem_filterMap.2 ⟨_, ht, rfl⟩)) s hs
    · have := hin t (List.mem_append_left _ (List.mem_filterMap.2 ⟨_, ht, rfl⟩))
      rw [List.getElem?_eq_none_iff, h.1] at hn
      exact absurd this (Nat.not_lt.2 hn)
theorem typF_of_typAF {F : List Slot → Prop} {FA : List (Tmp × Slot) → Prop} (hF : ∀ Γ u, Rep Γ u f → FA u → F Γ) : ∀ (l : List Oper) (i : Nat) (Γ : List Slot) (u : List (Tmp × Slot)), insideB l ops f.size = true → Rep Γ u f → wpTypAF P ops fr base f FA i l u → wpTypF P ops fr base F i l Γ
  | [], _, Γ, u, _, hr, h => hF Γ u hr h
  | o :: rest, i, Γ, u, hi, hr, h => by
    obtain ⟨S, hS, ho, hn⟩ := h
    unfold insideB at hi
    simp only [List.all_cons, Bool.and_eq_true, List.all_eq_true, decide_eq_true_eq] at hi
    refine ⟨S, hS, oblF_of hr hi.1 ho, typF_of_typAF hF rest _ _ _ ?_ (hr.push o.dst S) hn⟩
    unfold insideB
    simp only [List.all_eq_true, decide_eq_true_eq]
    exact hi.2
end
/-- What holds of each. -/
def eachF : List Fresh → (Fresh → Prop) → Prop
  | [], _ => True
  | x :: l, p => p x ∧ eachF l p
theorem eachF_of {p : Fresh → Prop} : ∀ l : List Fresh, (∀ x ∈ l, p x) → eachF l p
  | [], _ => True.intro
  | x :: l, h => ⟨h x List.mem_cons_self, eachF_of l fun y hy => h y (List.mem_cons_of_mem _ hy)⟩
def unlike (γ : Nat → Nat) : List Fresh → Prop
  | [] => True
  | x :: l => (eachF l fun y => γ x.al ≠ γ y.al) ∧ unlike γ l
theorem unlike_of {γ : Nat → Nat} : ∀ l : List Fresh, nodupB (l.map (·.al)) = true → (∀ x ∈ l, ∀ y ∈ l, x.al ≠ y.al → γ x.al ≠ γ y.al) → unlike γ l
  | [], _, _ => True.intro
  | x :: l, hn, h => by
    simp only [List.map_cons, nodupB, Bool.and_eq_true, Bool.not_eq_true'] at hn
    refine ⟨eachF_of l fun y hy => h x List.mem_cons_self y (List.mem_cons_of_mem _ hy) fun e => ?_, unlike_of l hn.2 fun a ha b hb => h a (List.mem_cons_of_mem _ ha) b (List.mem_cons_of_mem _ hb)⟩
    have hm : (l.map (·.al)).contains x.al = true := by
      rw [List.contains_iff_mem, e]
      exact List.mem_map.2 ⟨y, hy, rfl⟩
    rw [hn.1] at hm
    cases hm
def regBF (l : List Oper) (fr : List Fresh) (m : Nat) : Bool := regBR l m && freshB l.toArray fr && nodupB (fr.map (·.al))
/-- The final word: what each new variable is, and that its slot holds its address. -/
def tied (ops : Array Oper) (fr : List Fresh) (γ : Nat → Nat) (a : Act) : Prop := eachF fr fun x => match dstOf ops x.al with | some d => a.tmps.getD d undef = .pointer (some ⟨γ x.al, 0, none⟩) | none => True
theorem wp_region_kindsF {P : Program} {id : Nat} {Q : Exit → Act → World → Prop} {a : Act} {w : World} {l : List Oper} (fr : List Fresh) (hm : P.follows .mixedOrders = true) (hB : regBF l fr a.tmps.size = true)
    (h : ∀ F : List (Tmp × Slot) → Prop, (∀ u, nodupB (u.map (·.1)) = true → (u.all fun x => decide (x.1 < a.tmps.size)) = true → (∀ w' γ, Grows w.drew w' → (eachF fr fun x => w.drew.heap.size ≤ γ x.al ∧ Blk w' (γ x.al) x.t x.cells) → unlike γ fr → finish u a w' (fun a' => tied l.toArray fr γ a' → Q .normal a' w')) → F u) → wpTypAF P l.toArray fr w.drew a.tmps F 0 l []) :
    (Code.region id l.toArray true).wp P Q a w := by
  simp only [regBF, regBR, Bool.and_eq_true] at hB
  obtain ⟨⟨⟨⟨hB1, hB2⟩, hB3⟩, hB4⟩, hB5⟩ := hB
  have hsz : ∀ f ∈ fr, ∀ d, dstOf l.toArray f.al = some d → d < a.tmps.size := by
    intro f _ d hd
    unfold dstOf at hd
    cases ho : l.toArray[f.al]? with
    | none => rw [ho] at hd; cases hd
    | some o =>
      rw [ho] at hd
      simp only [Option.bind_some] at hd
      have := List.all_eq_true.1 hB3 o (List.mem_of_getElem? (by simpa using ho))
      rw [hd] at this
      simpa using this
  refine wp_region_typF fr hm hB1 hB4 hsz (typF_of_typAF (f := a.tmps) ?_ l 0 _ [] hB2 ?_ (h (fun u => nodupB (u.map (·.1)) = true ∧ (u.all fun x => decide (x.1 < a.tmps.size)) = true ∧ ∀ w' γ, Grows w.drew w' → (eachF fr fun x => w.drew.heap.size ≤ γ x.al ∧ Blk w' (γ x.al) x.t x.cells) → unlike γ fr → finish u a w' (fun a' => tied l.toArray fr γ a' → Q .normal a' w')) (fun u h1 h2 h3 => ⟨h1, h2, h3⟩)))
  · rintro Γ u hr ⟨hnd, hin', hf⟩ a' w' γ hg hfr hne hd hs hh
    have key := finish_all u _ hnd (fun x hx => ?_) (hf w' γ hg (eachF_of fr fun x hx => ⟨(hfr x hx).1, (hfr x hx).2.1⟩) (unlike_of fr hB5 hne)) a' hd (hs.trans hr.1) (fun t ht => ?_)
    · refine key (eachF_of fr fun x hx => ?_)
      split
      · exact (hfr x hx).2.2 _ (by assumption)
      · trivial
    · have := List.all_eq_true.1 hin' x hx
      simpa using this
    · have htl : t < Γ.length := by rw [hr.1]; exact ht
      rw [← hr.2 t _ (List.getElem?_eq_getElem htl)]
      exact hh t _ (List.getElem?_eq_getElem htl)
  · refine ⟨by simp, fun t s hs => ?_⟩
    simp only [List.getElem?_map, Array.getElem?_toList, Option.map_eq_some_iff] at hs
    obtain ⟨v, hv, rfl⟩ := hs
    show Slot.is v = Slot.is (a.tmps.getD t undef)
    rw [Array.getD_eq_getD_getElem?, hv]
    rfl
section
variable {P : Program} {ops : Array Oper} {fr : List Fresh} {base : World} {f : Array Value} {F : List (Tmp × Slot) → Prop} {o : Oper} {rest : List Oper} {u : List (Tmp × Slot)} {i : Nat}
def noFr (fr : List Fresh) (i : Nat) : Bool := fr.all fun x => !(Nat.beq x.al i) && !(Nat.beq x.st i)
theorem noFr_spec (h : noFr fr i = true) : ∀ x ∈ fr, x.al ≠ i ∧ x.st ≠ i := fun x hm => by
  have := List.all_eq_true.1 h x hm
  simp only [Bool.and_eq_true, Bool.not_eq_true'] at this
  exact ⟨fun e => by rw [e] at this; simp at this, fun e => by rw [e] at this; simp at this⟩
theorem kindsF_nil (h : F u) : wpTypAF P ops fr base f F i [] u := h
theorem kindsF_is {v : Value} (hg : o.guard = none) (hn : noFr fr i = true) (h : ∀ (ρ : Operand → Value) (w : World) (K : Value → World → Prop), Grows base w → fitsA u f o.op.operands.toList ρ w → (∀ w', Grows w w' → K v w') → gives P o ρ w K)
    (hr : wpTypAF P ops fr base f F (i + 1) rest (pushSlot u o.dst (.is v))) : wpTypAF P ops fr base f F i (o :: rest) u :=
  ⟨.is v, Slot.stableF_is _ _ v, .inl ⟨noFr_spec hn, by unfold OblA; rw [hg]; exact fun ρ w K hw hf hK => h ρ w K hw hf (fun w' hg' => hK v w' hg' rfl)⟩, hr⟩
theorem kindsF_like (V : Value → World → Prop) (hV : ∀ v w w', V v w → FStep fr base w w' → V v w') (hg : o.guard = none) (hn : noFr fr i = true) (h : ∀ (ρ : Operand → Value) (w : World) (K : Value → World → Prop), Grows base w → fitsA u f o.op.operands.toList ρ w → (∀ v w', Grows w w' → V v w' → K v w') → gives P o ρ w K)
    (hr : wpTypAF P ops fr base f F (i + 1) rest (pushSlot u o.dst (.like V))) : wpTypAF P ops fr base f F i (o :: rest) u :=
  ⟨.like V, hV, .inl ⟨noFr_spec hn, by unfold OblA; rw [hg]; exact fun ρ w K hw hf hK => h ρ w K hw hf hK⟩, hr⟩
theorem kindsF_move_is (t : Tmp) {v : Value} (hg : o.guard = none) (hn : noFr fr i = true) (ho : o.op = .move (.tmp t) ∨ o.op = .assign (.tmp t)) (hl : look u f t = .is v)
    (hr : wpTypAF P ops fr base f F (i + 1) rest (pushSlot u o.dst (.is v))) : wpTypAF P ops fr base f F i (o :: rest) u := by
  refine kindsF_is hg hn (fun ρ w K hw hf hK => ?_) hr
  have hs : ρ (.tmp t) = v := by
    rcases ho with ho | ho
    · rw [ho] at hf
      have h1 : (look u f t).holds (ρ (.tmp t)) w := hf.1
      rw [hl] at h1
      exact h1
    · rw [ho] at hf
      have h1 : (look u f t).holds (ρ (.tmp t)) w := hf.1
      rw [hl] at h1
      exact h1
  unfold gives execOp
  rcases ho with ho | ho <;> simp only [ho, hs] <;> exact hK _ (Grows.refl w)
theorem kindsF_load (t : Tmp) (ty : TypeId) {q v : Value} (hg : o.guard = none) (hn : noFr fr i = true) (ho : o.op = .load ty (.tmp t)) (hl : look u f t = .is q) (h : ∀ w', Grows base w' → (Instr.loadAt ty q).run P w' = .ok v w')
    (hr : wpTypAF P ops fr base f F (i + 1) rest (pushSlot u o.dst (.is v))) : wpTypAF P ops fr base f F i (o :: rest) u := by
  refine kindsF_is hg hn (fun ρ w K hw hf hK => ?_) hr
  rw [ho] at hf
  have hs : (look u f t).holds (ρ (.tmp t)) w := hf.1
  rw [hl] at hs
  have e : ρ (.tmp t) = q := hs
  unfold gives execOp
  simp only [ho, Sem.run_bind, e, h w hw, Result.andThen_ok, Sem.run_pure]
  exact hK _ (Grows.refl w)
/-- The making of a variable. -/
theorem kindsF_alloc (ty : TypeId) (st : Nat) (z cells : Array Value) (hg : o.guard = none) (ho : o.op = .alloc ty) (hm : (⟨i, st, ty, z, cells⟩ : Fresh) ∈ fr)
    (hz : ∀ w, (Instr.alloc ty true (.tuple #[])).run P w = .ok (.pointer (some ⟨w.heap.size, 0, none⟩)) (w.alloc (.cells z ty)))
    (hr : wpTypAF P ops fr base f F (i + 1) rest (pushSlot u o.dst (.like fun _ _ => True))) : wpTypAF P ops fr base f F i (o :: rest) u := by
  refine ⟨.like fun _ _ => True, Slot.stableF_any _ _, .inr (.inl ⟨_, hm, rfl, hg, rfl, fun ρ w => ?_⟩), hr⟩
  unfold execOp
  simp only [ho, Sem.run_bind, hz w, Result.andThen_ok, Sem.run_pure]
/-- .. and its filling. -/
theorem kindsF_store (tp tv : Tmp) (ty : TypeId) (al : Nat) (z cells : Array Value) {v : Value} (hg : o.guard = none) (hd : o.dst = none) (ho : o.op = .store ty (.tmp tp) (.tmp tv)) (hdd : dstOf ops al = some tp) (hlv : look u f tv = .is v) (hm : (⟨al, i, ty, z, cells⟩ : Fresh) ∈ fr)
    (hz : ∀ (w : World) (g : Nat), Blk w g ty z → (Instr.storeAt ty (.pointer (some ⟨g, 0, none⟩)) v).run P w = .ok () (w.setRow g cells))
    (hr : wpTypAF P ops fr base f F (i + 1) rest u) : wpTypAF P ops fr base f F i (o :: rest) u := by
  refine ⟨.is undef, Slot.stableF_is _ _ _, .inr (.inr ⟨_, hm, rfl, hg, hd, tp, hdd, fun ρ w g hB hp hf => ⟨.skip, .inl rfl, ?_⟩⟩), by rw [hd]; exact hr⟩
  rw [ho] at hf
  have e2 : ρ (.tmp tv) = v := by
    have : (look u f tv).holds (ρ (.tmp tv)) w := hf.2.1
    rw [hlv] at this
    exact this
  unfold execOp
  simp only [ho, Sem.run_bind, hp, e2, hz w g hB, Result.andThen_ok, Sem.run_pure]
end
end Go.Proofs.Ythdanjbgbbcafaa
