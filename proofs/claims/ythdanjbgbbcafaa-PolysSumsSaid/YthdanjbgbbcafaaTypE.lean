/- Regions that draw their order and make variables, with values told by a property that no filling needs to keep: such a value is looked at only by operations for which every filling waits. Laws alone, of whatever program. -/
import Derived.Test.YthdanjbgbbcafaaTypF
namespace Go.Proofs.Ythdanjbgbbcafaa
open Go Go.RowKit

def Slot.fixed : Slot → Bool
  | .is _ => true
  | .like _ => false
def Slot.fade : Slot → Slot
  | .is v => .is v
  | .like _ => .like fun _ _ => True
theorem Slot.fade_of {s : Slot} {v : Value} {w : World} (h : s.fixed = true → s.holds v w) : s.fade.holds v w := by
  cases s with
  | is u => exact h rfl
  | like V => exact True.intro
theorem Slot.fixed_world {s : Slot} {v : Value} {w w' : World} (hf : s.fixed = true) (h : s.holds v w) : s.holds v w' := by
  cases s with
  | is u => exact h
  | like V => cases hf
/-- Operation i is awaited, directly or through others, by operation j. -/
def reachB (ops : Array Oper) : Nat → Nat → Nat → Bool
  | 0, j, i => Nat.beq j i
  | k + 1, j, i => Nat.beq j i || (match ops[j]? with | some o => o.after.any fun e => Region.binds .any e && reachB ops k e.on i | none => false)
theorem reachB_spec {ops : Array Oper} {listed : Array Bool} (inv : HeadInv .any ops ops.size listed) : ∀ k j i, reachB ops k j i = true → listed.getD j false = true → listed.getD i false = true
  | 0, j, i, h, hl => by
    rw [reachB] at h
    have := Nat.eq_of_beq_eq_true h
    subst this
    exact hl
  | k + 1, j, i, h, hl => by
    rw [reachB, Bool.or_eq_true] at h
    rcases h with h | h
    · have := Nat.eq_of_beq_eq_true h
      subst this
      exact hl
    · cases ho : ops[j]? with
      | none => rw [ho] at h; cases h
      | some o =>
        rw [ho] at h
        obtain ⟨e, he, hb⟩ := Array.any_eq_true'.1 h
        rw [Bool.and_eq_true] at hb
        exact reachB_spec inv k e.on i hb.2 (inv.closed j o ho hl e he hb.1)
def wildsOf (fr : List Fresh) (wd : List Nat) : List Nat := fr.map (·.st) ++ wd
/-- Of all the wild operations that have been, operation j waited for each (or is it). -/
def okAt (ops : Array Oper) (wl : List Nat) (j : Nat) (listed : Array Bool) : Prop := ∀ x ∈ wl, listed.getD x false = true → x = j ∨ reachB ops 12 j x = true
def okB (ops : Array Oper) (wl : List Nat) (i t : Nat) : Bool := (List.range ops.size).all fun j => !(dstOf ops j == some t) || wl.all fun x => Nat.beq x j || reachB ops 12 j x || reachB ops 12 x i
theorem okB_spec {ops : Array Oper} {wl : List Nat} {i t j : Nat} {listed : Array Bool} (inv : HeadInv .any ops ops.size listed) (h : okB ops wl i t = true) (hun : listed.getD i true = false) (hj : j < ops.size) (hd : dstOf ops j = some t) : okAt ops wl j listed := fun x hx hl => by
  have h1 := List.all_eq_true.1 h j (List.mem_range.2 hj)
  rw [hd] at h1
  simp only [beq_self_eq_true, Bool.not_true, Bool.false_or, List.all_eq_true, Bool.or_eq_true] at h1
  rcases h1 x hx with (h2 | h2) | h2
  · exact .inl (Nat.eq_of_beq_eq_true h2)
  · exact .inr h2
  · have := reachB_spec inv 12 x i h2 hl
    rw [getD_both hun] at this
    cases this
theorem okAt_of {ops : Array Oper} {wl : List Nat} {listed : Array Bool} {i j : Nat} (h : okAt ops wl j (listed.setIfInBounds i true)) : okAt ops wl j listed := fun x hx hl => h x hx (getD_set_true hl)
theorem okAt_self {ops : Array Oper} {wl : List Nat} {listed : Array Bool} {i j : Nat} (inv : HeadInv .any ops ops.size listed) (h : okAt ops wl j (listed.setIfInBounds i true)) (hi : i ∈ wl) (hun : listed.getD i true = false) (hin : i < ops.size) (hji : j ≠ i) (hl : listed.getD j false = true) : False := by
  have hil : i < listed.size := by rw [inv.size]; exact hin
  rcases h i hi (by simp [hil]) with e | e
  · exact hji e.symm
  · have := reachB_spec inv 12 j i e hl
    rw [getD_both hun] at this
    cases this
def looksOk (ops : Array Oper) (wl : List Nat) (i : Nat) (Γ : List Slot) (o : Oper) : Bool := (o.looksAt ops).all fun t => (match Γ[t]? with | some s => s.fixed | none => true) || okB ops wl i t
def looksOkU (ops : Array Oper) (wl : List Nat) (i : Nat) (u : List (Tmp × Slot)) (f : Array Value) (o : Oper) : Bool := (o.looksAt ops).all fun t => (look u f t).fixed || okB ops wl i t
theorem looksOk_of {ops : Array Oper} {wl : List Nat} {i : Nat} {Γ : List Slot} {u : List (Tmp × Slot)} {f : Array Value} {o : Oper} (h : Rep Γ u f) (hl : looksOkU ops wl i u f o = true) : looksOk ops wl i Γ o = true := List.all_eq_true.2 fun t ht => by
  have h1 := List.all_eq_true.1 hl t ht
  cases hq : Γ[t]? with
  | none => rfl
  | some s => rw [h.2 t s hq]; exact h1
/-- A wild step: what lay below stays, and so does all that may be one of the variables. -/
structure WStep (fr : List Fresh) (base w w' : World) : Prop where
  below : Below base.heap.size w w'
  boxes : ∀ f ∈ fr, ∀ (k : Nat) (cs : Array Value), w.heap[k]? = some (.cells cs f.t (0, 0)) → cs.size = f.z.size → w'.heap[k]? = w.heap[k]?
theorem eachF_all {p : Fresh → Prop} : ∀ {l : List Fresh}, eachF l p → ∀ x ∈ l, p x
  | [], _, x, hx => by cases hx
  | y :: l, h, x, hx => by
    rcases List.mem_cons.1 hx with rfl | hx
    · exact h.1
    · exact eachF_all h.2 x hx
def fadeU (u : List (Tmp × Slot)) : List (Tmp × Slot) := u.map fun x => (x.1, x.2.fade)
theorem fadeU_keys (u : List (Tmp × Slot)) : (fadeU u).map (·.1) = u.map (·.1) := by
  unfold fadeU
  rw [List.map_map]
  rfl
theorem look_fade (u : List (Tmp × Slot)) (f : Array Value) (t : Tmp) : look (fadeU u) f t = (look u f t).fade := by
  induction u with
  | nil => rfl
  | cons x u ih =>
    obtain ⟨d, s⟩ := x
    show look ((d, s.fade) :: fadeU u) f t = _
    rw [look_eq, look_eq]
    split
    · rfl
    · exact ih
theorem Rep.fade {Γ : List Slot} {u : List (Tmp × Slot)} {f : Array Value} (h : Rep Γ u f) : Rep (Γ.map Slot.fade) (fadeU u) f := by
  refine ⟨by rw [List.length_map]; exact h.1, fun t s hs => ?_⟩
  rw [List.getElem?_map] at hs
  cases hq : Γ[t]? with
  | none => rw [hq] at hs; cases hs
  | some s0 =>
    rw [hq] at hs
    injection hs with hs
    rw [look_fade, ← hs, h.2 t s0 hq]
def OblE (P : Program) (ops : Array Oper) (fr : List Fresh) (wd : List Nat) (base : World) (i : Nat) (Γ : List Slot) (o : Oper) (S : Slot) : Prop :=
  ((∀ f ∈ fr, f.al ≠ i ∧ f.st ≠ i) ∧ ∃ b : Bool, (b = true → looksOk ops (wildsOf fr wd) i Γ o = true) ∧ Obl P ops base (if b = true then Γ else Γ.map Slot.fade) o S) ∨
  ((∀ f ∈ fr, f.al ≠ i ∧ f.st ≠ i) ∧ i ∈ wd ∧ o.guard = none ∧ looksOk ops (wildsOf fr wd) i Γ o = true ∧ ∀ (a : Act) (w : World) (K : Value → World → Prop), Grows base w → a.tmps.size = Γ.length → fits Γ (o.looksAt ops) a.eval w → (∀ v w', WStep fr base w w' → S.holds v w' → K v w') → gives P o a.eval w K) ∨
  (∃ f ∈ fr, f.al = i ∧ o.guard = none ∧ S = .like (fun _ _ => True) ∧ ∀ (ρ : Operand → Value) (w : World), (execOp ρ o).run P w = .ok (.value (.pointer (some ⟨w.heap.size, 0, none⟩))) (w.alloc (.cells f.z f.t))) ∨
  (∃ f ∈ fr, f.st = i ∧ o.guard = none ∧ o.dst = none ∧ ∃ d, dstOf ops f.al = some d ∧ ∀ (a : Act) (w : World) (g : Nat), Blk w g f.t f.z → a.tmps.size = Γ.length → a.tmps.getD d undef = .pointer (some ⟨g, 0, none⟩) → fits (Γ.map Slot.fade) (o.looksAt ops) a.eval w → ∃ n, (n = .skip ∨ ∃ v, n = .value v) ∧ (execOp a.eval o).run P w = .ok n (w.setRow g f.cells))
def wpTypE (P : Program) (ops : Array Oper) (fr : List Fresh) (wd : List Nat) (base : World) (F : List Slot → Prop) : Nat → List Oper → List Slot → Prop
  | _, [], Γ => F Γ
  | i, o :: rest, Γ => ∃ S : Slot, S.stable ∧ OblE P ops fr wd base i Γ o S ∧ wpTypE P ops fr wd base F (i + 1) rest (setSlot Γ o.dst S)
section
variable {P : Program} {ops : Array Oper} {fr : List Fresh} {wd : List Nat} {base : World} {d0 : List Deferred} {Γs : Nat → List Slot}
theorem wpTypE_extract {F : List Slot → Prop} : ∀ (l : List Oper) (i : Nat) (Γ : List Slot), wpTypE P ops fr wd base F i l Γ →
    ∃ Γs : Nat → List Slot, Γs 0 = Γ ∧ (∀ (j : Nat) (o : Oper), l[j]? = some o → ∃ S : Slot, S.stable ∧ OblE P ops fr wd base (i + j) (Γs j) o S ∧ Γs (j + 1) = setSlot (Γs j) o.dst S) ∧ F (Γs l.length)
  | [], _, Γ, h => ⟨fun _ => Γ, rfl, fun j o hj => by simp at hj, h⟩
  | o :: rest, i, Γ, h => by
    obtain ⟨S, hs, ho, hr⟩ := h
    obtain ⟨Γs, h0, h1, h2⟩ := wpTypE_extract rest (i + 1) _ hr
    refine ⟨fun j => match j with | 0 => Γ | j + 1 => Γs j, rfl, ?_, h2⟩
    intro j o' hj
    cases j with
    | zero =>
      simp only [List.getElem?_cons_zero, Option.some.injEq] at hj
      subst hj
      exact ⟨S, hs, ho, h0⟩
    | succ j =>
      simp only [List.getElem?_cons_succ] at hj
      obtain ⟨S', a1, a2, a3⟩ := h1 j o' hj
      exact ⟨S', a1, by rw [show i + (j + 1) = i + 1 + j by omega]; exact a2, a3⟩
theorem gsE_len (hΓ : ∀ (j : Nat) (o : Oper), ops[j]? = some o → ∃ S : Slot, S.stable ∧ OblE P ops fr wd base j (Γs j) o S ∧ Γs (j + 1) = setSlot (Γs j) o.dst S) : ∀ i, i ≤ ops.size → (Γs i).length = (Γs 0).length
  | 0, _ => rfl
  | i + 1, h => by
    obtain ⟨S, _, _, e⟩ := hΓ i _ (Array.getElem?_eq_getElem (by omega))
    rw [e, setSlot_length]
    exact gsE_len hΓ i (by omega)
theorem gsE_keep (hΓ : ∀ (j : Nat) (o : Oper), ops[j]? = some o → ∃ S : Slot, S.stable ∧ OblE P ops fr wd base j (Γs j) o S ∧ Γs (j + 1) = setSlot (Γs j) o.dst S) (t : Tmp) : ∀ (k i : Nat), i + k ≤ ops.size → (∀ j, i ≤ j → j < i + k → dstOf ops j ≠ some t) → (Γs (i + k))[t]? = (Γs i)[t]?
  | 0, _, _, _ => rfl
  | k + 1, i, h, hw => by
    have ih := gsE_keep hΓ t k i (by omega) (fun j h1 h2 => hw j h1 (by omega))
    obtain ⟨S, _, _, e⟩ := hΓ (i + k) _ (Array.getElem?_eq_getElem (by omega))
    have hne := hw (i + k) (by omega) (by omega)
    rw [show i + (k + 1) = i + k + 1 by omega, e, ← ih]
    unfold dstOf at hne
    rw [Array.getElem?_eq_getElem (by omega)] at hne
    simp only [Option.bind_some] at hne
    cases hd : (ops[i + k]'(by omega)).dst with
    | none => rfl
    | some d =>
      rw [hd] at hne
      have hdt : d ≠ t := fun e => hne (by rw [e])
      simp only [setSlot]
      rw [List.getElem?_set_ne hdt]
structure TInvE (fr : List Fresh) (wd : List Nat) (base : World) (d0 : List Deferred) (Γ0 : List Slot) (Γs : Nat → List Slot) (ops : Array Oper) (listed : Array Bool) (a : Act) (w : World) : Prop where
  grows : Grows base w
  defers : a.defers = d0
  size : a.tmps.size = Γ0.length
  done : ∀ j, j < ops.size → listed.getD j false = true → ∀ d s, dstOf ops j = some d → (Γs (j + 1))[d]? = some s → (okAt ops (wildsOf fr wd) j listed ∨ s.fixed = true) → s.holds (a.tmps.getD d undef) w
  rest : ∀ t s, (∀ j, j < ops.size → listed.getD j false = true → dstOf ops j ≠ some t) → Γ0[t]? = some s → s.holds (a.tmps.getD t undef) w
  fresh : ∃ γ, FreshAt ops fr base listed γ a w
theorem typE_any {Q : Exit → Act → World → Prop} (hh : headB ops ops.size = true) (hfr : freshB ops fr = true)
    (hΓ : ∀ (j : Nat) (o : Oper), ops[j]? = some o → ∃ S : Slot, S.stable ∧ OblE P ops fr wd base j (Γs j) o S ∧ Γs (j + 1) = setSlot (Γs j) o.dst S)
    (hsz : ∀ f ∈ fr, ∀ d, dstOf ops f.al = some d → d < (Γs 0).length)
    (h0 : ∀ s ∈ Γs 0, s.fixed = true) (hcs : ∀ f ∈ fr, f.cells.size = f.z.size)
    (hF : ∀ (a : Act) (w : World) (γ : Nat → Nat), Grows base w → (∀ f ∈ fr, base.heap.size ≤ γ f.al ∧ Blk w (γ f.al) f.t f.cells ∧ ∀ d, dstOf ops f.al = some d → a.tmps.getD d undef = .pointer (some ⟨γ f.al, 0, none⟩)) → (∀ f ∈ fr, ∀ f' ∈ fr, f.al ≠ f'.al → γ f.al ≠ γ f'.al) → a.defers = d0 → a.tmps.size = (Γs ops.size).length → (∀ (t : Nat) (s : Slot), (Γs ops.size)[t]? = some s → s.fade.holds (a.tmps.getD t undef) w) → Q .normal a w) :
    ∀ (m : Nat) (listed : Array Bool) (a : Act) (w : World), openCount ops.size listed = m → HeadInv .any ops ops.size listed → TInvE fr wd base d0 (Γs 0) Γs ops listed a w → wpAny P .any ops Q m listed a w
  | 0, listed, a, w, hc, inv, ti => by
    obtain ⟨hf1, hf2⟩ := freshB_one hfr
    have hno : Region.ready .any ops listed = [] := by
      apply List.eq_nil_iff_forall_not_mem.2
      intro i hi
      obtain ⟨hun, o, ho, _⟩ := mem_ready.1 hi
      have hlt := (Array.getElem?_eq_some_iff.1 ho).1
      have := open_none hc i hlt
      rw [hun] at this
      cases this
    have hall : ∀ j, j < ops.size → listed.getD j false = true := fun j hj => getD_of_true (open_none hc j hj) (by rw [inv.size]; exact hj)
    obtain ⟨γ, hγ1, hγ2⟩ := ti.fresh
    refine ⟨hno, hF a w γ ti.grows (fun f hm => ?_) (fun f hm f' hm' hne => hγ2 f hm f' hm' (hall _ (hf1 f hm).1) (hall _ (hf1 f' hm').1) hne) ti.defers (ti.size.trans (gsE_len hΓ _ (Nat.le_refl _)).symm) ?_⟩
    · obtain ⟨b1, _, b3, b4⟩ := hγ1 f hm (hall _ (hf1 f hm).1)
      rw [if_pos (hall _ (hf1 f hm).2.1)] at b3
      exact ⟨b1, b3, b4⟩
    intro t s hs
    refine Slot.fade_of fun hfx => ?_
    by_cases hw : ∃ j, j < ops.size ∧ dstOf ops j = some t
    · obtain ⟨j, hj, hd⟩ := hw
      refine ti.done j hj (hall j hj) t s hd ?_ (.inr hfx)
      have hk := gsE_keep hΓ t (ops.size - (j + 1)) (j + 1) (by omega) (fun k h1 h2 hk => by
        have := head_slots hh (i := k) (j := j) (by omega) hj (by omega) (Array.getElem?_eq_getElem (by omega)) hd
        unfold dstOf at hk
        rw [Array.getElem?_eq_getElem (by omega)] at hk
        exact this.1 hk)
      rw [show j + 1 + (ops.size - (j + 1)) = ops.size by omega] at hk
      rw [← hk]
      exact hs
    · refine ti.rest t s (fun j hj _ hd => hw ⟨j, hj, hd⟩) ?_
      have hk := gsE_keep hΓ t ops.size 0 (by omega) (fun k _ h2 hk => hw ⟨k, by omega, hk⟩)
      rw [Nat.zero_add] at hk
      rw [← hk]
      exact hs
  | m + 1, listed, a, w, hc, inv, ti => by
    obtain ⟨hf1, hf2⟩ := freshB_one hfr
    have hready : ∃ i, i ∈ Region.ready .any ops listed := by
      obtain ⟨i0, hi0, hu0⟩ := open_some (n := ops.size) (listed := listed) (by omega)
      have key : ∀ i, i < ops.size → listed.getD i true = false → ∃ i, i ∈ Region.ready .any ops listed := by
        intro i
        induction i using Nat.strongRecOn with
        | _ i ih =>
          intro hi hu
          by_cases hr : i ∈ Region.ready .any ops listed
          · exact ⟨i, hr⟩
          · have hex : ∃ e ∈ (ops[i]'(by omega)).after, Region.binds .any e = true ∧ listed.getD e.on false = false := by
              apply Classical.byContradiction
              intro hno
              apply hr
              rw [mem_ready]
              refine ⟨hu, _, Array.getElem?_eq_getElem (by omega), fun e he hb => ?_⟩
              cases hl : listed.getD e.on false with
              | true => rfl
              | false => exact absurd ⟨e, he, hb, hl⟩ hno
            obtain ⟨e, he, hb, hl⟩ := hex
            have hlt := head_edges hh hi (Array.getElem?_eq_getElem (by omega)) e he hb
            exact ih e.on hlt (by omega) (getD_in (by rw [inv.size]; omega) hl)
      exact key i0 hi0 hu0
    refine ⟨(fun h => by obtain ⟨i, hi⟩ := hready; rw [h] at hi; cases hi), fun i hi => ?_⟩
    obtain ⟨hun, o, ho, hafter⟩ := mem_ready.1 hi
    have hin : i < ops.size := (Array.getElem?_eq_some_iff.1 ho).1
    have hil : i < listed.size := by rw [inv.size]; exact hin
    obtain ⟨S, hS, hobl, hnext⟩ := hΓ i o ho
    have hdst : dstOf ops i = o.dst := by unfold dstOf; rw [ho]; rfl
    have hkey : ∀ t ∈ o.looksAt ops, ∀ s, (Γs i)[t]? = some s → (okB ops (wildsOf fr wd) i t = true ∨ s.fixed = true) → s.holds (a.eval (.tmp t)) w := by
      intro t htl s hs hfx
      show s.holds (a.tmps.getD t undef) w
      by_cases hw : ∃ j, j < i ∧ dstOf ops j = some t
      · obtain ⟨j, hj, hd⟩ := hw
        have hwait := (head_slots hh (i := i) (j := j) hin (by omega) (by omega) ho hd).2 htl
        rw [if_pos hj] at hwait
        obtain ⟨o', ho', e, he, hb, hon⟩ := Region.waitsFor_spec hwait
        have : o' = o := Option.some.inj (ho'.symm.trans ho)
        subst this
        have hlj := hafter e he hb
        rw [hon] at hlj
        refine ti.done j (by omega) hlj t s hd ?_ (hfx.imp_left fun h => okB_spec inv h hun (by omega) hd)
        have hk := gsE_keep hΓ t (i - (j + 1)) (j + 1) (by omega) (fun k h1 h2 hk => by
          have := head_slots hh (i := k) (j := j) (by omega) (by omega) (by omega) (Array.getElem?_eq_getElem (by omega)) hd
          unfold dstOf at hk
          rw [Array.getElem?_eq_getElem (by omega)] at hk
          exact this.1 hk)
        rw [show j + 1 + (i - (j + 1)) = i by omega] at hk
        rw [← hk]
        exact hs
      · refine ti.rest t s (fun j hj hlj hd => ?_) ?_
        · have hji : j ≠ i := fun e => by
            subst e
            rw [getD_both hun] at hlj
            cases hlj
          have hgt : ¬ j < i := fun h => hw ⟨j, h, hd⟩
          have hwait := (head_slots hh (i := i) (j := j) hin hj (Ne.symm hji) ho hd).2 htl
          rw [if_neg hgt] at hwait
          obtain ⟨oj, hoj, e, he, hb, hon⟩ := Region.waitsFor_spec hwait
          have := inv.closed j oj hoj hlj e he hb
          rw [hon, getD_both hun] at this
          cases this
        · have hk := gsE_keep hΓ t i 0 (by omega) (fun k _ h2 hk => hw ⟨k, by omega, hk⟩)
          rw [Nat.zero_add] at hk
          rw [← hk]
          exact hs
    have hfade : fits ((Γs i).map Slot.fade) (o.looksAt ops) a.eval w := by
      intro t htl s hs
      rw [List.getElem?_map] at hs
      cases hq : (Γs i)[t]? with
      | none => rw [hq] at hs; cases hs
      | some s0 =>
        rw [hq] at hs
        injection hs with hs
        subst hs
        exact Slot.fade_of fun hfx => hkey t htl s0 hq (.inr hfx)
    have hfull : looksOk ops (wildsOf fr wd) i (Γs i) o = true → fits (Γs i) (o.looksAt ops) a.eval w := by
      intro he t htl s hs
      refine hkey t htl s hs ?_
      have := List.all_eq_true.1 he t htl
      rw [hs] at this
      rw [Bool.or_eq_true] at this
      exact this.symm
    have hlen : a.tmps.size = (Γs i).length := ti.size.trans (gsE_len hΓ i (by omega)).symm
    have hput : ∀ v t, o.dst ≠ some t → (a.put o.dst v).tmps.getD t undef = a.tmps.getD t undef := by
      intro v t hne
      cases hd' : o.dst with
      | none => rfl
      | some d' =>
        have : d' ≠ t := fun e => hne (by rw [hd', e])
        simp [Act.put, Array.getElem?_setIfInBounds_ne this]
    have hafterStep : ∀ v w', Grows w w' → S.holds v w' → (∃ γ, FreshAt ops fr base (listed.setIfInBounds i true) γ (a.put o.dst v) w') → wpAny P .any ops Q m (listed.setIfInBounds i true) (a.put o.dst v) w' := by
      intro v w' hg hv hfresh
      refine typE_any hh hfr hΓ hsz h0 hcs hF m _ _ _ (by have := open_set (n := ops.size) hin hun; omega) (inv.set hi hin) ?_
      have hst : ∀ j, j < ops.size → ∀ d s, dstOf ops j = some d → (Γs (j + 1))[d]? = some s → s.stable := fun j hj d s hd hs => by
        obtain ⟨S', hS', _, hn'⟩ := hΓ j _ (Array.getElem?_eq_getElem (by omega))
        unfold dstOf at hd
        rw [Array.getElem?_eq_getElem (by omega)] at hd
        simp only [Option.bind_some] at hd
        rw [hn', hd] at hs
        simp only [setSlot] at hs
        rw [List.getElem?_set_self'] at hs
        cases hq' : (Γs j)[d]? with
        | none => rw [hq'] at hs; cases hs
        | some x => rw [hq'] at hs; injection hs with hs; exact hs ▸ hS'
      refine ⟨Grows.trans ti.grows hg, ?_, ?_, ?_, ?_, hfresh⟩
      · cases hd : o.dst <;> simp [Act.put, ti.defers]
      · cases hd : o.dst <;> simp [Act.put, ti.size]
      · intro j hj hl d s hd hs hfx
        by_cases hji : j = i
        · subst hji
          rw [hdst] at hd
          rw [hnext, hd] at hs
          simp only [setSlot] at hs
          rw [List.getElem?_set_self'] at hs
          have hdl : d < (Γs j).length := by
            rcases Nat.lt_or_ge d (Γs j).length with h | h
            · exact h
            · rw [List.getElem?_eq_none h] at hs; cases hs
          rw [List.getElem?_eq_getElem hdl] at hs
          injection hs with hs
          subst hs
          rw [hd]
          have hds : d < a.tmps.size := by rw [hlen]; exact hdl
          simpa [Act.put, hds] using hv
        · rw [getD_set_ne false (Ne.symm hji)] at hl
          have hold := ti.done j hj hl d s hd hs (hfx.imp_left okAt_of)
          rw [hput v d (head_slots hh (i := i) (j := j) hin hj (Ne.symm hji) ho hd).1]
          exact hst j hj d s hd hs _ _ _ hold hg
      · intro t s hno hs
        have hne : o.dst ≠ some t := by
          rw [← hdst]
          refine hno i hin ?_
          simp [hil]
        rw [hput v t hne]
        exact Slot.fixed_world (h0 s (List.mem_of_getElem? hs)) (ti.rest t s (fun j hj hl => hno j hj (getD_set_true hl)) hs)
    obtain ⟨γ, hγ1, hγ2⟩ := ti.fresh
    have hself : (listed.setIfInBounds i true).getD i false = true := by simp [hil]
    unfold wpOp
    rw [ho]
    simp only []
    rcases hobl with ⟨hnf, b, hb, hob⟩ | ⟨hnf, hwd, hgd, hlook, hrun⟩ | ⟨f, hfm, hfi, hgd, hSe, hrun⟩ | ⟨f, hfm, hfi, hgd, hdn, d, hfd, hrun⟩
    · have hkeep : ∀ v w', Grows w w' → FreshAt ops fr base (listed.setIfInBounds i true) γ (a.put o.dst v) w' := by
        intro v w' hg
        refine ⟨fun f hm hl => ?_, fun f hm f' hm' hl hl' hne => ?_⟩
        · rw [getD_set_ne false (Ne.symm (hnf f hm).1)] at hl
          rw [getD_set_ne false (Ne.symm (hnf f hm).2)]
          obtain ⟨b1, b2, b3, b4⟩ := hγ1 f hm hl
          refine ⟨b1, Nat.lt_of_lt_of_le b2 hg.size, b3.below hg b2, fun d hd => ?_⟩
          rw [hput v d (head_slots hh (i := i) (j := f.al) hin (hf1 f hm).1 (Ne.symm (hnf f hm).1) ho hd).1]
          exact b4 d hd
        · rw [getD_set_ne false (Ne.symm (hnf f hm).1)] at hl
          rw [getD_set_ne false (Ne.symm (hnf f' hm').1)] at hl'
          exact hγ2 f hm f' hm' hl hl' hne
      rcases hob a w ti.grows (by split <;> simpa using hlen) (by
          by_cases e : b = true
          · rw [if_pos e]; exact hfull (hb e)
          · rw [if_neg e]; exact hfade) with ⟨hwt, hk⟩ | ⟨hwt, hu⟩
      · rw [if_pos hwt]
        exact .inl (wp_of_gives (hk (fun v w' => Grows w w' ∧ S.holds v w') (fun v w' h1 h2 => ⟨h1, h2⟩)) (fun v w' h => hafterStep v w' h.1 h.2 ⟨γ, hkeep v w' h.1⟩))
      · rw [if_neg (by rw [hwt]; exact Bool.false_ne_true)]
        exact hafterStep undef w (Grows.refl w) (hu w) ⟨γ, hkeep undef w (Grows.refl w)⟩
    · have hwt : Region.wanted o (yielded ops a.tmps) = true := by simp [Region.wanted, hgd]
      rw [if_pos hwt]
      refine .inl (wp_of_gives (hrun a w (fun v w' => WStep fr base w w' ∧ S.holds v w') ti.grows hlen (hfull hlook) (fun v w' h1 h2 => ⟨h1, h2⟩)) (fun v w' h => ?_))
      have hiw : i ∈ wildsOf fr wd := List.mem_append_right _ hwd
      refine typE_any hh hfr hΓ hsz h0 hcs hF m _ _ _ (by have := open_set (n := ops.size) hin hun; omega) (inv.set hi hin) ?_
      refine ⟨Below.trans ti.grows h.1.below, ?_, ?_, ?_, ?_, γ, fun f hm hl => ?_, fun f hm f' hm' hl hl' hne => ?_⟩
      · cases hd : o.dst <;> simp [Act.put, ti.defers]
      · cases hd : o.dst <;> simp [Act.put, ti.size]
      · intro j hj hl d s hd hs hfx
        by_cases hji : j = i
        · subst hji
          rw [hdst] at hd
          rw [hnext, hd] at hs
          simp only [setSlot] at hs
          rw [List.getElem?_set_self'] at hs
          have hdl : d < (Γs j).length := by
            rcases Nat.lt_or_ge d (Γs j).length with h | h
            · exact h
            · rw [List.getElem?_eq_none h] at hs; cases hs
          rw [List.getElem?_eq_getElem hdl] at hs
          injection hs with hs
          subst hs
          rw [hd]
          have hds : d < a.tmps.size := by rw [hlen]; exact hdl
          simpa [Act.put, hds] using h.2
        · rw [getD_set_ne false (Ne.symm hji)] at hl
          have hsf : s.fixed = true := hfx.elim (fun e => absurd (okAt_self inv e hiw hun hin hji hl) id) id
          rw [hput v d (head_slots hh (i := i) (j := j) hin hj (Ne.symm hji) ho hd).1]
          exact Slot.fixed_world hsf (ti.done j hj hl d s hd hs (.inr hsf))
      · intro t s hno hs
        have hne : o.dst ≠ some t := by
          rw [← hdst]
          refine hno i hin ?_
          simp [hil]
        rw [hput v t hne]
        exact Slot.fixed_world (h0 s (List.mem_of_getElem? hs)) (ti.rest t s (fun j hj hl => hno j hj (getD_set_true hl)) hs)
      · rw [getD_set_ne false (Ne.symm (hnf f hm).1)] at hl
        rw [getD_set_ne false (Ne.symm (hnf f hm).2)]
        obtain ⟨b1, b2, b3, b4⟩ := hγ1 f hm hl
        have b5 : w'.heap[γ f.al]? = w.heap[γ f.al]? := h.1.boxes f hm (γ f.al) _ b3 (by split; exact hcs f hm; rfl)
        refine ⟨b1, ?_, b5.trans b3, fun d hd => ?_⟩
        · exact (Array.getElem?_eq_some_iff.1 (b5.trans b3)).1
        · rw [hput v d (head_slots hh (i := i) (j := f.al) hin (hf1 f hm).1 (Ne.symm (hnf f hm).1) ho hd).1]
          exact b4 d hd
      · rw [getD_set_ne false (Ne.symm (hnf f hm).1)] at hl
        rw [getD_set_ne false (Ne.symm (hnf f' hm').1)] at hl'
        exact hγ2 f hm f' hm' hl hl' hne
    · have hwt : Region.wanted o (yielded ops a.tmps) = true := by simp [Region.wanted, hgd]
      rw [if_pos hwt]
      refine .inl ?_
      unfold Oper.wp
      rw [hrun a.eval w]
      simp only [Oper.upon]
      refine hafterStep _ _ ((Below.refl _ w).alloc (Nat.le_refl _) _) (by rw [hSe]; exact True.intro) ⟨fun j => if j = i then w.heap.size else γ j, fun f' hm hl => ?_, fun f1 hm1 f2 hm2 hl1 hl2 hne => ?_⟩
      · by_cases hal : f'.al = i
        · obtain rfl := hf2 f' hm f hfm (.inl (by rw [hal, hfi]))
          have hst : listed.getD f'.st false = false := by
            obtain ⟨oj, hoj, ed, hed, hb, hon⟩ := Region.waitsFor_spec (hf1 f' hm).2.2.1
            cases hl' : listed.getD f'.st false with
            | false => rfl
            | true =>
              have := inv.closed f'.st oj hoj hl' ed hed hb
              rw [hon, hal, getD_both hun] at this
              cases this
          have hne : i ≠ f'.st := fun e => (hf1 f' hm).2.2.2 f' hm (by rw [hal]; exact e)
          have e : (fun j => if j = i then w.heap.size else γ j) f'.al = w.heap.size := if_pos hal
          rw [getD_set_ne false hne, hst, if_neg Bool.false_ne_true, e]
          refine ⟨ti.grows.size, by simp, Blk.new w _ _, fun d hd => ?_⟩
          rw [hal, hdst] at hd
          rw [hd]
          have hdl : d < a.tmps.size := by
            rw [ti.size]
            exact hsz f' hm d (by rw [hal, hdst]; exact hd)
          simp [Act.put, hdl]
        · rw [getD_set_ne false (Ne.symm hal)] at hl
          have hne : i ≠ f'.st := fun e => (hf1 f hfm).2.2.2 f' hm (by rw [hfi]; exact e)
          have e : (fun j => if j = i then w.heap.size else γ j) f'.al = γ f'.al := if_neg hal
          rw [getD_set_ne false hne, e]
          obtain ⟨b1, b2, b3, b4⟩ := hγ1 f' hm hl
          refine ⟨b1, by simp; omega, b3.alloc _, fun d hd => ?_⟩
          rw [hput _ d (head_slots hh (i := i) (j := f'.al) hin (hf1 f' hm).1 (Ne.symm hal) ho hd).1]
          exact b4 d hd
      · show (if f1.al = i then w.heap.size else γ f1.al) ≠ (if f2.al = i then w.heap.size else γ f2.al)
        by_cases h1 : f1.al = i
        · have h2 : f2.al ≠ i := fun e => hne (by rw [h1, e])
          rw [if_pos h1, if_neg h2]
          rw [getD_set_ne false (Ne.symm h2)] at hl2
          have := (hγ1 f2 hm2 hl2).2.1
          omega
        · rw [if_neg h1]
          rw [getD_set_ne false (Ne.symm h1)] at hl1
          by_cases h2 : f2.al = i
          · rw [if_pos h2]
            have := (hγ1 f1 hm1 hl1).2.1
            omega
          · rw [if_neg h2]
            rw [getD_set_ne false (Ne.symm h2)] at hl2
            exact hγ2 f1 hm1 f2 hm2 hl1 hl2 hne
    · have hwt : Region.wanted o (yielded ops a.tmps) = true := by simp [Region.wanted, hgd]
      rw [if_pos hwt]
      refine .inl ?_
      have hal : listed.getD f.al false = true := by
        obtain ⟨oj, hoj, ed, hed, hb, hon⟩ := Region.waitsFor_spec (hf1 f hfm).2.2.1
        rw [hfi] at hoj
        have : oj = o := Option.some.inj (hoj.symm.trans ho)
        subst this
        have := hafter ed hed hb
        rw [hon] at this
        exact this
      obtain ⟨b1, b2, b3, b4⟩ := hγ1 f hfm hal
      rw [hfi, getD_both hun, if_neg Bool.false_ne_true] at b3
      obtain ⟨n, hn, hr⟩ := hrun a w (γ f.al) b3 hlen (b4 d hfd) hfade
      have hFS : FStep fr base w (w.setRow (γ f.al) f.cells) := FStep.of_row hfm b3 b1 _
      have hB : Below base.heap.size w (w.setRow (γ f.al) f.cells) := hFS.below
      have hfr' : ∀ v, FreshAt ops fr base (listed.setIfInBounds i true) γ (a.put o.dst v) (w.setRow (γ f.al) f.cells) := by
        intro v
        rw [hdn]
        refine ⟨fun f' hm hl => ?_, fun f1 hm1 f2 hm2 hl1 hl2 hne => ?_⟩
        · have hne : i ≠ f'.al := fun e => (hf1 f' hm).2.2.2 f hfm (by rw [hfi]; exact e.symm)
          rw [getD_set_ne false hne] at hl
          obtain ⟨c1, c2, c3, c4⟩ := hγ1 f' hm hl
          refine ⟨c1, by simp [World.setRow]; exact c2, ?_, c4⟩
          by_cases hst : f'.st = i
          · obtain rfl := hf2 f' hm f hfm (.inr (by rw [hst, hfi]))
            rw [hst, hself, if_pos rfl]
            exact b3.setRow _
          · rw [getD_set_ne false (Ne.symm hst)]
            have hff : f'.al ≠ f.al := fun e => hst (by rw [hf2 f' hm f hfm (.inl e), hfi])
            exact c3.setRow_far (hγ2 f' hm f hfm hl hal hff) _
        · have hne1 : i ≠ f1.al := fun e => (hf1 f1 hm1).2.2.2 f hfm (by rw [hfi]; exact e.symm)
          have hne2 : i ≠ f2.al := fun e => (hf1 f2 hm2).2.2.2 f hfm (by rw [hfi]; exact e.symm)
          rw [getD_set_ne false hne1] at hl1
          rw [getD_set_ne false hne2] at hl2
          exact hγ2 f1 hm1 f2 hm2 hl1 hl2 hne
      have hSv : ∀ v, (∀ d s, o.dst = some d → s = S → s.holds v (w.setRow (γ f.al) f.cells)) := fun v d s h _ => by rw [hdn] at h; cases h
      have hgo : ∀ v, wpAny P .any ops Q m (listed.setIfInBounds i true) (a.put o.dst v) (w.setRow (γ f.al) f.cells) := by
        intro v
        refine typE_any hh hfr hΓ hsz h0 hcs hF m _ _ _ (by have := open_set (n := ops.size) hin hun; omega) (inv.set hi hin) ?_
        rw [hdn]
        have hiw : i ∈ wildsOf fr wd := List.mem_append_left _ (List.mem_map.2 ⟨f, hfm, hfi⟩)
        refine ⟨Below.trans ti.grows hB, ti.defers, ti.size, fun j hj hl d' s hd' hs hfx => ?_, fun t s hno hs => ?_, ⟨γ, by have := hfr' v; rw [hdn] at this; exact this⟩⟩
        · have hji : j ≠ i := fun e => by rw [e, hdst, hdn] at hd'; cases hd'
          rw [getD_set_ne false (Ne.symm hji)] at hl
          have hsf : s.fixed = true := hfx.elim (fun e => absurd (okAt_self inv e hiw hun hin hji hl) id) id
          exact Slot.fixed_world hsf (ti.done j hj hl d' s hd' hs (.inr hsf))
        · exact Slot.fixed_world (h0 s (List.mem_of_getElem? hs)) (ti.rest t s (fun j hj hl => hno j hj (getD_set_true hl)) hs)
      unfold Oper.wp
      rw [hr]
      rcases hn with rfl | ⟨v, rfl⟩
      · simp only [Oper.upon]; exact hgo _
      · simp only [Oper.upon]; exact hgo _
end
/-- **A region that draws its order and makes variables, walked in the order of its text.** -/
theorem wp_region_typE {P : Program} {id : Nat} {Q : Exit → Act → World → Prop} {a : Act} {w : World} {l : List Oper} (fr : List Fresh) (wd : List Nat) (hcs : eachF fr fun f => f.cells.size = f.z.size) (hm : P.follows .mixedOrders = true) (hB : headB l.toArray l.length = true) (hfr : freshB l.toArray fr = true)
    (hsz : ∀ f ∈ fr, ∀ d, dstOf l.toArray f.al = some d → d < a.tmps.size)
    (h : wpTypE P l.toArray fr wd w.drew (fun Γ => ∀ (a' : Act) (w' : World) (γ : Nat → Nat), Grows w.drew w' → (∀ f ∈ fr, w.drew.heap.size ≤ γ f.al ∧ Blk w' (γ f.al) f.t f.cells ∧ ∀ d, dstOf l.toArray f.al = some d → a'.tmps.getD d undef = .pointer (some ⟨γ f.al, 0, none⟩)) → (∀ f ∈ fr, ∀ f' ∈ fr, f.al ≠ f'.al → γ f.al ≠ γ f'.al) → a'.defers = a.defers → a'.tmps.size = Γ.length → (∀ (t : Nat) (s : Slot), Γ[t]? = some s → s.fade.holds (a'.tmps.getD t undef) w') → Q .normal a' w') 0 l (a.tmps.toList.map Slot.is)) :
    (Code.region id l.toArray true).wp P Q a w := by
  obtain ⟨Γs, e0, h1, h2⟩ := wpTypE_extract _ _ _ h
  refine wp_region_any hm ?_
  have hc : openCount l.toArray.size (Array.replicate l.toArray.size false) = l.toArray.size := by
    unfold openCount
    rw [List.countP_eq_length.2 (fun i hi => by
      have : i < l.toArray.size := List.mem_range.1 hi
      have h' : i < l.length := by simpa using this
      simp [h'])]
    simp
  have inv0 : HeadInv .any l.toArray l.toArray.size (Array.replicate l.toArray.size false) :=
    ⟨by simp, fun j oj _ hl => (by rw [getD_replicate_false] at hl; cases hl), fun t ht ht' => absurd ht' (by omega)⟩
  exact typE_any (Q := Q) (base := w.drew) (d0 := a.defers) (Γs := Γs) (by simpa using hB) hfr (fun j o ho => by
      obtain ⟨S, b1, b2, b3⟩ := h1 j o (by simpa using ho)
      rw [Nat.zero_add] at b2
      exact ⟨S, b1, b2, b3⟩) (by rw [e0]; simpa using hsz) (by
      rw [e0]
      intro s hs
      obtain ⟨v, _, rfl⟩ := List.mem_map.1 hs
      rfl) (eachF_all hcs)
    (fun a' w' γ hg hf hne hd hs hh => h2 a' w' γ hg hf hne hd (by simpa using hs) (by simpa using hh)) l.toArray.size _ a w.drew hc inv0
    ⟨Grows.refl _, rfl, by rw [e0]; simp, fun j _ hl => (by rw [getD_replicate_false] at hl; cases hl), fun t s _ hs => by
      rw [e0] at hs
      simp only [List.getElem?_map, Array.getElem?_toList, Option.map_eq_some_iff] at hs
      obtain ⟨v, hv, rfl⟩ := hs
      show a.tmps.getD t undef = v
      rw [Array.getD_eq_getD_getElem?, hv]
      rfl, ⟨fun _ => 0, fun f _ hl => (by rw [getD_replicate_false] at hl; cases hl), fun f _ f' _ hl => (by rw [getD_replicate_false] at hl; cases hl)⟩⟩
/-! ### Over the frame that was and what has been written since -/
def OblAE (P : Program) (ops : Array Oper) (fr : List Fresh) (wd : List Nat) (base : World) (f : Array Value) (u : List (Tmp × Slot)) (i : Nat) (o : Oper) (S : Slot) : Prop :=
  ((∀ x ∈ fr, x.al ≠ i ∧ x.st ≠ i) ∧ ∃ b : Bool, (b = true → looksOkU ops (wildsOf fr wd) i u f o = true) ∧ OblA P ops base f (if b = true then u else fadeU u) o S) ∨
  ((∀ x ∈ fr, x.al ≠ i ∧ x.st ≠ i) ∧ i ∈ wd ∧ o.guard = none ∧ looksOkU ops (wildsOf fr wd) i u f o = true ∧ ∀ (ρ : Operand → Value) (w : World) (K : Value → World → Prop), Grows base w → fitsA u f o.op.operands.toList ρ w → (∀ v w', WStep fr base w w' → S.holds v w' → K v w') → gives P o ρ w K) ∨
  (∃ x ∈ fr, x.al = i ∧ o.guard = none ∧ S = .like (fun _ _ => True) ∧ ∀ (ρ : Operand → Value) (w : World), (execOp ρ o).run P w = .ok (.value (.pointer (some ⟨w.heap.size, 0, none⟩))) (w.alloc (.cells x.z x.t))) ∨
  (∃ x ∈ fr, x.st = i ∧ o.guard = none ∧ o.dst = none ∧ ∃ d, dstOf ops x.al = some d ∧ ∀ (ρ : Operand → Value) (w : World) (g : Nat), Blk w g x.t x.z → ρ (.tmp d) = .pointer (some ⟨g, 0, none⟩) → fitsA (fadeU u) f o.op.operands.toList ρ w → ∃ n, (n = .skip ∨ ∃ v, n = .value v) ∧ (execOp ρ o).run P w = .ok n (w.setRow g x.cells))
def wpTypAE (P : Program) (ops : Array Oper) (fr : List Fresh) (wd : List Nat) (base : World) (f : Array Value) (F : List (Tmp × Slot) → Prop) : Nat → List Oper → List (Tmp × Slot) → Prop
  | _, [], u => F u
  | i, o :: rest, u => ∃ S : Slot, S.stable ∧ OblAE P ops fr wd base f u i o S ∧ wpTypAE P ops fr wd base f F (i + 1) rest (pushSlot u o.dst S)
section
variable {P : Program} {ops : Array Oper} {fr : List Fresh} {wd : List Nat} {base : World} {f : Array Value}
theorem oblE_of {Γ : List Slot} {u : List (Tmp × Slot)} (h : Rep Γ u f) {i : Nat} {o : Oper} {S : Slot} (hin : ∀ t ∈ o.looksAt ops, t < f.size) (ho : OblAE P ops fr wd base f u i o S) : OblE P ops fr wd base i Γ o S := by
  rcases ho with ⟨h1, b, hb, h2⟩ | ⟨h1, hw, hg, hl, hr⟩ | h2 | ⟨x, hx, hi, hg, hd, d, hdd, hr⟩
  · refine .inl ⟨h1, b, fun e => looksOk_of h (hb e), ?_⟩
    by_cases he : b = true
    · rw [if_pos he] at h2 ⊢
      exact obl_of h hin h2
    · rw [if_neg he] at h2 ⊢
      exact obl_of h.fade hin h2
  · refine .inr (.inl ⟨h1, hw, hg, looksOk_of h hl, fun a w K hb hsz hf hK => hr a.eval w K hb ?_ hK⟩)
    refine fitsA_of h hsz _ (fun t ht s hs => ?_) (fun t ht hn => ?_)
    · exact hf t (List.mem_append_left _ (List.mem_filterMap.2 ⟨_, ht, rfl⟩)) s hs
    · have := hin t (List.mem_append_left _ (List.mem_filterMap.2 ⟨_, ht, rfl⟩))
      rw [List.getElem?_eq_none_iff, h.1] at hn
      exact absurd this (Nat.not_lt.2 hn)
  · exact .inr (.inr (.inl h2))
  · refine .inr (.inr (.inr ⟨x, hx, hi, hg, hd, d, hdd, fun a w g hB hsz hp hf => hr a.eval w g hB hp ?_⟩))
    refine fitsA_of h.fade (hsz.trans (List.length_map _).symm) _ (fun t ht s hs => ?_) (fun t ht hn => ?_)
    · exact hf t (List.mem_append_left _ (List.mem_filterMap.2 ⟨_, ht, rfl⟩)) s hs
    · have := hin t (List.mem_append_left _ (List.mem_filterMap.2 ⟨_, ht, rfl⟩))
      rw [List.getElem?_eq_none_iff, h.fade.1] at hn
      exact absurd this (Nat.not_lt.2 hn)
theorem typE_of_typAE {F : List Slot → Prop} {FA : List (Tmp × Slot) → Prop} (hF : ∀ Γ u, Rep Γ u f → FA u → F Γ) : ∀ (l : List Oper) (i : Nat) (Γ : List Slot) (u : List (Tmp × Slot)), insideB l ops f.size = true → Rep Γ u f → wpTypAE P ops fr wd base f FA i l u → wpTypE P ops fr wd base F i l Γ
  | [], _, Γ, u, _, hr, h => hF Γ u hr h
  | o :: rest, i, Γ, u, hi, hr, h => by
    obtain ⟨S, hS, ho, hn⟩ := h
    unfold insideB at hi
    simp only [List.all_cons, Bool.and_eq_true, List.all_eq_true, decide_eq_true_eq] at hi
    refine ⟨S, hS, oblE_of hr hi.1 ho, typE_of_typAE hF rest _ _ _ ?_ (hr.push o.dst S) hn⟩
    unfold insideB
    simp only [List.all_eq_true, decide_eq_true_eq]
    exact hi.2
end
theorem wp_region_kindsE {P : Program} {id : Nat} {Q : Exit → Act → World → Prop} {a : Act} {w : World} {l : List Oper} (fr : List Fresh) (wd : List Nat) (hcs : eachF fr fun f => f.cells.size = f.z.size) (hm : P.follows .mixedOrders = true) (hB : regBF l fr a.tmps.size = true)
    (h : ∀ F : List (Tmp × Slot) → Prop, (∀ u, nodupB (u.map (·.1)) = true → (u.all fun x => decide (x.1 < a.tmps.size)) = true → (∀ w' γ, Grows w.drew w' → (eachF fr fun x => w.drew.heap.size ≤ γ x.al ∧ Blk w' (γ x.al) x.t x.cells) → unlike γ fr → finish (fadeU u) a w' (fun a' => tied l.toArray fr γ a' → Q .normal a' w')) → F u) → wpTypAE P l.toArray fr wd w.drew a.tmps F 0 l []) :
    (Code.region id l.toArray true).wp P Q a w := by
  simp only [regBF, regBR, Bool.and_eq_true] at hB
  obtain ⟨⟨⟨⟨hB1, hB2⟩, hB3⟩, hB4⟩, hB5⟩ := hB
  have hsz : ∀ f ∈ fr, ∀ d, dstOf l.toArray f.al = some d → d < a.tmps.size := by
    intro f _ d hd
    unfold dstOf at hd
    cases ho : l.toArray[f.al]? with
    | none => rw [ho] at hd; cases hd
    | some o =>
      rw [ho] at hd
      simp only [Option.bind_some] at hd
      have := List.all_eq_true.1 hB3 o (List.mem_of_getElem? (by simpa using ho))
      rw [hd] at this
      simpa using this
  refine wp_region_typE fr wd hcs hm hB1 hB4 hsz (typE_of_typAE (f := a.tmps) ?_ l 0 _ [] hB2 ?_ (h (fun u => nodupB (u.map (·.1)) = true ∧ (u.all fun x => decide (x.1 < a.tmps.size)) = true ∧ ∀ w' γ, Grows w.drew w' → (eachF fr fun x => w.drew.heap.size ≤ γ x.al ∧ Blk w' (γ x.al) x.t x.cells) → unlike γ fr → finish (fadeU u) a w' (fun a' => tied l.toArray fr γ a' → Q .normal a' w')) (fun u h1 h2 h3 => ⟨h1, h2, h3⟩)))
  · rintro Γ u hr ⟨hnd, hin', hf⟩ a' w' γ hg hfr hne hd hs hh
    have key := finish_all (fadeU u) _ (by rw [fadeU_keys]; exact hnd) (fun x hx => ?_) (hf w' γ hg (eachF_of fr fun x hx => ⟨(hfr x hx).1, (hfr x hx).2.1⟩) (unlike_of fr hB5 hne)) a' hd (hs.trans hr.1) (fun t ht => ?_)
    · refine key (eachF_of fr fun x hx => ?_)
      split
      · exact (hfr x hx).2.2 _ (by assumption)
      · trivial
    · have hx' : x.1 ∈ u.map (·.1) := by rw [← fadeU_keys]; exact List.mem_map_of_mem hx
      obtain ⟨y, hy, e⟩ := List.mem_map.1 hx'
      have := List.all_eq_true.1 hin' y hy
      rw [← e]
      simpa using this
    · have htl : t < Γ.length := by rw [hr.1]; exact ht
      rw [look_fade, ← hr.2 t _ (List.getElem?_eq_getElem htl)]
      exact hh t _ (List.getElem?_eq_getElem htl)
  · refine ⟨by simp, fun t s hs => ?_⟩
    simp only [List.getElem?_map, Array.getElem?_toList, Option.map_eq_some_iff] at hs
    obtain ⟨v, hv, rfl⟩ := hs
    show Slot.is v = Slot.is (a.tmps.getD t undef)
    rw [Array.getD_eq_getD_getElem?, hv]
    rfl
section
variable {P : Program} {ops : Array Oper} {fr : List Fresh} {wd : List Nat} {base : World} {f : Array Value} {F : List (Tmp × Slot) → Prop} {o : Oper} {rest : List Oper} {u : List (Tmp × Slot)} {i : Nat}
theorem kindsE_nil (h : F u) : wpTypAE P ops fr wd base f F i [] u := h
/-- A step for which every filling waits: all that is known is at hand. -/
theorem kindsE_is {v : Value} (hg : o.guard = none) (hn : noFr fr i = true) (he : looksOkU ops (wildsOf fr wd) i u f o = true) (h : ∀ (ρ : Operand → Value) (w : World) (K : Value → World → Prop), Grows base w → fitsA u f o.op.operands.toList ρ w → (∀ w', Grows w w' → K v w') → gives P o ρ w K)
    (hr : wpTypAE P ops fr wd base f F (i + 1) rest (pushSlot u o.dst (.is v))) : wpTypAE P ops fr wd base f F i (o :: rest) u :=
  ⟨.is v, Slot.stable_is v, .inl ⟨noFr_spec hn, true, fun _ => he, by rw [if_pos rfl]; unfold OblA; rw [hg]; exact fun ρ w K hw hf hK => h ρ w K hw hf (fun w' hg' => hK v w' hg' rfl)⟩, hr⟩
/-- Any other step: what is known exactly. -/
theorem kindsE_isL {v : Value} (hg : o.guard = none) (hn : noFr fr i = true) (h : ∀ (ρ : Operand → Value) (w : World) (K : Value → World → Prop), Grows base w → fitsA (fadeU u) f o.op.operands.toList ρ w → (∀ w', Grows w w' → K v w') → gives P o ρ w K)
    (hr : wpTypAE P ops fr wd base f F (i + 1) rest (pushSlot u o.dst (.is v))) : wpTypAE P ops fr wd base f F i (o :: rest) u :=
  ⟨.is v, Slot.stable_is v, .inl ⟨noFr_spec hn, false, (fun e => by cases e), by rw [if_neg Bool.false_ne_true]; unfold OblA; rw [hg]; exact fun ρ w K hw hf hK => h ρ w K hw hf (fun w' hg' => hK v w' hg' rfl)⟩, hr⟩
theorem kindsE_like (V : Value → World → Prop) (hV : ∀ v w w', V v w → Grows w w' → V v w') (hg : o.guard = none) (hn : noFr fr i = true) (he : looksOkU ops (wildsOf fr wd) i u f o = true) (h : ∀ (ρ : Operand → Value) (w : World) (K : Value → World → Prop), Grows base w → fitsA u f o.op.operands.toList ρ w → (∀ v w', Grows w w' → V v w' → K v w') → gives P o ρ w K)
    (hr : wpTypAE P ops fr wd base f F (i + 1) rest (pushSlot u o.dst (.like V))) : wpTypAE P ops fr wd base f F i (o :: rest) u :=
  ⟨.like V, hV, .inl ⟨noFr_spec hn, true, fun _ => he, by rw [if_pos rfl]; unfold OblA; rw [hg]; exact fun ρ w K hw hf hK => h ρ w K hw hf hK⟩, hr⟩
theorem kindsE_move_is (t : Tmp) {v : Value} (hg : o.guard = none) (hn : noFr fr i = true) (ho : o.op = .move (.tmp t) ∨ o.op = .assign (.tmp t)) (hl : look u f t = .is v)
    (hr : wpTypAE P ops fr wd base f F (i + 1) rest (pushSlot u o.dst (.is v))) : wpTypAE P ops fr wd base f F i (o :: rest) u := by
  have key : ∀ (ρ : Operand → Value) (w : World) (K : Value → World → Prop), ρ (.tmp t) = v → (∀ w', Grows w w' → K v w') → gives P o ρ w K := fun ρ w K hs hK => by
    unfold gives execOp
    rcases ho with ho | ho <;> simp only [ho, hs] <;> exact hK _ (Grows.refl w)
  have key2 : ∀ (u' : List (Tmp × Slot)), look u' f t = .is v → ∀ (ρ : Operand → Value) (w : World) (K : Value → World → Prop), Grows base w → fitsA u' f o.op.operands.toList ρ w → (∀ w', Grows w w' → K v w') → gives P o ρ w K := fun u' hl' ρ w K hw hf hK => by
    refine key ρ w K ?_ hK
    rcases ho with ho | ho
    · rw [ho] at hf
      have h1 : (look u' f t).holds (ρ (.tmp t)) w := hf.1
      rw [hl'] at h1
      exact h1
    · rw [ho] at hf
      have h1 : (look u' f t).holds (ρ (.tmp t)) w := hf.1
      rw [hl'] at h1
      exact h1
  exact kindsE_isL hg hn (key2 _ (by rw [look_fade, hl]; rfl)) hr
theorem kindsE_load (t : Tmp) (ty : TypeId) {q v : Value} (hg : o.guard = none) (hn : noFr fr i = true) (ho : o.op = .load ty (.tmp t)) (hl : look u f t = .is q) (h : ∀ w', Grows base w' → (Instr.loadAt ty q).run P w' = .ok v w')
    (hr : wpTypAE P ops fr wd base f F (i + 1) rest (pushSlot u o.dst (.is v))) : wpTypAE P ops fr wd base f F i (o :: rest) u := by
  have key : ∀ (u' : List (Tmp × Slot)), look u' f t = .is q → ∀ (ρ : Operand → Value) (w : World) (K : Value → World → Prop), Grows base w → fitsA u' f o.op.operands.toList ρ w → (∀ w', Grows w w' → K v w') → gives P o ρ w K := fun u' hl' ρ w K hw hf hK => by
    rw [ho] at hf
    have hs : (look u' f t).holds (ρ (.tmp t)) w := hf.1
    rw [hl'] at hs
    have e : ρ (.tmp t) = q := hs
    unfold gives execOp
    simp only [ho, Sem.run_bind, e, h w hw, Result.andThen_ok, Sem.run_pure]
    exact hK _ (Grows.refl w)
  exact kindsE_isL hg hn (key _ (by rw [look_fade, hl]; rfl)) hr
/-- A wild step: it may change blocks that the region made. -/
theorem kindsE_wild (V : Value → World → Prop) (hV : ∀ v w w', V v w → Grows w w' → V v w') (hg : o.guard = none) (hn : noFr fr i = true) (hwd : i ∈ wd) (he : looksOkU ops (wildsOf fr wd) i u f o = true) (h : ∀ (ρ : Operand → Value) (w : World) (K : Value → World → Prop), Grows base w → fitsA u f o.op.operands.toList ρ w → (∀ v w', WStep fr base w w' → V v w' → K v w') → gives P o ρ w K)
    (hr : wpTypAE P ops fr wd base f F (i + 1) rest (pushSlot u o.dst (.like V))) : wpTypAE P ops fr wd base f F i (o :: rest) u :=
  ⟨.like V, hV, .inr (.inl ⟨noFr_spec hn, hwd, hg, he, fun ρ w K hw hf hK => h ρ w K hw hf hK⟩), hr⟩
/-- The making of a variable. -/
theorem kindsE_alloc (ty : TypeId) (st : Nat) (z cells : Array Value) (hg : o.guard = none) (ho : o.op = .alloc ty) (hm : (⟨i, st, ty, z, cells⟩ : Fresh) ∈ fr)
    (hz : ∀ w, (Instr.alloc ty true (.tuple #[])).run P w = .ok (.pointer (some ⟨w.heap.size, 0, none⟩)) (w.alloc (.cells z ty)))
    (hr : wpTypAE P ops fr wd base f F (i + 1) rest (pushSlot u o.dst (.like fun _ _ => True))) : wpTypAE P ops fr wd base f F i (o :: rest) u := by
  refine ⟨.like fun _ _ => True, fun _ _ _ _ _ => True.intro, .inr (.inr (.inl ⟨_, hm, rfl, hg, rfl, fun ρ w => ?_⟩)), hr⟩
  unfold execOp
  simp only [ho, Sem.run_bind, hz w, Result.andThen_ok, Sem.run_pure]
/-- .. and its filling. -/
theorem kindsE_store (tp tv : Tmp) (ty : TypeId) (al : Nat) (z cells : Array Value) {v : Value} (hg : o.guard = none) (hd : o.dst = none) (ho : o.op = .store ty (.tmp tp) (.tmp tv)) (hdd : dstOf ops al = some tp) (hlv : look u f tv = .is v) (hm : (⟨al, i, ty, z, cells⟩ : Fresh) ∈ fr)
    (hz : ∀ (w : World) (g : Nat), Blk w g ty z → (Instr.storeAt ty (.pointer (some ⟨g, 0, none⟩)) v).run P w = .ok () (w.setRow g cells))
    (hr : wpTypAE P ops fr wd base f F (i + 1) rest u) : wpTypAE P ops fr wd base f F i (o :: rest) u := by
  refine ⟨.is undef, Slot.stable_is _, .inr (.inr (.inr ⟨_, hm, rfl, hg, hd, tp, hdd, fun ρ w g hB hp hf => ⟨.skip, .inl rfl, ?_⟩⟩)), by rw [hd]; exact hr⟩
  rw [ho] at hf
  have e2 : ρ (.tmp tv) = v := by
    have : (look (fadeU u) f tv).holds (ρ (.tmp tv)) w := hf.2.1
    rw [look_fade, hlv] at this
    exact this
  unfold execOp
  simp only [ho, Sem.run_bind, hp, e2, hz w g hB, Result.andThen_ok, Sem.run_pure]
end
end Go.Proofs.Ythdanjbgbbcafaa
