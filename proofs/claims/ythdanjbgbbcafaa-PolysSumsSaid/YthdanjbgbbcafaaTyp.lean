/- Regions that draw their order, walked once in the order of the text, each operation's value told exactly or by a property that lasts while the world grows; a forced tail behind them. Laws alone, of whatever program. -/
import Derived.StillTail
import Derived.Below
import Derived.Deep.Quiet
import Derived.Deep.QuietTactic
namespace Go.Proofs.Ythdanjbgbbcafaa
open Go Go.RowKit

/-- One world grows out of another: what was there is as it was. -/
def Grows (w w' : World) : Prop := Below w.heap.size w w'
theorem Grows.refl (w : World) : Grows w w := Below.refl _ _
theorem Grows.trans {a b c : World} (h : Grows a b) (k : Grows b c) : Grows a c := Below.trans h (Below.mono k h.size)

theorem below_trans_grows {B : Nat} {a b c : World} (h : Below B a b) (k : Grows b c) (hB : B ≤ b.heap.size) : Below B a c := h.trans (k.mono hB)
/-- What is known of a slot: its value, or a property. -/
inductive Slot where
  | is (v : Value)
  | like (V : Value → World → Prop)
def Slot.holds : Slot → Value → World → Prop
  | .is v, u, _ => u = v
  | .like V, u, w => V u w
def Slot.stable (s : Slot) : Prop := ∀ v w w', s.holds v w → Grows w w' → s.holds v w'
theorem Slot.stable_is (v : Value) : (Slot.is v).stable := fun _ _ _ h _ => h

def givesUpon (P : Program) (K : Value → World → Prop) : Result Next → Prop
  | .ok (.value v) w => K v w
  | .ok .skip w => K undef w
  | .ok (.enter f args) w => Calls P f args w (fun e w' => ∃ v, e = .returned v ∧ K v w')
  | _ => False
def gives (P : Program) (o : Oper) (ρ : Operand → Value) (w : World) (K : Value → World → Prop) : Prop := givesUpon P K ((execOp ρ o).run P w)
def fits (Γ : List Slot) (L : List Tmp) (ρ : Operand → Value) (w : World) : Prop := ∀ t ∈ L, ∀ s, Γ[t]? = some s → s.holds (ρ (.tmp t)) w
def setSlot (Γ : List Slot) : Option Tmp → Slot → List Slot
  | some d, s => Γ.set d s
  | none, _ => Γ
def Obl (P : Program) (ops : Array Oper) (base : World) (Γ : List Slot) (o : Oper) (S : Slot) : Prop :=
  ∀ (a : Act) (w : World), Grows base w → a.tmps.size = Γ.length → fits Γ (o.looksAt ops) a.eval w →
    (Region.wanted o (yielded ops a.tmps) = true ∧ ∀ K : Value → World → Prop, (∀ v w', Grows w w' → S.holds v w' → K v w') → gives P o a.eval w K) ∨
    (Region.wanted o (yielded ops a.tmps) = false ∧ ∀ w', S.holds undef w')
/-- The walk, in the order of the text. -/
def wpTyp (P : Program) (ops : Array Oper) (base : World) (F : List Slot → Prop) : List Oper → List Slot → Prop
  | [], Γ => F Γ
  | o :: rest, Γ => ∃ S : Slot, S.stable ∧ Obl P ops base Γ o S ∧ wpTyp P ops base F rest (setSlot Γ o.dst S)

section
variable {P : Program} {ops : Array Oper}

theorem wp_of_gives {o : Oper} {a : Act} {w : World} {K : Value → World → Prop} {next : Act → World → Prop} {Q : Exit → Act → World → Prop}
    (h : gives P o a.eval w K) (hn : ∀ v w', K v w' → next (a.put o.dst v) w') : o.wp P a w next Q := by
  unfold gives at h
  unfold Oper.wp
  generalize (execOp a.eval o).run P w = r at *
  cases r with
  | ok n w' =>
    cases n <;> simp only [givesUpon] at h <;> simp only [Oper.upon]
    case value v => exact hn _ _ h
    case skip => exact hn _ _ h
    case enter f args =>
      refine h.mono fun e w'' ⟨v, he, hk⟩ => ?_
      subst he
      exact hn _ _ hk
  | halt x w' => simp only [givesUpon] at h

theorem setSlot_length (Γ : List Slot) (d : Option Tmp) (s : Slot) : (setSlot Γ d s).length = Γ.length := by
  cases d <;> simp [setSlot]

theorem wpTyp_extract {base : World} {F : List Slot → Prop} : ∀ (l : List Oper) (Γ : List Slot), wpTyp P ops base F l Γ →
    ∃ Γs : Nat → List Slot, Γs 0 = Γ ∧ (∀ (j : Nat) (o : Oper), l[j]? = some o → ∃ S : Slot, S.stable ∧ Obl P ops base (Γs j) o S ∧ Γs (j + 1) = setSlot (Γs j) o.dst S) ∧ F (Γs l.length)
  | [], Γ, h => ⟨fun _ => Γ, rfl, fun j o hj => by simp at hj, h⟩
  | o :: rest, Γ, h => by
    obtain ⟨S, hs, ho, hr⟩ := h
    obtain ⟨Γs, h0, h1, h2⟩ := wpTyp_extract rest _ hr
    refine ⟨fun j => match j with | 0 => Γ | j + 1 => Γs j, rfl, ?_, h2⟩
    intro j o' hj
    cases j with
    | zero =>
      simp only [List.getElem?_cons_zero, Option.some.injEq] at hj
      subst hj
      exact ⟨S, hs, ho, h0⟩
    | succ j =>
      simp only [List.getElem?_cons_succ] at hj
      exact h1 j o' hj

/-- The order of the region's head: no slot is written twice; whoever reads a slot that another one writes is bound to it. -/
def dstOf (ops : Array Oper) (j : Nat) : Option Tmp := (ops[j]?).bind (·.dst)
def headB (ops : Array Oper) (n : Nat) : Bool :=
  ((List.range n).all fun i => (List.range n).all fun j => i == j ||
    (match dstOf ops j, ops[i]? with
     | some d, some oi => oi.dst != some d && (!(oi.looksAt ops).contains d || (if j < i then Region.waitsFor .any ops i j else Region.waitsFor .any ops j i))
     | _, _ => true)) &&
  ((List.range n).all fun i => match ops[i]? with | some o => o.after.all fun e => !Region.binds .any e || decide (e.on < i) | none => true)
def firstN (n m : Nat) : Array Bool := ((List.range m).map fun i => decide (i < n)).toArray
def typB (ops : Array Oper) (n : Nat) : Bool :=
  headB ops n && decide (n ≤ ops.size) && (decide (n = ops.size) || (Region.sinkB .any ops n && Region.chainB .any ops n)) && Region.seqB .any ops (ops.size - n) n (firstN n ops.size)

theorem head_slots {n : Nat} (hh : headB ops n = true) {i j : Nat} (hi : i < n) (hj : j < n) (hij : i ≠ j) {d : Tmp} {oi : Oper} (ho : ops[i]? = some oi) (hd : dstOf ops j = some d) :
    oi.dst ≠ some d ∧ (d ∈ oi.looksAt ops → if j < i then Region.waitsFor .any ops i j = true else Region.waitsFor .any ops j i = true) := by
  unfold headB at hh
  simp only [Bool.and_eq_true, List.all_eq_true, List.mem_range] at hh
  have h := hh.1 i hi j hj
  rw [hd, ho] at h
  simp only [Bool.or_eq_true, beq_iff_eq, Bool.and_eq_true, bne_iff_ne, ne_eq, Bool.not_eq_true'] at h
  rcases h with h | ⟨h1, h2⟩
  · exact absurd h hij
  · refine ⟨h1, fun hm => ?_⟩
    rcases h2 with h2 | h2
    · rw [List.contains_iff_mem.2 hm] at h2
      cases h2
    · split
      · rename_i hlt; rw [if_pos hlt] at h2; exact h2
      · rename_i hlt; rw [if_neg hlt] at h2; exact h2
theorem head_edges {n : Nat} (hh : headB ops n = true) {i : Nat} (hi : i < n) {o : Oper} (ho : ops[i]? = some o) : ∀ e ∈ o.after, Region.binds .any e = true → e.on < i := by
  unfold headB at hh
  simp only [Bool.and_eq_true, List.all_eq_true, List.mem_range] at hh
  have h := hh.2 i hi
  rw [ho] at h
  simp only [Array.all_eq_true_iff_forall_mem, Bool.or_eq_true, Bool.not_eq_true', decide_eq_true_eq] at h
  intro e he hb
  rcases h e he with h | h
  · rw [hb] at h; cases h
  · exact h

theorem count_set {p q : Nat → Bool} {i : Nat} (hp : p i = true) (hq : q i = false) (hne : ∀ j, j ≠ i → q j = p j) : ∀ (L : List Nat), L.Nodup → i ∈ L → L.countP q + 1 = L.countP p
  | [], _, h => by cases h
  | x :: L, hn, h => by
    rw [List.nodup_cons] at hn
    by_cases hx : x = i
    · subst hx
      have e : L.countP q = L.countP p := List.countP_congr (fun j hj => by rw [hne j (fun e => hn.1 (e ▸ hj))])
      rw [List.countP_cons_of_pos hp, List.countP_cons_of_neg (by simp [hq]), e]
    · have hm : i ∈ L := by
        rcases List.mem_cons.1 h with h | h
        · exact absurd h.symm hx
        · exact h
      have ih := count_set hp hq hne L hn.2 hm
      cases hpx : p x with
      | true =>
        have hqx : q x = true := (hne x hx).trans hpx
        rw [List.countP_cons_of_pos hpx, List.countP_cons_of_pos hqx]; omega
      | false =>
        have hqx : q x = false := (hne x hx).trans hpx
        rw [List.countP_cons_of_neg (p := p) (by rw [hpx]; exact Bool.false_ne_true), List.countP_cons_of_neg (p := q) (by rw [hqx]; exact Bool.false_ne_true)]; exact ih
def openCount (n : Nat) (listed : Array Bool) : Nat := (List.range n).countP fun i => !listed.getD i true
theorem open_some {n : Nat} {listed : Array Bool} (h : 0 < openCount n listed) : ∃ i, i < n ∧ listed.getD i true = false := by
  obtain ⟨i, hi, hp⟩ := List.countP_pos_iff.1 h
  exact ⟨i, List.mem_range.1 hi, by simpa using hp⟩
theorem open_none {n : Nat} {listed : Array Bool} (h : openCount n listed = 0) (i : Nat) (hi : i < n) : listed.getD i true = true := by
  have := List.countP_eq_zero.1 h i (List.mem_range.2 hi)
  simpa using this
theorem open_set {n i : Nat} {listed : Array Bool} (hi : i < n) (hs : listed.getD i true = false) : openCount n (listed.setIfInBounds i true) + 1 = openCount n listed := by
  refine count_set (i := i) (by simp [hs]) ?_ (fun j hj => by rw [getD_set_ne true (Ne.symm hj)]) _ List.nodup_range (List.mem_range.2 hi)
  rcases Nat.lt_or_ge i listed.size with h | h
  · simp [h]
  · simp [Array.getElem?_eq_none h] at hs

structure TInv (base : World) (d0 : List Deferred) (n : Nat) (Γ0 : List Slot) (Γs : Nat → List Slot) (ops : Array Oper) (listed : Array Bool) (a : Act) (w : World) : Prop where
  grows : Grows base w
  defers : a.defers = d0
  size : a.tmps.size = Γ0.length
  done : ∀ j, j < n → listed.getD j false = true → ∀ d s, dstOf ops j = some d → (Γs (j + 1))[d]? = some s → s.holds (a.tmps.getD d undef) w
  rest : ∀ t s, (∀ j, j < n → listed.getD j false = true → dstOf ops j ≠ some t) → Γ0[t]? = some s → s.holds (a.tmps.getD t undef) w

theorem getD_of_true {listed : Array Bool} {i : Nat} (h : listed.getD i true = true) (hs : i < listed.size) : listed.getD i false = true := by
  simp [hs] at h ⊢; exact h
end

section
variable {P : Program} {ops : Array Oper} {base : World} {d0 : List Deferred} {n : Nat} {Γs : Nat → List Slot}

theorem gs_len (hΓ : ∀ (j : Nat) (o : Oper), j < n → ops[j]? = some o → ∃ S : Slot, S.stable ∧ Obl P ops base (Γs j) o S ∧ Γs (j + 1) = setSlot (Γs j) o.dst S) (hn : n ≤ ops.size) : ∀ i, i ≤ n → (Γs i).length = (Γs 0).length
  | 0, _ => rfl
  | i + 1, h => by
    obtain ⟨S, _, _, e⟩ := hΓ i _ (by omega) (Array.getElem?_eq_getElem (by omega))
    rw [e, setSlot_length]
    exact gs_len hΓ hn i (by omega)
/-- A slot that a later operation wrote no more. -/
theorem gs_keep (hΓ : ∀ (j : Nat) (o : Oper), j < n → ops[j]? = some o → ∃ S : Slot, S.stable ∧ Obl P ops base (Γs j) o S ∧ Γs (j + 1) = setSlot (Γs j) o.dst S) (hn : n ≤ ops.size) (t : Tmp) : ∀ (k i : Nat), i + k ≤ n → (∀ j, i ≤ j → j < i + k → dstOf ops j ≠ some t) → (Γs (i + k))[t]? = (Γs i)[t]?
  | 0, _, _, _ => rfl
  | k + 1, i, h, hw => by
    have ih := gs_keep hΓ hn t k i (by omega) (fun j h1 h2 => hw j h1 (by omega))
    obtain ⟨S, _, _, e⟩ := hΓ (i + k) _ (by omega) (Array.getElem?_eq_getElem (by omega))
    have hne := hw (i + k) (by omega) (by omega)
    rw [show i + (k + 1) = i + k + 1 by omega, e, ← ih]
    unfold dstOf at hne
    rw [Array.getElem?_eq_getElem (by omega)] at hne
    simp only [Option.bind_some] at hne
    cases hd : (ops[i + k]'(by omega)).dst with
    | none => rfl
    | some d =>
      rw [hd] at hne
      have hdt : d ≠ t := fun e => hne (by rw [e])
      simp only [setSlot]
      rw [List.getElem?_set_ne hdt]

theorem typ_any {Q : Exit → Act → World → Prop} (hh : headB ops n = true) (hn : n ≤ ops.size) (ht : n = ops.size ∨ (Region.sinkB .any ops n = true ∧ Region.chainB .any ops n = true))
    (hq : Region.seqB .any ops (ops.size - n) n (firstN n ops.size) = true)
    (hΓ : ∀ (j : Nat) (o : Oper), j < n → ops[j]? = some o → ∃ S : Slot, S.stable ∧ Obl P ops base (Γs j) o S ∧ Γs (j + 1) = setSlot (Γs j) o.dst S)
    (h0 : ∀ s ∈ Γs 0, s.stable)
    (hF : ∀ (a : Act) (w : World), Grows base w → a.defers = d0 → a.tmps.size = (Γs n).length → (∀ (t : Nat) (s : Slot), (Γs n)[t]? = some s → s.holds (a.tmps.getD t undef) w) → wpList P ops Q (ops.toList.drop n) a w) :
    ∀ (m : Nat) (listed : Array Bool) (a : Act) (w : World), openCount n listed = m → HeadInv .any ops n listed → TInv base d0 n (Γs 0) Γs ops listed a w → wpAny P .any ops Q (m + (ops.size - n)) listed a w
  | 0, listed, a, w, hc, inv, ti => by
    have hall : listed = firstN n ops.size := by
      apply Array.ext (by simp [firstN, inv.size])
      intro i hi1 hi2
      have hi : i < ops.size := by rw [← inv.size]; exact hi1
      have e : (firstN n ops.size)[i] = decide (i < n) := by simp [firstN]
      rw [e]
      by_cases hin : i < n
      · have := open_none hc i hin
        simp [hi1] at this
        simp [hin, this]
      · have := inv.tail i (by omega) hi
        simp [hi1] at this
        simp [hin, this]
    rw [Nat.zero_add]
    have hl : (ops.toList.drop n).length = ops.size - n := by simp
    rw [← hl]
    refine wpAny_of_seq (md := .any) (ops.toList.drop n) n listed a w (fun j => by simp [List.getElem?_drop]) (by rw [hl, hall]; exact hq) ?_
    refine hF a w ti.grows ti.defers (ti.size.trans (gs_len hΓ hn n (Nat.le_refl _)).symm) ?_
    intro t s hs
    by_cases hw : ∃ j, j < n ∧ dstOf ops j = some t
    · obtain ⟨j, hj, hd⟩ := hw
      refine ti.done j hj (getD_of_true (open_none hc j hj) (by rw [inv.size]; omega)) t s hd ?_
      have hk := gs_keep hΓ hn t (n - (j + 1)) (j + 1) (by omega) (fun k h1 h2 hk => by
        have := head_slots hh (i := k) (j := j) (by omega) hj (by omega) (Array.getElem?_eq_getElem (by omega)) hd
        unfold dstOf at hk
        rw [Array.getElem?_eq_getElem (by omega)] at hk
        exact this.1 hk)
      rw [show j + 1 + (n - (j + 1)) = n by omega] at hk
      rw [← hk]
      exact hs
    · refine ti.rest t s (fun j hj _ hd => hw ⟨j, hj, hd⟩) ?_
      have hk := gs_keep hΓ hn t n 0 (by omega) (fun k _ h2 hk => hw ⟨k, by omega, hk⟩)
      rw [Nat.zero_add] at hk
      rw [← hk]
      exact hs
  | m + 1, listed, a, w, hc, inv, ti => by
    have hready : ∃ i, i ∈ Region.ready .any ops listed := by
      obtain ⟨i0, hi0, hu0⟩ := open_some (n := n) (listed := listed) (by omega)
      have key : ∀ i, i < n → listed.getD i true = false → ∃ i, i ∈ Region.ready .any ops listed := by
        intro i
        induction i using Nat.strongRecOn with
        | _ i ih =>
          intro hi hu
          by_cases hr : i ∈ Region.ready .any ops listed
          · exact ⟨i, hr⟩
          · have hex : ∃ e ∈ (ops[i]'(by omega)).after, Region.binds .any e = true ∧ listed.getD e.on false = false := by
              apply Classical.byContradiction
              intro hno
              apply hr
              rw [mem_ready]
              refine ⟨hu, _, Array.getElem?_eq_getElem (by omega), fun e he hb => ?_⟩
              cases hl : listed.getD e.on false with
              | true => rfl
              | false => exact absurd ⟨e, he, hb, hl⟩ hno
            obtain ⟨e, he, hb, hl⟩ := hex
            have hlt := head_edges hh hi (Array.getElem?_eq_getElem (by omega)) e he hb
            exact ih e.on hlt (by omega) (getD_in (by rw [inv.size]; omega) hl)
      exact key i0 hi0 hu0
    rw [show m + 1 + (ops.size - n) = (m + (ops.size - n)) + 1 by omega]
    refine ⟨(fun h => by obtain ⟨i, hi⟩ := hready; rw [h] at hi; cases hi), fun i hi => ?_⟩
    have hin : i < n := by
      rcases Nat.lt_or_ge i n with h | h
      · exact h
      · obtain ⟨i0, hi0, hu0⟩ := open_some (n := n) (listed := listed) (by omega)
        rcases ht with ht | ⟨hs, hcn⟩
        · obtain ⟨_, o, ho, _⟩ := mem_ready.1 hi
          have := (Array.getElem?_eq_some_iff.1 ho).1
          omega
        · have hlt : n < ops.size := by
            obtain ⟨_, o, ho, _⟩ := mem_ready.1 hi
            have := (Array.getElem?_eq_some_iff.1 ho).1
            omega
          exact absurd hi (tail_waits hs hcn hlt inv _ i0 rfl hi0 hu0 i h)
    obtain ⟨hun, o, ho, hafter⟩ := mem_ready.1 hi
    obtain ⟨S, hS, hobl, hnext⟩ := hΓ i o hin ho
    have hdst : dstOf ops i = o.dst := by unfold dstOf; rw [ho]; rfl
    have hfit : fits (Γs i) (o.looksAt ops) a.eval w := by
      intro t htl s hs
      show s.holds (a.tmps.getD t undef) w
      by_cases hw : ∃ j, j < i ∧ dstOf ops j = some t
      · obtain ⟨j, hj, hd⟩ := hw
        have hwait := (head_slots hh (i := i) (j := j) hin (by omega) (by omega) ho hd).2 htl
        rw [if_pos hj] at hwait
        obtain ⟨o', ho', e, he, hb, hon⟩ := Region.waitsFor_spec hwait
        have : o' = o := Option.some.inj (ho'.symm.trans ho)
        subst this
        have hlj := hafter e he hb
        rw [hon] at hlj
        refine ti.done j (by omega) hlj t s hd ?_
        have hk := gs_keep hΓ hn t (i - (j + 1)) (j + 1) (by omega) (fun k h1 h2 hk => by
          have := head_slots hh (i := k) (j := j) (by omega) (by omega) (by omega) (Array.getElem?_eq_getElem (by omega)) hd
          unfold dstOf at hk
          rw [Array.getElem?_eq_getElem (by omega)] at hk
          exact this.1 hk)
        rw [show j + 1 + (i - (j + 1)) = i by omega] at hk
        rw [← hk]
        exact hs
      · refine ti.rest t s (fun j hj hlj hd => ?_) ?_
        · have hji : j ≠ i := fun e => by
            subst e
            rw [getD_both hun] at hlj
            cases hlj
          have hgt : ¬ j < i := fun h => hw ⟨j, h, hd⟩
          have hwait := (head_slots hh (i := i) (j := j) hin hj (Ne.symm hji) ho hd).2 htl
          rw [if_neg hgt] at hwait
          obtain ⟨oj, hoj, e, he, hb, hon⟩ := Region.waitsFor_spec hwait
          have := inv.closed j oj hoj hlj e he hb
          rw [hon, getD_both hun] at this
          cases this
        · have hk := gs_keep hΓ hn t i 0 (by omega) (fun k _ h2 hk => hw ⟨k, by omega, hk⟩)
          rw [Nat.zero_add] at hk
          rw [← hk]
          exact hs
    have hlen : a.tmps.size = (Γs i).length := ti.size.trans (gs_len hΓ hn i (by omega)).symm
    have hafterStep : ∀ v w', Grows w w' → S.holds v w' → wpAny P .any ops Q (m + (ops.size - n)) (listed.setIfInBounds i true) (a.put o.dst v) w' := by
      intro v w' hg hv
      refine typ_any hh hn ht hq hΓ h0 hF m _ _ _ (by have := open_set (n := n) hin hun; omega) (inv.set hi hin) ?_
      have hst : ∀ j, j < n → ∀ d s, dstOf ops j = some d → (Γs (j + 1))[d]? = some s → s.stable := fun j hj d s hd hs => by
        obtain ⟨S', hS', _, hn'⟩ := hΓ j _ hj (Array.getElem?_eq_getElem (by omega))
        unfold dstOf at hd
        rw [Array.getElem?_eq_getElem (by omega)] at hd
        simp only [Option.bind_some] at hd
        rw [hn', hd] at hs
        simp only [setSlot] at hs
        rw [List.getElem?_set_self'] at hs
        cases hq' : (Γs j)[d]? with
        | none => rw [hq'] at hs; cases hs
        | some x => rw [hq'] at hs; injection hs with hs; exact hs ▸ hS'
      refine ⟨ti.grows.trans hg, ?_, ?_, ?_, ?_⟩
      · cases hd : o.dst <;> simp [Act.put, ti.defers]
      · cases hd : o.dst <;> simp [Act.put, ti.size]
      · intro j hj hl d s hd hs
        by_cases hji : j = i
        · subst hji
          rw [hdst] at hd
          rw [hnext, hd] at hs
          simp only [setSlot] at hs
          rw [List.getElem?_set_self'] at hs
          have hdl : d < (Γs j).length := by
            rcases Nat.lt_or_ge d (Γs j).length with h | h
            · exact h
            · rw [List.getElem?_eq_none h] at hs; cases hs
          rw [List.getElem?_eq_getElem hdl] at hs
          injection hs with hs
          subst hs
          rw [hd]
          have hds : d < a.tmps.size := by rw [hlen]; exact hdl
          simpa [Act.put, hds] using hv
        · rw [getD_set_ne false (Ne.symm hji)] at hl
          have hold := ti.done j hj hl d s hd hs
          have hne := (head_slots hh (i := i) (j := j) hin hj (Ne.symm hji) ho hd).1
          have heq : (a.put o.dst v).tmps.getD d undef = a.tmps.getD d undef := by
            cases hd' : o.dst with
            | none => rfl
            | some d' =>
              have : d' ≠ d := fun e => hne (by rw [hd', e])
              simp [Act.put, Array.getElem?_setIfInBounds_ne this]
          rw [heq]
          exact hst j hj d s hd hs _ _ _ hold hg
      · intro t s hno hs
        have hne : o.dst ≠ some t := by
          rw [← hdst]
          refine hno i hin ?_
          have hsz : i < listed.size := by rw [inv.size]; omega
          simp [hsz]
        have heq : (a.put o.dst v).tmps.getD t undef = a.tmps.getD t undef := by
          cases hd' : o.dst with
          | none => rfl
          | some d' =>
            have : d' ≠ t := fun e => hne (by rw [hd', e])
            simp [Act.put, Array.getElem?_setIfInBounds_ne this]
        rw [heq]
        exact h0 s (List.mem_of_getElem? hs) _ _ _ (ti.rest t s (fun j hj hl => hno j hj (getD_set_true hl)) hs) hg
    unfold wpOp
    rw [ho]
    simp only []
    rcases hobl a w ti.grows hlen hfit with ⟨hwt, hk⟩ | ⟨hwt, hu⟩
    · rw [if_pos hwt]
      exact .inl (wp_of_gives (hk (fun v w' => Grows w w' ∧ S.holds v w') (fun v w' h1 h2 => ⟨h1, h2⟩)) (fun v w' h => hafterStep v w' h.1 h.2))
    · rw [if_neg (by rw [hwt]; exact Bool.false_ne_true)]
      exact hafterStep undef w (Grows.refl w) (hu w)
end

/-- **A region that draws its order, walked once.** -/
theorem wp_region_typ {P : Program} {id : Nat} {Q : Exit → Act → World → Prop} {a : Act} {w : World} {l : List Oper} (n : Nat) (hm : P.follows .mixedOrders = true) (hB : typB l.toArray n = true)
    (h : wpTyp P l.toArray w.drew (fun Γ => ∀ (a' : Act) (w' : World), Grows w.drew w' → a'.defers = a.defers → a'.tmps.size = Γ.length → (∀ (t : Nat) (s : Slot), Γ[t]? = some s → s.holds (a'.tmps.getD t undef) w') → wpList P l.toArray Q (l.drop n) a' w') (l.take n) (a.tmps.toList.map Slot.is)) :
    (Code.region id l.toArray true).wp P Q a w := by
  simp only [typB, Bool.and_eq_true, Bool.or_eq_true, decide_eq_true_eq] at hB
  obtain ⟨⟨⟨hh, hn⟩, ht⟩, hq⟩ := hB
  obtain ⟨Γs, e0, h1, h2⟩ := wpTyp_extract _ _ h
  have hnl : n ≤ l.length := by simpa using hn
  have hlen : (l.take n).length = n := by simp; omega
  rw [hlen] at h2
  refine wp_region_any hm ?_
  have hc : openCount n (Array.replicate l.toArray.size false) = n := by
    unfold openCount
    rw [List.countP_eq_length.2 (fun i hi => by
      have : i < n := List.mem_range.1 hi
      have h' : i < l.length := by omega
      simp [h'])]
    simp
  have inv0 : HeadInv .any l.toArray n (Array.replicate l.toArray.size false) :=
    ⟨by simp, fun j oj _ hl => (by rw [getD_replicate_false] at hl; cases hl), fun t _ ht => getD_in (by simpa using ht) (getD_replicate_false _ _)⟩
  have H := typ_any (Q := Q) (base := w.drew) (d0 := a.defers) (Γs := Γs) hh hn ht hq (fun j o hj ho => h1 j o (by simpa [hj] using ho)) (by
      rw [e0]
      intro s hs
      obtain ⟨v, _, rfl⟩ := List.mem_map.1 hs
      exact Slot.stable_is v)
    (fun a' w' hg hd hs hf => by simpa using h2 a' w' hg hd hs hf) n _ a w.drew hc inv0
    ⟨Grows.refl _, rfl, by rw [e0]; simp, fun j _ hl => (by rw [getD_replicate_false] at hl; cases hl), fun t s _ hs => by
      rw [e0] at hs
      simp only [List.getElem?_map, Array.getElem?_toList, Option.map_eq_some_iff] at hs
      obtain ⟨v, hv, rfl⟩ := hs
      show a.tmps.getD t undef = v
      rw [Array.getD_eq_getD_getElem?, hv]
      rfl⟩
  rw [show l.toArray.size = n + (l.toArray.size - n) by simp; omega]
  simpa [show n + (l.length - n) = l.length by omega] using H

/-! ### The same, over the frame that was and what has been written since -/

def look (u : List (Tmp × Slot)) (f : Array Value) (t : Tmp) : Slot :=
  match u with
  | [] => .is (f.getD t undef)
  | (d, s) :: r => match Nat.beq d t with
    | true => s
    | false => look r f t
def fitsA (u : List (Tmp × Slot)) (f : Array Value) : List Operand → (Operand → Value) → World → Prop
  | [], _, _ => True
  | .tmp t :: L, ρ, w => (look u f t).holds (ρ (.tmp t)) w ∧ fitsA u f L ρ w
  | .const v :: L, ρ, w => ρ (.const v) = v ∧ fitsA u f L ρ w
  | .global g :: L, ρ, w => ρ (.global g) = .pointer (some ⟨g, 0, none⟩) ∧ fitsA u f L ρ w
  | .func g :: L, ρ, w => ρ (.func g) = .func (.func g) #[] #[] ∧ fitsA u f L ρ w
def Runs (P : Program) (base : World) (f : Array Value) (u : List (Tmp × Slot)) (o : Oper) (S : Slot) : Prop :=
  ∀ (ρ : Operand → Value) (w : World) (K : Value → World → Prop), Grows base w → fitsA u f o.op.operands.toList ρ w → (∀ v w', Grows w w' → S.holds v w' → K v w') → gives P o ρ w K
def OblA (P : Program) (ops : Array Oper) (base : World) (f : Array Value) (u : List (Tmp × Slot)) (o : Oper) (S : Slot) : Prop :=
  match o.guard with
  | none => Runs P base f u o S
  | some (g, b) => match dstOf ops g with
    | none => ∀ w, S.holds undef w
    | some d => match look u f d with
      | .is (.bool c) => if c = b then Runs P base f u o S else ∀ w, S.holds undef w
      | .is _ => ∀ w, S.holds undef w
      | .like _ => False
def pushSlot (u : List (Tmp × Slot)) (d : Option Tmp) (S : Slot) : List (Tmp × Slot) :=
  match d with
  | some d => (d, S) :: u
  | none => u
def wpTypA (P : Program) (ops : Array Oper) (base : World) (f : Array Value) (F : List (Tmp × Slot) → Prop) : List Oper → List (Tmp × Slot) → Prop
  | [], u => F u
  | o :: rest, u => ∃ S : Slot, S.stable ∧ OblA P ops base f u o S ∧ wpTypA P ops base f F rest (pushSlot u o.dst S)
def nodupB : List Nat → Bool
  | [] => true
  | x :: l => !l.contains x && nodupB l
def finish : List (Tmp × Slot) → Act → World → (Act → Prop) → Prop
  | [], a, _, K => K a
  | (d, .is v) :: u, a, w, K => finish u a w (fun a1 => K (a1.put (some d) v))
  | (d, .like V) :: u, a, w, K => finish u a w (fun a1 => ∀ x, V x w → K (a1.put (some d) x))

section
variable {P : Program} {ops : Array Oper} {base : World} {f : Array Value}
def Rep (Γ : List Slot) (u : List (Tmp × Slot)) (f : Array Value) : Prop := Γ.length = f.size ∧ ∀ t s, Γ[t]? = some s → s = look u f t
theorem look_eq (d : Tmp) (s : Slot) (u : List (Tmp × Slot)) (t : Tmp) : look ((d, s) :: u) f t = if d = t then s else look u f t := by
  rw [look]
  split
  · rename_i h; rw [if_pos (Nat.eq_of_beq_eq_true h)]
  · rename_i h; rw [if_neg (Nat.ne_of_beq_eq_false h)]
theorem Rep.push {Γ : List Slot} {u : List (Tmp × Slot)} (h : Rep Γ u f) (d : Option Tmp) (S : Slot) : Rep (setSlot Γ d S) (pushSlot u d S) f := by
  cases d with
  | none => exact h
  | some d =>
    refine ⟨by rw [setSlot_length]; exact h.1, fun t s hs => ?_⟩
    simp only [setSlot, pushSlot] at hs ⊢
    rw [look_eq]
    by_cases hd : d = t
    · subst hd
      rw [if_pos rfl]
      rw [List.getElem?_set_self'] at hs
      cases hq : Γ[d]? with
      | none => rw [hq] at hs; cases hs
      | some x => rw [hq] at hs; injection hs with hs; exact hs.symm
    · rw [if_neg hd]
      rw [List.getElem?_set_ne hd] at hs
      exact h.2 t s hs
theorem fitsA_of {Γ : List Slot} {u : List (Tmp × Slot)} (h : Rep Γ u f) {a : Act} (hsz : a.tmps.size = Γ.length) {w : World} : ∀ (L : List Operand), (∀ t, Operand.tmp t ∈ L → ∀ s, Γ[t]? = some s → s.holds (a.eval (.tmp t)) w) → (∀ t, Operand.tmp t ∈ L → Γ[t]? = none → (look u f t).holds undef w) → fitsA u f L a.eval w
  | [], _, _ => True.intro
  | .tmp t :: L, h1, h2 => by
    refine ⟨?_, fitsA_of h hsz L (fun t ht => h1 t (List.mem_cons_of_mem _ ht)) (fun t ht => h2 t (List.mem_cons_of_mem _ ht))⟩
    cases hq : Γ[t]? with
    | none =>
      have := h2 t List.mem_cons_self hq
      have hle : a.tmps.size ≤ t := by rw [hsz]; exact List.getElem?_eq_none_iff.1 hq
      show (look u f t).holds (a.tmps.getD t undef) w
      rw [Array.getD_eq_getD_getElem?, Array.getElem?_eq_none hle]
      exact this
    | some s =>
      rw [← h.2 t s hq]
      exact h1 t List.mem_cons_self s hq
  | .const v :: L, h1, h2 => ⟨rfl, fitsA_of h hsz L (fun t ht => h1 t (List.mem_cons_of_mem _ ht)) (fun t ht => h2 t (List.mem_cons_of_mem _ ht))⟩
  | .global g :: L, h1, h2 => ⟨rfl, fitsA_of h hsz L (fun t ht => h1 t (List.mem_cons_of_mem _ ht)) (fun t ht => h2 t (List.mem_cons_of_mem _ ht))⟩
  | .func g :: L, h1, h2 => ⟨rfl, fitsA_of h hsz L (fun t ht => h1 t (List.mem_cons_of_mem _ ht)) (fun t ht => h2 t (List.mem_cons_of_mem _ ht))⟩
/-- No slot beyond the frame is read or written (a region's own check). -/
def insideB (l : List Oper) (ops : Array Oper) (m : Nat) : Bool := l.all fun o => (o.looksAt ops).all fun t => decide (t < m)

theorem obl_of {Γ : List Slot} {u : List (Tmp × Slot)} (h : Rep Γ u f) {o : Oper} {S : Slot} (hin : ∀ t ∈ o.looksAt ops, t < f.size) (ho : OblA P ops base f u o S) : Obl P ops base Γ o S := by
  intro a w hg hsz hf
  have hfa : fitsA u f o.op.operands.toList a.eval w := by
    refine fitsA_of h hsz _ (fun t ht s hs => ?_) (fun t ht hn => ?_)
    · exact hf t (List.mem_append_left _ (List.mem_filterMap.2 ⟨_, ht, rfl⟩)) s hs
    · have := hin t (List.mem_append_left _ (List.mem_filterMap.2 ⟨_, ht, rfl⟩))
      rw [List.getElem?_eq_none_iff, h.1] at hn
      exact absurd this (Nat.not_lt.2 hn)
  unfold OblA at ho
  cases hgd : o.guard with
  | none =>
    rw [hgd] at ho
    refine .inl ⟨by simp [Region.wanted, hgd], fun K hK => ho a.eval w K hg hfa hK⟩
  | some gb =>
    obtain ⟨g, b⟩ := gb
    rw [hgd] at ho
    simp only [] at ho
    have hy : ∀ c : Option Bool, yielded ops a.tmps g = c → Region.wanted o (yielded ops a.tmps) = (c == some b) := fun c hc => by
      simp only [Region.wanted, hgd, hc]
    unfold dstOf at ho
    cases hd : (ops[g]?).bind (·.dst) with
    | none =>
      rw [hd] at ho
      refine .inr ⟨?_, ho⟩
      rw [hy none (by unfold yielded; rw [hd]; rfl)]
      rfl
    | some d =>
      rw [hd] at ho
      simp only [] at ho
      have hmem : d ∈ o.looksAt ops := by
        unfold Oper.looksAt
        refine List.mem_append_right _ ?_
        rw [hgd]
        simp [hd]
      have hlt := hin d hmem
      have hdl : d < Γ.length := by rw [h.1]; exact hlt
      have hs := h.2 d _ (List.getElem?_eq_getElem hdl)
      have hh := hf d hmem _ (List.getElem?_eq_getElem hdl)
      rw [hs] at hh
      have hda : d < a.tmps.size := by rw [hsz]; exact hdl
      have hev : a.eval (.tmp d) = a.tmps[d] := by
        show a.tmps.getD d undef = _
        simp [hda]
      rw [hev] at hh
      have hyv : yielded ops a.tmps g = match a.tmps[d] with | .bool c => some c | _ => none := by
        unfold yielded
        rw [hd]
        simp only [Option.bind_some, Array.getElem?_eq_getElem hda]
        cases a.tmps[d] <;> rfl
      cases hl : look u f d with
      | like V => rw [hl] at ho; exact ho.elim
      | is v =>
        rw [hl] at ho hh
        have hh' : a.tmps[d] = v := hh
        rw [hh'] at hyv
        cases v with
        | bool c =>
          simp only [] at ho hyv
          by_cases hcb : c = b
          · rw [if_pos hcb] at ho
            refine .inl ⟨?_, fun K hK => ho a.eval w K hg hfa hK⟩
            rw [hy _ hyv, hcb]
            simp
          · rw [if_neg hcb] at ho
            refine .inr ⟨?_, ho⟩
            rw [hy _ hyv]
            simpa using hcb
        | _ =>
          refine .inr ⟨?_, ho⟩
          rw [hy _ hyv]
          rfl

theorem typ_of_typA {F : List Slot → Prop} {FA : List (Tmp × Slot) → Prop} (hF : ∀ Γ u, Rep Γ u f → FA u → F Γ) : ∀ (l : List Oper) (Γ : List Slot) (u : List (Tmp × Slot)), insideB l ops f.size = true → Rep Γ u f → wpTypA P ops base f FA l u → wpTyp P ops base F l Γ
  | [], Γ, u, _, hr, h => hF Γ u hr h
  | o :: rest, Γ, u, hi, hr, h => by
    obtain ⟨S, hS, ho, hn⟩ := h
    unfold insideB at hi
    simp only [List.all_cons, Bool.and_eq_true, List.all_eq_true, decide_eq_true_eq] at hi
    refine ⟨S, hS, obl_of hr hi.1 ho, typ_of_typA hF rest _ _ ?_ (hr.push o.dst S) hn⟩
    unfold insideB
    simp only [List.all_eq_true, decide_eq_true_eq]
    exact hi.2

theorem nodup_cons {x : Nat} {l : List Nat} (h : nodupB (x :: l) = true) : x ∉ l ∧ nodupB l = true := by
  simp only [nodupB, Bool.and_eq_true, Bool.not_eq_true'] at h
  exact ⟨fun hm => by rw [List.contains_iff_mem.2 hm] at h; exact Bool.noConfusion h.1, h.2⟩
theorem look_none {t : Tmp} : ∀ {u : List (Tmp × Slot)}, t ∉ u.map (·.1) → look u f t = .is (f.getD t undef)
  | [], _ => rfl
  | (d, s) :: u, h => by
    rw [look_eq, if_neg (fun e => h (by simp [e]))]
    exact look_none (fun hm => h (by simp only [List.map_cons, List.mem_cons]; exact .inr hm))
theorem finish_all {w : World} {a : Act} : ∀ (u : List (Tmp × Slot)) (K : Act → Prop), nodupB (u.map (·.1)) = true → (∀ x ∈ u, x.1 < a.tmps.size) → finish u a w K →
    ∀ a' : Act, a'.defers = a.defers → a'.tmps.size = a.tmps.size → (∀ t, t < a.tmps.size → (look u a.tmps t).holds (a'.tmps.getD t undef) w) → K a'
  | [], K, _, _, h, a', hd, hs, hl => by
    have : a' = a := by
      obtain ⟨t', d'⟩ := a'
      obtain ⟨t, d⟩ := a
      simp only at hd hs hl
      subst hd
      have : t' = t := by
        apply Array.ext hs
        intro i h1 h2
        have := hl i h2
        simp only [look, Slot.holds] at this
        simpa [h1, h2] using this
      rw [this]
    rw [this]
    exact h
  | (d, s) :: u, K, hnd, hin, h, a', hd, hs, hl => by
    obtain ⟨hn, hnd'⟩ := nodup_cons hnd
    have hdl : d < a.tmps.size := hin (d, s) List.mem_cons_self
    have key : ∀ (K' : Act → Prop), finish u a w K' → K' (a'.put (some d) (a.tmps.getD d undef)) := fun K' hK' => by
      refine finish_all u K' hnd' (fun x hx => hin x (List.mem_cons_of_mem _ hx)) hK' _ (by simpa [Act.put] using hd) (by simpa [Act.put] using hs) (fun t ht => ?_)
      have htl := hl t ht
      rw [look_eq] at htl
      by_cases hdt : d = t
      · subst hdt
        rw [look_none hn]
        simp [Act.put, Slot.holds, hs, ht]
      · rw [if_neg hdt] at htl
        simpa [Act.put, Array.getElem?_setIfInBounds_ne hdt] using htl
    have hback : (a'.put (some d) (a.tmps.getD d undef)).put (some d) (a'.tmps.getD d undef) = a' := by
      have hda : d < a'.tmps.size := by rw [hs]; exact hdl
      obtain ⟨t', d'⟩ := a'
      simp only [Act.put]
      congr 1
      apply Array.ext_getElem?
      intro i
      by_cases hdi : d = i
      · subst hdi
        simp only at hda
        simp [hda]
      · rw [Array.getElem?_setIfInBounds_ne hdi, Array.getElem?_setIfInBounds_ne hdi]
    have hld := hl d hdl
    rw [look_eq, if_pos rfl] at hld
    cases s with
    | is v =>
      have := key _ h
      have e : a'.tmps.getD d undef = v := hld
      rw [e] at hback
      rw [hback] at this
      exact this
    | like V =>
      have := key _ h _ hld
      rw [hback] at this
      exact this

/-- What the region owes besides its walk: told by the kernel. -/
def regB (l : List Oper) (n m : Nat) : Bool := typB l.toArray n && insideB (l.take n) l.toArray m && (l.take n).all fun o => match o.dst with | some d => decide (d < m) | none => true
end

/-- **A region that draws its order, walked once**: the first n operations by their kinds, the others as they stand. -/
theorem wp_region_kinds {P : Program} {id : Nat} {Q : Exit → Act → World → Prop} {a : Act} {w : World} {l : List Oper} (n : Nat) (hm : P.follows .mixedOrders = true) (hB : regB l n a.tmps.size = true)
    (h : ∀ F : List (Tmp × Slot) → Prop, (∀ u, nodupB (u.map (·.1)) = true → (u.all fun x => decide (x.1 < a.tmps.size)) = true → (∀ w', Grows w.drew w' → finish u a w' (fun a' => wpList P l.toArray Q (l.drop n) a' w')) → F u) → wpTypA P l.toArray w.drew a.tmps F (l.take n) []) :
    (Code.region id l.toArray true).wp P Q a w := by
  simp only [regB, Bool.and_eq_true] at hB
  obtain ⟨⟨hB1, hB2⟩, hB3⟩ := hB
  refine wp_region_typ n hm hB1 (typ_of_typA (f := a.tmps) ?_ (l.take n) _ [] hB2 ?_ (h (fun u => nodupB (u.map (·.1)) = true ∧ (u.all fun x => decide (x.1 < a.tmps.size)) = true ∧ ∀ w', Grows w.drew w' → finish u a w' (fun a' => wpList P l.toArray Q (l.drop n) a' w')) (fun u h1 h2 h3 => ⟨h1, h2, h3⟩)))
  · rintro Γ u hr ⟨hnd, hin, hf⟩ a' w' hg hd hs hh
    refine finish_all u _ hnd (fun x hx => ?_) (hf w' hg) a' hd (hs.trans hr.1) (fun t ht => ?_)
    · have := List.all_eq_true.1 hin x hx
      simpa using this
    · have htl : t < Γ.length := by rw [hr.1]; exact ht
      rw [← hr.2 t _ (List.getElem?_eq_getElem htl)]
      exact hh t _ (List.getElem?_eq_getElem htl)
  · refine ⟨by simp, fun t s hs => ?_⟩
    simp only [List.getElem?_map, Array.getElem?_toList, Option.map_eq_some_iff] at hs
    obtain ⟨v, hv, rfl⟩ := hs
    show Slot.is v = Slot.is (a.tmps.getD t undef)
    rw [Array.getD_eq_getD_getElem?, hv]
    rfl

section
variable {P : Program} {ops : Array Oper} {base : World} {f : Array Value} {F : List (Tmp × Slot) → Prop} {o : Oper} {rest : List Oper} {u : List (Tmp × Slot)}
theorem kinds_nil (h : F u) : wpTypA P ops base f F [] u := h
/-- An operation whose value is told. -/
theorem kinds_is {v : Value} (hg : o.guard = none) (h : ∀ (ρ : Operand → Value) (w : World) (K : Value → World → Prop), Grows base w → fitsA u f o.op.operands.toList ρ w → (∀ w', Grows w w' → K v w') → gives P o ρ w K)
    (hr : wpTypA P ops base f F rest (pushSlot u o.dst (.is v))) : wpTypA P ops base f F (o :: rest) u :=
  ⟨.is v, Slot.stable_is v, by unfold OblA; rw [hg]; exact fun ρ w K hw hf hK => h ρ w K hw hf (fun w' hg' => hK v w' hg' rfl), hr⟩
/-- .. of which a property is told. -/
theorem kinds_like (V : Value → World → Prop) (hV : ∀ v w w', V v w → Grows w w' → V v w') (hg : o.guard = none) (h : ∀ (ρ : Operand → Value) (w : World) (K : Value → World → Prop), Grows base w → fitsA u f o.op.operands.toList ρ w → (∀ v w', Grows w w' → V v w' → K v w') → gives P o ρ w K)
    (hr : wpTypA P ops base f F rest (pushSlot u o.dst (.like V))) : wpTypA P ops base f F (o :: rest) u :=
  ⟨.like V, hV, by unfold OblA; rw [hg]; exact fun ρ w K hw hf hK => h ρ w K hw hf hK, hr⟩
theorem kinds_move (t : Tmp) (S : Slot) (hg : o.guard = none) (ho : o.op = .move (.tmp t) ∨ o.op = .assign (.tmp t)) (hl : look u f t = S) (hS : S.stable)
    (hr : wpTypA P ops base f F rest (pushSlot u o.dst S)) : wpTypA P ops base f F (o :: rest) u := by
  refine ⟨S, hS, ?_, hr⟩
  unfold OblA
  rw [hg]
  intro ρ w K hw hf hK
  have hs : S.holds (ρ (.tmp t)) w := by
    rcases ho with ho | ho
    · rw [ho] at hf
      have := hf.1
      rwa [hl] at this
    · rw [ho] at hf
      have := hf.1
      rwa [hl] at this
  unfold gives execOp
  rcases ho with ho | ho <;> simp only [ho] <;> exact hK _ _ (Grows.refl w) hs
theorem kinds_move_is (t : Tmp) {v : Value} (hg : o.guard = none) (ho : o.op = .move (.tmp t) ∨ o.op = .assign (.tmp t)) (hl : look u f t = .is v)
    (hr : wpTypA P ops base f F rest (pushSlot u o.dst (.is v))) : wpTypA P ops base f F (o :: rest) u := kinds_move t _ hg ho hl (Slot.stable_is v) hr
theorem kinds_load (t : Tmp) (ty : TypeId) {q v : Value} (hg : o.guard = none) (ho : o.op = .load ty (.tmp t)) (hl : look u f t = .is q) (h : ∀ w', Grows base w' → (Instr.loadAt ty q).run P w' = .ok v w')
    (hr : wpTypA P ops base f F rest (pushSlot u o.dst (.is v))) : wpTypA P ops base f F (o :: rest) u := by
  refine kinds_is hg (fun ρ w K hw hf hK => ?_) hr
  rw [ho] at hf
  have hs : (look u f t).holds (ρ (.tmp t)) w := hf.1
  rw [hl] at hs
  have e : ρ (.tmp t) = q := hs
  unfold gives execOp
  simp only [ho, Sem.run_bind, e, h w hw, Result.andThen_ok, Sem.run_pure]
  exact hK _ (Grows.refl w)
/-- A guarded operation that is wanted. -/
theorem kinds_on {g : Nat} {b : Bool} {d : Tmp} (hg : o.guard = some (g, b)) (hd : dstOf ops g = some d) (hl : look u f d = .is (.bool b)) (h : wpTypA P ops base f F ({ o with guard := none } :: rest) u) : wpTypA P ops base f F (o :: rest) u := by
  obtain ⟨S, hS, ho, hr⟩ := h
  refine ⟨S, hS, ?_, hr⟩
  unfold OblA
  rw [hg]
  simp only [hd, hl, if_true]
  exact ho
/-- .. that is not. -/
theorem kinds_off {g : Nat} {b c : Bool} {d : Tmp} (hg : o.guard = some (g, b)) (hd : dstOf ops g = some d) (hl : look u f d = .is (.bool c)) (hc : (c == b) = false) (hr : wpTypA P ops base f F rest (pushSlot u o.dst (.is undef))) : wpTypA P ops base f F (o :: rest) u := by
  refine ⟨.is undef, Slot.stable_is _, ?_, hr⟩
  unfold OblA
  rw [hg]
  have hcb : ¬ c = b := by simpa using hc
  simp only [hd, hl, if_neg hcb]
  exact fun _ => rfl
theorem kinds_off' {g : Nat} {b : Bool} {d : Tmp} (hg : o.guard = some (g, b)) (hd : dstOf ops g = some d) (hl : look u f d = .is undef) (hr : wpTypA P ops base f F rest (pushSlot u o.dst (.is undef))) : wpTypA P ops base f F (o :: rest) u := by
  refine ⟨.is undef, Slot.stable_is _, ?_, hr⟩
  unfold OblA
  rw [hg]
  simp only [hd, hl]
  exact fun _ => rfl
end

end Go.Proofs.Ythdanjbgbbcafaa
