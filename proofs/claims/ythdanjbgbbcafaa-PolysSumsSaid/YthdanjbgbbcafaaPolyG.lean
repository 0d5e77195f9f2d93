/- polys: a field's deeds where all are exponents: they leave no trace; rows of numbers. -/
import Derived.Test.YthdanjbgbbcafaaSame
namespace Go.Proofs.Ythdanjbgbbcafaa
open Go Go.RowKit

theorem first_nil (e : Int) : first e 0 = e := by
  unfold first
  split
  · rename_i h; exact h.symm
  · rfl
/-- A field's deed that leaves the field as it is leaves all as it is. -/
theorem FieldEnds.still {w w' : World} {bf : Nat} {t57 : TypeId} {gr : Array Value} {n : Nat} {e : Int} {x : Ending} (h : FieldEnds w bf t57 gr n e x w') (B : Blk w bf t57 (frow gr e)) : NumEnds w n x w' := by
  obtain ⟨rfl, hb, hB⟩ := h
  refine ⟨rfl, hb.os, hb.tape, hb.output, hb.size, fun k hk => ?_⟩
  by_cases hkb : k = bf
  · subst hkb
    exact (show w'.heap[k]? = _ from hB).trans (show w.heap[k]? = _ from B).symm
  · exact hb.block k hk (notin1 hkb)
section
variable (gr : Array Value) (q a b bf : Nat) (e : Int) (hgr : GroupRow gr q) (he : e = 0 ∨ e = 1 ∨ e = 7) (hq : 1 < q) (ha : a < q) (hb : b < q) (w : World) (BF : Blk w bf 57 (frow gr e))
include hgr he hq ha hb BF
theorem plusF_in : Calls Try.prog 29 #[.pointer (some ⟨bf, 0, none⟩), .agg (num a), .agg (num b)] w (NumEnds w ((a + b) % q)) :=
  (plusF_any gr q a b bf e hgr he (Nat.lt_trans ha hgr.lt) (Nat.lt_trans hb hgr.lt) w BF).mono fun x w' h => by
    rw [mayE_zero.2 ⟨hq, ha, hb⟩, first_nil, show addV q a b = (a + b) % q from if_pos (mayB_spec.2 ⟨hq, ha, hb⟩)] at h
    exact h.still BF
theorem lessF_in : Calls Try.prog 50 #[.pointer (some ⟨bf, 0, none⟩), .agg (num a), .agg (num b)] w (NumEnds w ((a + q - b) % q)) :=
  (lessF_any gr q a b bf e hgr he (Nat.lt_trans ha hgr.lt) (Nat.lt_trans hb hgr.lt) w BF).mono fun x w' h => by
    rw [mayE_zero.2 ⟨hq, ha, hb⟩, first_nil, show subV q a b = (a + q - b) % q from if_pos (mayB_spec.2 ⟨hq, ha, hb⟩)] at h
    exact h.still BF
theorem timesF_in : Calls Try.prog 26 #[.pointer (some ⟨bf, 0, none⟩), .agg (num a), .agg (num b)] w (NumEnds w (a * b % q)) :=
  (timesF_any gr q a b bf e hgr he (Nat.lt_trans ha hgr.lt) (Nat.lt_trans hb hgr.lt) w BF).mono fun x w' h => by
    rw [mayE_zero.2 ⟨hq, ha, hb⟩, first_nil, show mulV q a b = a * b % q from if_pos (mayB_spec.2 ⟨hq, ha, hb⟩)] at h
    exact h.still BF
end
/-- An inverse; what goes wrong. -/
def noInv (q a : Nat) : Int := if Nat.gcd a q = 1 then 0 else 7
theorem noInv_in (q a : Nat) : noInv q a = 0 ∨ noInv q a = 1 ∨ noInv q a = 7 := by
  unfold noInv
  split <;> simp
theorem underF_in (gr : Array Value) (q a bf : Nat) (e : Int) (hgr : GroupRow gr q) (he : e = 0 ∨ e = 1 ∨ e = 7) (hq : 1 < q) (ha : a < q) (w : World) (BF : Blk w bf 57 (frow gr e)) :
    Calls Try.prog 49 #[.pointer (some ⟨bf, 0, none⟩), .agg (num a)] w (FieldEnds w bf 57 gr (invN a q) (first e (noInv q a))) :=
  (underF_any gr q a bf e hgr he (Nat.lt_trans ha hgr.lt) w BF).mono fun x w' h => by
    have h1 : invV q a = invN a q := by
      unfold invV
      rw [if_pos (mayB_spec.2 ⟨hq, ha, ha⟩)]
      by_cases hg : Nat.gcd a q = 1
      · rw [if_pos hg]
      · rw [if_neg hg, invN_none hg]
    have h2 : invE q a = noInv q a := by
      unfold invE noInv
      rw [if_pos (mayB_spec.2 ⟨hq, ha, ha⟩)]
    rw [h1, h2] at h
    exact h
/-- A product below q. -/
def prodM (q s : Nat) (l : List Nat) : Nat := l.foldl (fun a b => a * b % q) s
theorem prodM_lt {q : Nat} (hq : 1 < q) : ∀ (l : List Nat) (s : Nat), s < q → prodM q s l < q
  | [], _, h => h
  | _ :: l, _, _ => prodM_lt hq l _ (Nat.mod_lt _ (by omega))
theorem gath_times {q : Nat} (hq : 1 < q) : ∀ (l : List Nat) (s : Nat) (e : Int), s < q → (∀ x ∈ l, x < q) → gath (mulV q) (fun a b => mayE a b q) (s, e) l = (prodM q s l, e)
  | [], _, _, _, _ => rfl
  | x :: l, s, e, hs, hl => by
    have hx := hl x (by simp)
    show gath (mulV q) (fun a b => mayE a b q) (mulV q s x, first e (mayE s x q)) l = _
    rw [mayE_zero.2 ⟨hq, hs, hx⟩, first_nil, show mulV q s x = s * x % q from if_pos (mayB_spec.2 ⟨hq, hs, hx⟩), gath_times hq l _ e (Nat.mod_lt _ (by omega)) (fun y hy => hl y (by simp [hy]))]
    rfl
theorem gather_in (gr : Array Value) (q s bf : Nat) (e : Int) (hgr : GroupRow gr q) (he : e = 0 ∨ e = 1 ∨ e = 7) (hq : 1 < q) (A : Option Addr) (cap : Nat) (ns : List Nat) (hs : s < q) (hall : ∀ x ∈ ns, x < q) (hlen : ns.length < 9223372036854775808) (ha : Away A bf ns) (w : World) (hns : NumsAt w A ns) (BF : Blk w bf 57 (frow gr e)) :
    Calls Try.prog 39 #[.agg (num s), .slice A ns.length cap, .func (.func 26) #[.pointer (some ⟨bf, 0, none⟩)] #[]] w (NumEnds w (prodM q s ns)) :=
  (gather_any 26 (mulV q) (fun a b => mayE a b q) gr s bf e (times_ok gr q bf hgr) A cap ns (Nat.lt_trans hs hgr.lt) he hlen ha w hns BF).mono fun x w' h => by
    rw [gath_times hq ns s e hs hall] at h
    exact h.still BF

/-- The cells of numbers in a row. -/
def cellsOf : List Nat → List Value
  | [] => []
  | n :: l => (num n).toList ++ cellsOf l
theorem cellsOf_length : ∀ l : List Nat, (cellsOf l).length = l.length * 4
  | [] => rfl
  | n :: l => by
    rw [cellsOf, List.length_append, cellsOf_length l, Array.length_toList, num_size, List.length_cons]
    omega
theorem cellsOf_append (l : List Nat) (n : Nat) : cellsOf (l ++ [n]) = cellsOf l ++ (num n).toList := by
  induction l with
  | nil => simp [cellsOf]
  | cons x l ih => rw [List.cons_append, cellsOf, ih, cellsOf, List.append_assoc]
theorem cellsOf_at : ∀ {l : List Nat} {i x j : Nat} {v : Value}, l[i]? = some x → (num x).toList[j]? = some v → (cellsOf l)[i * 4 + j]? = some v
  | [], _, _, _, _, h, _ => by simp at h
  | n :: l, 0, x, j, v, h, hv => by
    simp only [List.getElem?_cons_zero, Option.some.injEq] at h
    subst h
    have hj : j < (num n).toList.length := (List.getElem?_eq_some_iff.1 hv).1
    rw [cellsOf, List.getElem?_append_left (by omega), Nat.zero_mul, Nat.zero_add]
    exact hv
  | n :: l, i + 1, x, j, v, h, hv => by
    simp only [List.getElem?_cons_succ] at h
    rw [cellsOf, List.getElem?_append_right (by rw [Array.length_toList, num_size]; omega), Array.length_toList, num_size, show (i + 1) * 4 + j - 4 = i * 4 + j by omega]
    exact cellsOf_at h hv
theorem cellsOf_one : ∀ (l : List Nat) (v : Value), v ∈ cellsOf l → v.oneCell' = true
  | [], _, h => by cases h
  | n :: l, v, h => by
    rcases List.mem_append.1 h with h | h
    · exact Array.all_eq_true_iff_forall_mem.1 (num_one n) v (by simpa using h)
    · exact cellsOf_one l v h
/-- A row of numbers in memory of its own. -/
structure NumRow (w : World) (base : Nat) (t24 : TypeId) (v : Value) (ns : List Nat) : Prop where
  own : w.ownsRow base t24 4 v ns.length (cellsOf ns)
  lt : ∀ x ∈ ns, x < big
theorem NumRow.nil (w : World) (base : Nat) (t24 : TypeId) : NumRow w base t24 (.slice none 0 0) [] := ⟨World.ownsRow_nil w base t24 4, fun _ h => by cases h⟩
theorem NumRow.grow {w w' : World} {base : Nat} {t24 : TypeId} {v : Value} {ns : List Nat} (h : NumRow w base t24 v ns) (hg : Grows w w') : NumRow w' base t24 v ns :=
  ⟨h.own.kept (row := none) ⟨hg.os, hg.tape, hg.output, hg.size, fun k hk _ => hg.block k hk⟩ (by cases hv : v.ownBlock <;> simp), h.lt⟩
theorem NumRow.but {w w' : World} {base : Nat} {t24 : TypeId} {v : Value} {ns : List Nat} {rows : List Nat} (h : NumRow w base t24 v ns) (hb : But rows w w') (hr : ∀ g ∈ rows, g < base ∨ w.heap.size ≤ g) : NumRow w' base t24 v ns := by
  refine ⟨⟨h.own.1, ?_⟩, h.lt⟩
  rcases h.own.2 with h1 | ⟨g, cap, cur, h1, h2, h3, h4⟩
  · exact .inl h1
  · refine .inr ⟨g, cap, cur, h1, h2, ?_, h4⟩
    have hlt := (Array.getElem?_eq_some_iff.1 h3).1
    rw [hb.block g hlt (fun hm => by have := hr g hm; omega)]
    exact h3
theorem NumRow.lower {w : World} {base base' : Nat} {t24 : TypeId} {v : Value} {ns : List Nat} (h : NumRow w base t24 v ns) (hb : base' ≤ base) : NumRow w base' t24 v ns := by
  refine ⟨⟨h.own.1, ?_⟩, h.lt⟩
  rcases h.own.2 with h1 | ⟨g, cap, cur, h1, h2, h3⟩
  · exact .inl h1
  · exact .inr ⟨g, cap, cur, h1, by omega, h3⟩
/-- Such a row read. -/
theorem NumRow.open_ {w : World} {base : Nat} {t24 : TypeId} {v : Value} {ns : List Nat} (h : NumRow w base t24 v ns) : ∃ A c, v = .slice A ns.length c ∧ ns.length ≤ c ∧ NumsAt w A ns ∧ ∀ b o, A = some ⟨b, o, none⟩ → base ≤ b := by
  rcases h.own.2 with ⟨hv, h0⟩ | ⟨g, cap, cur, hv, hb, hg, hnc, hcm, hs, ht⟩
  · rw [h0]
    obtain rfl := List.eq_nil_of_length_eq_zero h0
    exact ⟨none, 0, hv, Nat.le_refl _, fun i x hx => by simp at hx, fun b o h => by cases h⟩
  · refine ⟨_, cap, hv, hnc, fun i x hx => ⟨h.lt x (List.mem_of_getElem? hx), g, 0, rfl, (Array.getElem?_eq_some_iff.1 hg).1, fun j u hu => ?_⟩, fun b o he => ?_⟩
    · have hc := cellsOf_at hx hu
      rw [← ht, List.getElem?_take] at hc
      split at hc
      · rw [Nat.zero_add, cell_of_row w g (i * 4 + j) cur t24 (0, 0) hg]
        simpa using hc
      · cases hc
    · injection he with he
      injection he with he
      omega
/-- It ends with a row of its own. -/
def RowEnds (w : World) (t24 : TypeId) (ns : List Nat) (x : Ending) (w' : World) : Prop := ∃ v, x = .returned v ∧ NumRow w' w.heap.size t24 v ns ∧ Grows w w'
theorem cells4 (v0 v1 v2 v3 : Value) (w : World) : (Instr.buildSlice 27 1 #[(0, .agg #[v0, v1, v2, v3])]).run Try.prog w = .ok (.slice (some ⟨w.heap.size, 0, none⟩) 1 1) (w.alloc (.cells #[v0, v1, v2, v3] 24)) := by kernel_rfl
theorem buildSlice_num (n : Nat) (w : World) : (Instr.buildSlice 27 1 #[(0, .agg (num n))]).run Try.prog w = .ok (.slice (some ⟨w.heap.size, 0, none⟩) 1 1) (w.alloc (.cells (num n) 24)) := cells4 _ _ _ _ w
/-- A slice of one number. -/
def OneNum (t24 : TypeId) (y : Nat) (v : Value) (w : World) : Prop := ∃ g, v = .slice (some ⟨g, 0, none⟩) 1 1 ∧ Blk w g t24 (num y)
theorem OneNum.grow (t24 : TypeId) (y : Nat) (v : Value) (w w' : World) (h : OneNum t24 y v w) (hg : Grows w w') : OneNum t24 y v w' := by
  obtain ⟨g, h1, h2⟩ := h
  exact ⟨g, h1, h2.below hg h2.lt⟩
theorem OneNum.reads {t24 : TypeId} {y : Nat} {v : Value} {w : World} (h : OneNum t24 y v w) : ∃ A, v = .slice A 1 1 ∧ Reads w w.heap.size 4 A 1 (num y).toList := by
  obtain ⟨g, h1, h2⟩ := h
  refine ⟨_, h1, by rw [Array.length_toList, num_size], fun _ => ⟨_, rfl, h2.lt, fun j u hu => ?_⟩⟩
  rw [show (⟨g, 0, none⟩ : Addr).add j = ⟨g, j, none⟩ by unfold Addr.add; split <;> simp_all, h2.cell]
  simpa using hu
end Go.Proofs.Ythdanjbgbbcafaa
