/- append of rows of numbers, in a region that draws its order. -/
import Derived.Test.YthdanjbgbbcafaaTypE
import Derived.Test.YthdanjbgbbcafaaIn10
import Derived.ArgAppend
namespace Go.Proofs.Ythdanjbgbbcafaa
open Go Go.RowKit

theorem grows_of_grown {w w' : World} (h : w.grownBy w' none) : Grows w w' := ⟨h.os, h.tape, h.output, h.size, fun k hk => h.block k hk (by simp)⟩
/-- A row of numbers of its own; none is no memory. -/
def RowNE (base : Nat) (t24 : TypeId) (ns : List Nat) (v : Value) (w : World) : Prop := NumRow w base t24 v ns ∧ (ns = [] → v = .slice none 0 0)
theorem RowNE.grow (base : Nat) (t24 : TypeId) (ns : List Nat) (v : Value) (w w' : World) (h : RowNE base t24 ns v w) (hg : Grows w w') : RowNE base t24 ns v w' := ⟨h.1.grow hg, h.2⟩
theorem gives_append {P : Program} {o : Oper} {ρ : Operand → Value} {w : World} {K : Value → World → Prop} (s x : Operand) (t : TypeId)
    (ho : o.op = .call { callee := .builtin .append, args := #[s, x], argTypes := #[t, t] }) {a b v' : Value} {w' : World} (ha : ρ s = a) (hb : ρ x = b)
    (hrun : (Builtin.append_ #[t, t] o.type #[a, b]).run P w = .ok v' w') (hK : K v' w') : gives P o ρ w K := by
  unfold gives execOp
  simp only [ho, resolve, invoke, builtin, Sem.run_bind, Sem.run_pure, Result.andThen_ok, List.map_toArray, List.map_cons, List.map_nil, ha, hb, hrun]
  exact hK
set_option maxRecDepth 100000 in
/-- append([]T(nil), l...) -/
theorem gives_append_nil {o : Oper} {ρ : Operand → Value} {w : World} {K : Value → World → Prop} (base : Nat) (s x : Operand)
    (ho : o.op = .call { callee := .builtin .append, args := #[s, x], argTypes := #[27, 27] }) (A : Option Addr) (c : Nat) (ns : List Nat) (ha : ρ s = .slice none 0 0) (hb : ρ x = .slice A ns.length c)
    (hns : NumsAt w A ns) (hlen : ns.length ≤ 100000) (hbase : base ≤ w.heap.size) (hK : ∀ v w', Grows w w' → RowNE base 24 ns v w' → K v w') : gives Try.prog o ρ w K := by
  obtain ⟨i0, hi0, hi1, hi2, hi3⟩ := info_parts info_num
  by_cases h0 : ns = []
  · subst h0
    have hrun : (Builtin.append_ #[27, 27] o.type #[.slice none 0 0, .slice A 0 c]).run Try.prog w = .ok (.slice none 0 0) w := by
      cases A <;> simp [Builtin.append_, run_underlying Try.underlying27, sizeOf, typeInfo, hi0, Builtin.lenOf, Builtin.firstCells, loadCells, loadCellsFrom]
    exact gives_append s x _ ho ha hb hrun (hK _ _ (Grows.refl w) ⟨NumRow.nil _ _ _, fun _ => rfl⟩)
  · obtain ⟨v', w', hrun, hown, hgrow, hat⟩ := run_append_any (P := Try.prog) w base 27 o.type 24 i0 (.agg nought) 4 32 Try.underlying27 hi0 hi1 hi2 hi3 rfl (by decide) (.slice none 0 0) 0 [] (World.ownsRow_nil w base _ 4) w.heap.size A ns.length c (cellsOf ns) hns.reads (fun u hu => cellsOf_one ns u hu) (by unfold maxLen; omega) (by omega) hbase
    refine gives_append s x _ ho ha hb hrun (hK _ _ (grows_of_grown hgrow) ⟨⟨by simpa using hown, fun y hy => ?_⟩, fun h => absurd h h0⟩)
    obtain ⟨i, hi, rfl⟩ := List.getElem_of_mem hy
    exact (hns i _ (List.getElem?_eq_getElem hi)).1
set_option maxRecDepth 100000 in
/-- append(l, n): in place, where there is room. -/
theorem gives_append_one {o : Oper} {ρ : Operand → Value} {w : World} {K : Value → World → Prop} (fr : List Fresh) (base : World) (s x : Operand)
    (ho : o.op = .call { callee := .builtin .append, args := #[s, x], argTypes := #[27, 27] }) (ns : List Nat) (y : Nat) {v1 v2 : Value} (ha : ρ s = v1) (hb : ρ x = v2)
    (h1 : RowNE base.heap.size 24 ns v1 w) (h2 : OneNum 24 y v2 w) (hy : y < big) (hlen : ns.length ≤ 100000) (hbase : base.heap.size ≤ w.heap.size) (hfr : ∀ f ∈ fr, f.z.size = 4)
    (hK : ∀ v w', WStep fr base w w' → NumRow w' base.heap.size 24 v (ns ++ [y]) → K v w') : gives Try.prog o ρ w K := by
  obtain ⟨i0, hi0, hi1, hi2, hi3⟩ := info_parts info_num
  obtain ⟨B, rfl, hr⟩ := h2.reads
  obtain ⟨hrow, hnil⟩ := h1
  obtain ⟨v', w', hrun, hown, hgrow, hat⟩ := run_append_any (P := Try.prog) w base.heap.size 27 o.type 24 i0 (.agg nought) 4 32 Try.underlying27 hi0 hi1 hi2 hi3 rfl (by decide) v1 ns.length (cellsOf ns) hrow.own w.heap.size B 1 1 (num y).toList hr (num_cells_one y) (by unfold maxLen; omega) (by omega) hbase
  have hmore : NumRow w' base.heap.size 24 v' (ns ++ [y]) := NumRow.more hown hrow.lt hy rfl
  rcases hrow.own.2 with ⟨e, _⟩ | ⟨g, cap, cur, e, hbg, hg, hnc, hcm, hs, ht⟩
  · rw [e] at hgrow
    have hG := grows_of_grown (by simpa [Value.ownBlock] using hgrow)
    exact gives_append s x _ ho ha hb hrun (hK _ _ ⟨hG.mono hbase, fun f _ k cs hk _ => hG.block k (Array.getElem?_eq_some_iff.1 hk).1⟩ hmore)
  · have hB : Below base.heap.size w w' := ⟨hgrow.os, hgrow.tape, hgrow.output, hgrow.size, fun k hk => hgrow.block k (by omega) (by rw [e]; simp [Value.ownBlock]; omega)⟩
    by_cases h4 : 4 < cur.size
    · refine gives_append s x _ ho ha hb hrun (hK _ _ ⟨hB, fun f hf k cs hk hcs => hgrow.block k (Array.getElem?_eq_some_iff.1 hk).1 ?_⟩ hmore)
      rw [e]
      simp only [Value.ownBlock]
      intro hkg
      injection hkg with hkg
      subst hkg
      rw [hg] at hk
      injection hk with hk
      injection hk with hk _
      subst hk
      have := hfr f hf
      omega
    · -- one number has filled it: a new block
      have hpos : 0 < ns.length := by
        rcases Nat.eq_zero_or_pos ns.length with h0 | h0
        · have := hnil (List.eq_nil_of_length_eq_zero h0)
          rw [e] at this
          cases this
        · exact h0
      have hcap : cap < ns.length + 1 := by omega
      have hcells : ∀ j u, (cellsOf ns)[j]? = some u → w.cell? ((⟨g, 0, none⟩ : Addr).add j) = some u := fun j u hu => by
        obtain ⟨ad, e1, _, hc⟩ := (Reads.of_own (e ▸ hrow.own)).2 hpos
        injection e1 with e1
        subst e1
        exact hc j u hu
      obtain ⟨ad, e1, hlt1, hc1⟩ := hr.2 (by omega)
      subst e1
      obtain ⟨v2', w2', hrun2, hown2, hgrow2⟩ := run_append_arg_grows (P := Try.prog) w 27 o.type 24 i0 (.agg nought) 4 32 Try.underlying27 hi0 hi1 hi2 hi3 rfl (by decide) ⟨g, 0, none⟩ ns.length cap (cellsOf ns) hrow.own.1 hcells ad 1 1 (num y).toList hr.1 hc1 hcap (by unfold maxLen; omega) (by omega)
      rw [e, hrun2] at hrun
      injection hrun with ea eb
      subst ea eb
      have hG := grows_of_grown hgrow2
      exact gives_append s x _ ho (ha.trans e) hb hrun2 (hK _ _ ⟨hG.mono hbase, fun f _ k cs hk _ => hG.block k (Array.getElem?_eq_some_iff.1 hk).1⟩ hmore)
/-- A slice out of an array of slices. -/
theorem load_slc {w : World} {g k : Nat} {t : TypeId} {cs : Array Value} {v : Value} (B : Blk w g t cs) (hk : cs[k]? = some v) : ∀ w', Grows w w' → (Instr.loadAt 27 (.pointer (some ⟨g, k, none⟩))).run Try.prog w' = .ok v w' := fun w' hg => by
  have hc := ((B.below hg B.lt).cell k).trans hk
  go_simp
/-- An older variable filled: rows behind it stay. -/
theorem NumRow.setRow {w : World} {base g : Nat} {t24 : TypeId} {v : Value} {ns : List Nat} (h : NumRow w base t24 v ns) (hg : g < base) (cs : Array Value) : NumRow (w.setRow g cs) base t24 v ns := by
  refine ⟨⟨h.own.1, ?_⟩, h.lt⟩
  rcases h.own.2 with h1 | ⟨b, cap, cur, h1, h2, h3, h4⟩
  · exact .inl h1
  · refine .inr ⟨b, cap, cur, h1, h2, ?_, h4⟩
    simp only [World.setRow, Array.getElem?_modify]
    rw [if_neg (by omega)]
    exact h3
theorem gives_build {o : Oper} {ρ : Operand → Value} {w : World} {K : Value → World → Prop} (y : Operand) (ho : o.op = .buildSlice 27 1 #[(0, y)]) (n : Nat) (hy : ρ y = .agg (num n)) (hK : ∀ v w', Grows w w' → OneNum 24 n v w' → K v w') : gives Try.prog o ρ w K := by
  unfold gives execOp
  simp only [ho, List.map_toArray, List.map_cons, List.map_nil, hy, Sem.run_bind, buildSlice_num, Result.andThen_ok, Sem.run_pure]
  exact hK _ _ ((Below.refl _ _).alloc (Nat.le_refl _) _) ⟨_, rfl, Blk.new w _ _⟩
/-- Rows of a loop that another row's growing, or a variable's making, lets be. -/
theorem row_kept {w w' : World} {base : Nat} {t : TypeId} {v : Value} {ns : List Nat} {row : Option Nat} (h : NumRow w base t v ns) (hg : w.grownBy w' row) (hne : ∀ g, row = some g → v.ownBlock ≠ some g) : NumRow w' base t v ns :=
  ⟨h.own.kept hg (by
    cases hv : v.ownBlock with
    | none => exact .inl rfl
    | some g =>
      refine .inr (fun e => ?_)
      exact hne g e.symm hv), h.lt⟩
theorem apart_kept {w : World} {base : Nat} {t : TypeId} {v v' v2 : Value} {ns : List Nat} (h : NumRow w base t v2 ns) (ha : ∀ g, v.ownBlock = some g → v2.ownBlock ≠ some g) {H : Nat} (hv : v'.ownBlock = v.ownBlock ∨ v'.ownBlock = some H) (hH : w.heap.size ≤ H) : ∀ g, v'.ownBlock = some g → v2.ownBlock ≠ some g := fun g hg h2 => by
  rcases hv with hv | hv
  · exact ha g (hv.symm.trans hg) h2
  · rw [hv] at hg
    injection hg with hg
    have := (h.own.lt g h2).2
    omega
theorem new_reads (w : World) (t24 : TypeId) (v : Nat) : Reads (w.alloc (.cells (num v) t24)) (w.heap.size + 1) 4 (some ⟨w.heap.size, 0, none⟩) 1 (num v).toList :=
  ⟨by rw [Array.length_toList, num_size], fun _ => ⟨_, rfl, by simp, fun j u hu => by
    rw [show (⟨w.heap.size, 0, none⟩ : Addr).add j = ⟨w.heap.size, j, none⟩ by unfold Addr.add; split <;> simp_all, (Blk.new w t24 (num v)).cell]
    simpa using hu⟩⟩
theorem mayE_two (a b q : Nat) : mayE a b q = 0 ∨ mayE a b q = 1 := by
  unfold mayE
  split <;> simp
end Go.Proofs.Ythdanjbgbbcafaa
