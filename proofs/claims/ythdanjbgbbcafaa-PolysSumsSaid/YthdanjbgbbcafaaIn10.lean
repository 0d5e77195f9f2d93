/- What came in: a number, a group, numbers. -/
import Derived.Test.YthdanjbgbbcafaaPolyI
import Derived.Deep.Slices
import Derived.Deep.Matrix
import Derived.Lib.SmallJoins
namespace Go.Proofs.Ythdanjbgbbcafaa
open Go Go.RowKit
open Go.ChangeShapes Go.WideShapes Go.ChangeAt Go.Joins Go.Deep

theorem NumsAt.reads {w : World} {A : Option Addr} {ns : List Nat} (h : NumsAt w A ns) : Reads w w.heap.size 4 A ns.length (cellsOf ns) := by
  refine ⟨cellsOf_length ns, fun hn => ?_⟩
  obtain ⟨x, hx⟩ : ∃ x, ns[0]? = some x := ⟨_, List.getElem?_eq_getElem hn⟩
  obtain ⟨_, b, o, e, hlt, _⟩ := h 0 x hx
  refine ⟨_, e, hlt, fun j u hu => ?_⟩
  have hj : j < ns.length * 4 := by
    have := (List.getElem?_eq_some_iff.1 hu).1
    rwa [cellsOf_length] at this
  obtain ⟨y, hy⟩ : ∃ y, ns[j / 4]? = some y := ⟨_, List.getElem?_eq_getElem (by omega)⟩
  obtain ⟨_, b', o', e', _, hr⟩ := h (j / 4) y hy
  rw [e] at e'
  injection e' with e'
  injection e' with e1 e2
  subst e1 e2
  obtain ⟨v, hv⟩ : ∃ v, (num y).toList[j % 4]? = some v := ⟨_, List.getElem?_eq_getElem (by rw [Array.length_toList, num_size]; omega)⟩
  have hc := cellsOf_at hy hv
  rw [show j / 4 * 4 + j % 4 = j by omega, hu] at hc
  have hrr := hr (j % 4) v hv
  rw [show o + j / 4 * 4 + j % 4 = o + j by omega] at hrr
  rw [Addr.add_mid, hrr, hc]
/-- Blocks known whole. -/
def Held (L : List (Nat × TypeId × Array Value)) (W : World) : Prop := ∀ x ∈ L, Blk W x.1 x.2.1 x.2.2
theorem Held.nil (W : World) : Held [] W := fun _ h => by cases h
theorem Held.at_ {L : List (Nat × TypeId × Array Value)} {W : World} (h : Held L W) (i : Nat) {g : Nat} {t : TypeId} {cs : Array Value} (hi : L[i]? = some (g, t, cs)) : Blk W g t cs := h _ (List.mem_of_getElem? hi)
theorem Held.grow {L : List (Nat × TypeId × Array Value)} {W W' : World} (h : Held L W) (hg : Grows W W') : Held L W' := fun x hx => (h x hx).below hg (h x hx).lt
theorem Held.cons {L : List (Nat × TypeId × Array Value)} {W : World} {g : Nat} {t : TypeId} {cs : Array Value} (h : Held L W) (B : Blk W g t cs) : Held ((g, t, cs) :: L) W := fun x hx => by
  rcases List.mem_cons.1 hx with rfl | hx
  · exact B
  · exact h x hx
theorem Held.tail {L : List (Nat × TypeId × Array Value)} {W : World} {x : Nat × TypeId × Array Value} (h : Held (x :: L) W) : Held L W := fun y hy => h y (List.mem_cons_of_mem _ hy)
theorem Held.grown {L : List (Nat × TypeId × Array Value)} {W W' : World} {row : Option Nat} (h : Held L W) (hg : W.grownBy W' row) (hr : ∀ x ∈ L, some x.1 ≠ row) : Held L W' := fun x hx => (h x hx).grown hg (hr x hx)
theorem Held.row {L : List (Nat × TypeId × Array Value)} {W : World} {g : Nat} (h : Held L W) (cs : Array Value) (hr : ∀ x ∈ L, x.1 ≠ g) : Held L (W.setRow g cs) := fun x hx => (h x hx).setRow_far (hr x hx) cs
section
variable {H : Type} {enc : TypeId × Value → H} {w : World} {base fuel : Nat} {sp : Nat → Bool} {held : Bool}
theorem word_in {t : TypeId} {cs : List Value} {x : DataW H × List MemPlace} {P : Program} (ht : P.underlying t = some (.int .u64)) (h : DataW.trod enc P w base sp held fuel t cs = some x) : ∃ n : Nat, n < 18446744073709551616 ∧ cs = [uw n] := by
  obtain ⟨n, hc, _, hwf⟩ := DataW.trod_int ht h
  have hb : 0 ≤ n ∧ n ≤ 18446744073709551615 := by
    have h : IntKind.u64.min ≤ n ∧ n ≤ IntKind.u64.max := by simpa [Lit.wf] using hwf
    exact h
  refine ⟨n.toNat, by omega, ?_⟩
  rw [hc]
  show _ = [Value.int .u64 ((n.toNat : Nat) : Int)]
  rw [Int.toNat_of_nonneg hb.1]
/-- A number that came in. -/
theorem num_in {cs : List Value} {x : DataW H × List MemPlace} (h : DataW.trod enc Try.prog w base sp held fuel 24 cs = some x) : ∃ n : Nat, n < big ∧ cs = (num n).toList := by
  obtain ⟨xs, m, _, _, hl, hxs, hx⟩ := DataW.trod_array Try.underlying24 h
  have h4 : Try.prog.cellsOf 24 = 4 := by kernel_rfl
  have h1 : Try.prog.cellsOf 22 = 1 := by kernel_rfl
  rw [h4] at hl
  have key : ∀ i, i < 4 → ∃ n : Nat, n < 18446744073709551616 ∧ cs[i]? = some (uw n) := fun i hi => by
    have hh := hx i hi
    rw [List.getElem?_eq_getElem (by omega)] at hh
    obtain ⟨n, hn, hc⟩ := word_in Try.underlying22 hh
    refine ⟨n, hn, ?_⟩
    rw [h1, Nat.mul_one] at hc
    have h0 : (List.take 1 (List.drop i cs))[0]? = some (uw n) := by rw [hc]; rfl
    rw [List.getElem?_take_of_lt (by omega), List.getElem?_drop] at h0
    exact h0
  obtain ⟨n0, b0, e0⟩ := key 0 (by omega)
  obtain ⟨n1, b1, e1⟩ := key 1 (by omega)
  obtain ⟨n2, b2, e2⟩ := key 2 (by omega)
  obtain ⟨n3, b3, e3⟩ := key 3 (by omega)
  have hf : ∀ i, i < 4 → (fun i => if i = 0 then n0 else if i = 1 then n1 else if i = 2 then n2 else n3) i < 18446744073709551616 := fun i _ => by
    show (if i = 0 then n0 else if i = 1 then n1 else if i = 2 then n2 else n3) < _
    split
    · exact b0
    · split
      · exact b1
      · split
        · exact b2
        · exact b3
  refine ⟨_, ofw_lt hf, ?_⟩
  rw [← wrow_num hf]
  apply List.ext_getElem?
  intro i
  by_cases hi : i < 4
  · rcases four hi with rfl | rfl | rfl | rfl
    · rw [e0]; rfl
    · rw [e1]; rfl
    · rw [e2]; rfl
    · rw [e3]; rfl
  · rw [List.getElem?_eq_none (by omega), List.getElem?_eq_none (by simp [wrow_size]; omega)]
theorem num_cells_all {n : Nat} {v : Value} (h : v ∈ (num n).toList) : v.oneCell' = true := num_cells_one n v h
/-- A group that came in. -/
theorem grp_in {cs : List Value} {x : DataW H × List MemPlace} (h : DataW.trod enc Try.prog w base sp held fuel 26 cs = some x) : ∃ q, GroupRow cs.toArray q := by
  obtain ⟨xs, m, _, _, hl, hxs, hx⟩ := DataW.trod_struct Try.underlying26 h
  have h16 : Try.prog.cellsOf 26 = 16 := by kernel_rfl
  have h4 : Try.prog.cellsOf 24 = 4 := by kernel_rfl
  rw [h16] at hl
  have e4 : xs.length = 4 := hxs
  have h0 := hx 0 _ rfl
  have h1 := hx 1 _ rfl
  have h2 := hx 2 _ rfl
  have h3 := hx 3 _ rfl
  rw [List.getElem?_eq_getElem (by omega)] at h0 h1 h2 h3
  obtain ⟨n0, b0, e0⟩ := num_in h0
  obtain ⟨n1, b1, e1⟩ := num_in h1
  obtain ⟨n2, b2, e2⟩ := num_in h2
  obtain ⟨n3, b3, e3⟩ := num_in h3
  change (cs.drop 0).take (Try.prog.cellsOf 24) = _ at e0
  change (cs.drop 4).take (Try.prog.cellsOf 24) = _ at e1
  change (cs.drop 8).take (Try.prog.cellsOf 24) = _ at e2
  change (cs.drop 12).take (Try.prog.cellsOf 24) = _ at e3
  rw [h4] at e0 e1 e2 e3
  refine ⟨n1, by simpa using hl, ?_, fun j v hv => ?_, b1⟩
  · rw [Array.all_eq_true_iff_forall_mem]
    intro v hv
    have hv : v ∈ cs := by simpa using hv
    obtain ⟨i, hi, rfl⟩ := List.getElem_of_mem hv
    have part : ∀ (o n : Nat), (cs.drop o).take 4 = (num n).toList → o ≤ i → i < o + 4 → cs[i].oneCell' = true := fun o n e h1 h2 => by
      refine num_cells_one n _ ?_
      rw [← e, List.mem_iff_getElem?]
      refine ⟨i - o, ?_⟩
      rw [List.getElem?_take_of_lt (by omega), List.getElem?_drop, show o + (i - o) = i by omega, List.getElem?_eq_getElem hi]
    by_cases h1 : i < 4
    · exact part 0 n0 e0 (by omega) (by omega)
    · by_cases h2 : i < 8
      · exact part 4 n1 e1 (by omega) (by omega)
      · by_cases h3 : i < 12
        · exact part 8 n2 e2 (by omega) (by omega)
        · exact part 12 n3 e3 (by omega) (by omega)
  · have hj : j < 4 := by
      have := (List.getElem?_eq_some_iff.1 hv).1
      simpa [num_size] using this
    rw [← e1, List.getElem?_take_of_lt hj, List.getElem?_drop] at hv
    simpa using hv
end
section
variable {H : Type} {enc : TypeId × Value → H} {W : World}
theorem okWide_agg {P : Program} {base : Nat} {t : TypeId} {v : Value} {d : TypeDesc} (ht : P.underlying t = some d) (hd : (match d with | .struct _ | .array _ _ => true | _ => false) = true) (h : Value.okWide P W .any base t v) : ∃ cs, v = .agg cs := by
  unfold Value.okWide at h
  rw [ht] at h
  cases d <;> simp at hd
  · obtain ⟨cs, h, _⟩ := h
    exact ⟨cs, h⟩
  · obtain ⟨cs, h, _⟩ := h
    exact ⟨cs, h⟩
set_option maxRecDepth 100000 in
theorem num_arg {base : Nat} {v : Value} {d : DataW H} {p : List MemPlace} (hv : Value.okWide Try.prog W .any base 24 v) (h : DataW.Trod enc Try.prog W 0 (fun _ => true) true 24 v d p) : ∃ n : Nat, n < big ∧ v = .agg (num n) := by
  obtain ⟨cs, rfl⟩ := okWide_agg Try.underlying24 rfl hv
  obtain ⟨fuel, hf⟩ := h
  obtain ⟨n, hn, e⟩ := num_in hf
  exact ⟨n, hn, by rw [show cs = num n from Array.toList_inj.1 e]⟩
set_option maxRecDepth 100000 in
theorem grp_arg {base : Nat} {v : Value} {d : DataW H} {p : List MemPlace} (hv : Value.okWide Try.prog W .any base 26 v) (h : DataW.Trod enc Try.prog W 0 (fun _ => true) true 26 v d p) : ∃ gr q, GroupRow gr q ∧ v = .agg gr := by
  obtain ⟨cs, rfl⟩ := okWide_agg Try.underlying26 rfl hv
  obtain ⟨fuel, hf⟩ := h
  obtain ⟨q, hq⟩ := grp_in hf
  exact ⟨cs, q, by simpa [Value.cells] using hq, rfl⟩
set_option maxRecDepth 100000 in
/-- Numbers that came in. -/
theorem nums_cell {fuel : Nat} {v : Value} {x : DataW H × List MemPlace} (hf : DataW.trod enc Try.prog W 0 (fun _ => true) true fuel 27 [v] = some x) :
    ∃ A c ns, v = .slice A ns.length c ∧ ns.length ≤ c ∧ c ≤ maxLen ∧ NumsAt W A ns := by
  have h4 : Try.prog.cellsOf 24 = 4 := by kernel_rfl
  rcases open_slice Try.underlying27 hf with ⟨hcs, _⟩ | ⟨a, len, cap, m, n, D, Pl, hcs, _, hlc, hcm, hm, _, hx⟩
  · simp only [List.cons.injEq, and_true] at hcs
    exact ⟨none, 0, [], hcs, Nat.le_refl _, Nat.zero_le _, fun i x hx => by simp at hx⟩
  · simp only [List.cons.injEq, and_true] at hcs
    simp only [if_true] at hm
    rw [h4] at hx
    have hel : ∀ i, i < len → ∃ y : Nat, y < big ∧ W.cells? 0 (a.add (i * 4)) 4 = some (num y).toList := fun i hi => by
      obtain ⟨cs', h1, h2⟩ := hx i (by omega)
      obtain ⟨y, hy, e⟩ := num_in h2
      exact ⟨y, hy, by rw [h1, e]⟩
    obtain ⟨F, hF⟩ := choose_lt (α := Nat) (p := fun i y => y < big ∧ W.cells? 0 (a.add (i * 4)) 4 = some (num y).toList) hel
    have hsp : ∀ (b : Addr) (u : Value), W.cell? b = some u → b.spot = none := by
      intro b u hb
      cases hs : b.spot with
      | none => rfl
      | some x => unfold World.cell? at hb; split at hb <;> simp [hs] at hb
    refine ⟨some a, cap, (List.range len).map F, by rw [hcs, List.length_map, List.length_range], by simpa using hlc, hcm, fun i x hx' => ?_⟩
    have hil : i < len := by
      have := (List.getElem?_eq_some_iff.1 hx').1
      simpa using this
    rw [List.getElem?_map, List.getElem?_range hil] at hx'
    simp only [Option.map_some, Option.some.injEq] at hx'
    subst hx'
    obtain ⟨hb, hc⟩ := hF i hil
    obtain ⟨_, _, hcell⟩ := World.cells?_some hc
    have hc0 := hcell 0 (by omega)
    obtain ⟨g, o, s⟩ := a
    have hs0 : s = none := by
      obtain ⟨_, hc00⟩ := hF 0 (by omega)
      obtain ⟨_, _, hcell0⟩ := World.cells?_some hc00
      have hq := hsp _ _ ((hcell0 0 (by omega)).trans (by rfl : (num (F 0)).toList[0]? = some _))
      rw [add_of_add] at hq
      cases s with
      | none => rfl
      | some x => simp [Addr.add] at hq
    subst hs0
    refine ⟨hb, g, o, rfl, ?_, fun j v hv => ?_⟩
    · have := lt_of_cell (hc0.trans (by rfl : (num (F i)).toList[0]? = some _))
      rw [block_of_add, block_of_add] at this
      exact this
    · have hj : j < 4 := by
        have := (List.getElem?_eq_some_iff.1 hv).1
        simpa [num_size] using this
      have := hcell j hj
      rw [hv, Addr.add_mid, Addr.add_mid] at this
      exact this
set_option maxRecDepth 100000 in
theorem nums_arg {base : Nat} {v : Value} {d : DataW H} {p : List MemPlace} (hv : Value.okWide Try.prog W .any base 27 v) (h : DataW.Trod enc Try.prog W 0 (fun _ => true) true 27 v d p) :
    ∃ A c ns, v = .slice A ns.length c ∧ ns.length ≤ c ∧ c ≤ maxLen ∧ NumsAt W A ns := by
  have hv1 := okWide_slice_cells Try.underlying27 hv
  obtain ⟨fuel, hf⟩ := h
  rw [hv1] at hf
  exact nums_cell hf
/-- An array of numbers that came in. -/
theorem cellsOf_parts : ∀ (k : Nat) (cs : List Value), cs.length = k * 4 → (∀ i, i < k → ∃ n : Nat, n < big ∧ (cs.drop (i * 4)).take 4 = (num n).toList) → ∃ ns : List Nat, ns.length = k ∧ (∀ x ∈ ns, x < big) ∧ cs = cellsOf ns
  | 0, cs, hl, _ => ⟨[], rfl, (fun _ h => by cases h), List.eq_nil_of_length_eq_zero (by simpa using hl)⟩
  | k + 1, cs, hl, h => by
    obtain ⟨n, hn, e⟩ := h 0 (by omega)
    obtain ⟨ns, h1, h2, h3⟩ := cellsOf_parts k (cs.drop 4) (by rw [List.length_drop]; omega) (fun i hi => by
      obtain ⟨m, hm, e'⟩ := h (i + 1) (by omega)
      exact ⟨m, hm, by rw [List.drop_drop, ← e']; congr 2; omega⟩)
    refine ⟨n :: ns, by rw [List.length_cons, h1], fun x hx => ?_, ?_⟩
    · rcases List.mem_cons.1 hx with rfl | hx
      · exact hn
      · exact h2 x hx
    · rw [cellsOf, ← e, ← h3]
      simp
set_option maxRecDepth 100000 in
theorem arr_arg {base k : Nat} {t : TypeId} {v : Value} {d : DataW H} {p : List MemPlace} (ht : Try.prog.underlying t = some (.array k 24)) (hk : Try.prog.cellsOf t = k * 4) (hv : Value.okWide Try.prog W .any base t v) (h : DataW.Trod enc Try.prog W 0 (fun _ => true) true t v d p) :
    ∃ ns : List Nat, ns.length = k ∧ (∀ x ∈ ns, x < big) ∧ v = .agg (cellsOf ns).toArray := by
  obtain ⟨cs, rfl⟩ := okWide_agg ht rfl hv
  obtain ⟨fuel, hf⟩ := h
  obtain ⟨xs, m, _, _, hl, hxs, hx⟩ := DataW.trod_array ht hf
  have h4 : Try.prog.cellsOf 24 = 4 := by kernel_rfl
  rw [hk] at hl
  obtain ⟨ns, h1, h2, h3⟩ := cellsOf_parts k _ hl (fun i hi => by
    have hh := hx i hi
    rw [List.getElem?_eq_getElem (by omega), h4] at hh
    exact num_in hh)
  refine ⟨ns, h1, h2, ?_⟩
  rw [← h3]
  simp [Value.cells]
set_option maxRecDepth 100000 in
/-- Two slices of numbers that came in. -/
theorem two_arg {base : Nat} {t : TypeId} {v : Value} {d : DataW H} {p : List MemPlace} (ht : Try.prog.underlying t = some (.array 2 27)) (hk : Try.prog.cellsOf t = 2) (hv : Value.okWide Try.prog W .any base t v) (h : DataW.Trod enc Try.prog W 0 (fun _ => true) true t v d p) :
    ∃ A c ns B d ms, v = .agg #[.slice A ns.length c, .slice B ms.length d] ∧ NumsAt W A ns ∧ NumsAt W B ms := by
  obtain ⟨cs, rfl⟩ := okWide_agg ht rfl hv
  obtain ⟨fuel, hf⟩ := h
  obtain ⟨xs, m, _, _, hl, hxs, hx⟩ := DataW.trod_array ht hf
  have h1 : Try.prog.cellsOf 27 = 1 := by kernel_rfl
  rw [hk] at hl
  rw [h1] at hx
  have hl' : cs.size = 2 := by simpa [Value.cells] using hl
  obtain ⟨c0, c1, rfl⟩ := array2 hl'
  have h0 := hx 0 (by omega)
  have h2 := hx 1 (by omega)
  rw [List.getElem?_eq_getElem (by omega)] at h0 h2
  obtain ⟨A, c, ns, rfl, _, _, hn⟩ := nums_cell (v := c0) h0
  obtain ⟨B, d, ms, rfl, _, _, hm⟩ := nums_cell (v := c1) h2
  exact ⟨A, c, ns, B, d, ms, rfl, hn, hm⟩
end
end Go.Proofs.Ythdanjbgbbcafaa
