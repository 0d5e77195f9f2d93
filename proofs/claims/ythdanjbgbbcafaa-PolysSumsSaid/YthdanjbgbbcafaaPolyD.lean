/- polys: may. -/
import Derived.Test.YthdanjbgbbcafaaPolyC
namespace Go.Proofs.Ythdanjbgbbcafaa
open Go Go.RowKit

theorem built_cells (v0 v1 v2 v3 v4 v5 v6 v7 v8 v9 v10 v11 v12 v13 v14 v15 : Value) : Try.prog.built 57 [(0, .agg #[v0, v1, v2, v3, v4, v5, v6, v7, v8, v9, v10, v11, v12, v13, v14, v15])] = some (frow #[v0, v1, v2, v3, v4, v5, v6, v7, v8, v9, v10, v11, v12, v13, v14, v15] 0) := by kernel_rfl
theorem built_field (gr : Array Value) (h : gr.size = 16) : Try.prog.built 57 [(0, .agg gr)] = some (frow gr 0) := by
  obtain ⟨l⟩ := gr
  have h : l.length = 16 := by simpa using h
  obtain ⟨v0, l, rfl⟩ := List.exists_cons_of_length_eq_add_one h
  have h : l.length = 15 := by simpa using h
  obtain ⟨v1, l, rfl⟩ := List.exists_cons_of_length_eq_add_one h
  have h : l.length = 14 := by simpa using h
  obtain ⟨v2, l, rfl⟩ := List.exists_cons_of_length_eq_add_one h
  have h : l.length = 13 := by simpa using h
  obtain ⟨v3, l, rfl⟩ := List.exists_cons_of_length_eq_add_one h
  have h : l.length = 12 := by simpa using h
  obtain ⟨v4, l, rfl⟩ := List.exists_cons_of_length_eq_add_one h
  have h : l.length = 11 := by simpa using h
  obtain ⟨v5, l, rfl⟩ := List.exists_cons_of_length_eq_add_one h
  have h : l.length = 10 := by simpa using h
  obtain ⟨v6, l, rfl⟩ := List.exists_cons_of_length_eq_add_one h
  have h : l.length = 9 := by simpa using h
  obtain ⟨v7, l, rfl⟩ := List.exists_cons_of_length_eq_add_one h
  have h : l.length = 8 := by simpa using h
  obtain ⟨v8, l, rfl⟩ := List.exists_cons_of_length_eq_add_one h
  have h : l.length = 7 := by simpa using h
  obtain ⟨v9, l, rfl⟩ := List.exists_cons_of_length_eq_add_one h
  have h : l.length = 6 := by simpa using h
  obtain ⟨v10, l, rfl⟩ := List.exists_cons_of_length_eq_add_one h
  have h : l.length = 5 := by simpa using h
  obtain ⟨v11, l, rfl⟩ := List.exists_cons_of_length_eq_add_one h
  have h : l.length = 4 := by simpa using h
  obtain ⟨v12, l, rfl⟩ := List.exists_cons_of_length_eq_add_one h
  have h : l.length = 3 := by simpa using h
  obtain ⟨v13, l, rfl⟩ := List.exists_cons_of_length_eq_add_one h
  have h : l.length = 2 := by simpa using h
  obtain ⟨v14, l, rfl⟩ := List.exists_cons_of_length_eq_add_one h
  have h : l.length = 1 := by simpa using h
  obtain ⟨v15, l, rfl⟩ := List.exists_cons_of_length_eq_add_one h
  have h : l.length = 0 := by simpa using h
  obtain rfl := List.length_eq_zero_iff.1 h
  exact built_cells v0 v1 v2 v3 v4 v5 v6 v7 v8 v9 v10 v11 v12 v13 v14 v15
theorem wpList_build_of {P : Program} {ops : Array Oper} {rest : List Oper} {o : Oper} {a : Act} {w : World} {Q : Exit → Act → World → Prop} (hg : o.guard = none) (t : TypeId) (parts : Array (Nat × Operand)) (cs : Array Value) (l : List (Nat × Value)) (ho : o.op = .build t parts)
    (hl : (parts.map fun (i, x) => (i, a.eval x)).toList = l) (hb : P.built t l = some cs) (h : wpList P ops Q rest (a.put o.dst (.agg cs)) w) : wpList P ops Q (o :: rest) a w :=
  wpList_build_is hg t parts cs ho (by rw [hl]; exact hb) h
theorem info_group (gr : Array Value) (h : gr.size = 16) : (Try.prog.info? 26).map (·.size) = some gr.size := by rw [h]; kernel_rfl
theorem mayE_in (a b q : Nat) : mayE a b q = 0 ∨ mayE a b q = 1 ∨ mayE a b q = 7 := by
  unfold mayE
  split <;> simp
theorem addV_lt {q : Nat} (hq : q < big) (a b : Nat) : addV q a b < big := by
  unfold addV
  split
  · rename_i h
    have := (mayB_spec.1 h).1
    exact Nat.lt_trans (Nat.mod_lt _ (by omega)) hq
  · exact big_pos
theorem mulV_lt {q : Nat} (hq : q < big) (a b : Nat) : mulV q a b < big := by
  unfold mulV
  split
  · rename_i h
    have := (mayB_spec.1 h).1
    exact Nat.lt_trans (Nat.mod_lt _ (by omega)) hq
  · exact big_pos
theorem subV_lt {q : Nat} (hq : q < big) (a b : Nat) : subV q a b < big := by
  unfold subV
  split
  · rename_i h
    have := (mayB_spec.1 h).1
    exact Nat.lt_trans (Nat.mod_lt _ (by omega)) hq
  · exact big_pos
theorem plus_ok (gr : Array Value) (q bf : Nat) (hgr : GroupRow gr q) : DeedOk 29 (addV q) (fun a b => mayE a b q) gr bf 57 :=
  ⟨fun a b e w he ha hb BF => plusF_any gr q a b bf e hgr he ha hb w BF, addV_lt hgr.lt, fun a b => mayE_in a b q, enters_of Try.func29 (by kernel_rfl) rfl⟩
theorem times_ok (gr : Array Value) (q bf : Nat) (hgr : GroupRow gr q) : DeedOk 26 (mulV q) (fun a b => mayE a b q) gr bf 57 :=
  ⟨fun a b e w he ha hb BF => timesF_any gr q a b bf e hgr he ha hb w BF, mulV_lt hgr.lt, fun a b => mayE_in a b q, enters_of Try.func26 (by kernel_rfl) rfl⟩
/-- Are numbers exponents? -/
def mayL (q : Nat) (l : List Nat) : Bool := decide (1 < q) && l.all fun x => decide (x < q)
theorem first_zero {e c : Int} : first e c = 0 ↔ e = 0 ∧ c = 0 := by
  unfold first
  split
  · rename_i h; simp [h]
  · rename_i h; simp [h]
theorem mayE_zero {a b q : Nat} : mayE a b q = 0 ↔ 1 < q ∧ a < q ∧ b < q := by
  unfold mayE
  split
  · rename_i h; simpa using mayB_spec.1 h
  · rename_i h
    refine ⟨fun h' => absurd h' (by decide), fun h' => absurd (mayB_spec.2 h') h⟩
theorem gath_may (q : Nat) (hq : 1 < q) : ∀ (l : List Nat) (s : Nat × Int), s.1 < q → ((gath (addV q) (fun a b => mayE a b q) s l).2 = 0 ↔ s.2 = 0 ∧ ∀ x ∈ l, x < q)
  | [], s, _ => by simp [gath]
  | x :: l, s, h => by
    have hlt : addV q s.1 x < q := by
      unfold addV
      split
      · exact Nat.mod_lt _ (by omega)
      · omega
    rw [gath, gath_may q hq l _ hlt, first_zero, mayE_zero]
    simp only [List.mem_cons, forall_eq_or_imp]
    constructor
    · rintro ⟨⟨h1, _, _, h2⟩, h3⟩; exact ⟨h1, h2, h3⟩
    · rintro ⟨h1, h2, h3⟩; exact ⟨⟨h1, hq, h, h2⟩, h3⟩
theorem may_law (q : Nat) (l : List Nat) : (first (gath (addV q) (fun a b => mayE a b q) (0, 0) l).2 (mayE 0 0 q) = 0) ↔ mayL q l = true := by
  unfold mayL
  rw [first_zero, mayE_zero, Bool.and_eq_true, decide_eq_true_eq, List.all_eq_true]
  constructor
  · rintro ⟨h1, h2, _⟩
    have := (gath_may q h2 l (0, 0) (by show 0 < q; omega)).1 h1
    exact ⟨h2, fun x hx => by simpa using this.2 x hx⟩
  · rintro ⟨h1, h2⟩
    exact ⟨(gath_may q h1 l (0, 0) (by show 0 < q; omega)).2 ⟨rfl, fun x hx => by simpa using h2 x hx⟩, h1, by omega, by omega⟩
set_option maxRecDepth 100000 in
set_option maxHeartbeats 4000000 in
theorem may_any (gr : Array Value) (q : Nat) (hgr : GroupRow gr q) (A : Option Addr) (cap : Nat) (ns : List Nat) (hlen : ns.length < 9223372036854775808) (w : World) (hns : NumsAt w A ns) :
    Calls Try.prog 25 #[.agg gr, .slice A ns.length cap] w (BoolEnds w (mayL q ns)) := by
  have h0 : (.agg #[.int .u64 0, .int .u64 0, .int .u64 0, .int .u64 0] : Value) = .agg (num 0) := by rw [num_zero]; rfl
  have hb0 := built_field gr hgr.size
  have hi := info_group gr hgr.size
  have HB0 := hide hb0
  have HI := hide hi
  have H0 := hide h0
  clear hb0 hi h0
  go_enter Try.func25, Try.ntmps25
  go_upto_region 1 with fail
  have g1 := hide (Blk.new w 26 gr)
  go_upto_region 2 with (first | (refine wpList_load_row rfl 26 _ rfl (w.heap.size) rfl 26 gr (0, 0) _ g1.out Try.underlying26 rfl HI.out ?_) | (refine wpList_build_of rfl 57 _ (frow gr 0) [(0, .agg gr)] rfl (by kernel_rfl) HB0.out ?_))
  have BF0 := Blk.new (w.alloc (.cells gr 26)) 57 (frow gr 0)
  have hL0 : Grows w ((w.alloc (.cells gr 26)).alloc (.cells (frow gr 0) 57)) := ((Below.refl _ _).alloc (Nat.le_refl _) _).alloc (by simp) _
  simp only [World.size_alloc] at BF0
  change Code.wp _ _ _ _ ((w.alloc (.cells gr 26)).alloc (.cells (frow gr 0) 57))
  generalize (w.alloc (.cells gr 26)).alloc (.cells (frow gr 0) 57) = w1 at *
  have KN := hide (hns.grow hL0)
  have KF := hide BF0
  have KL := hide hL0
  have KA := hide (hns.away (bf := w.heap.size + 1) (by omega))
  clear BF0 hL0 g1 hns HB0 HI
  go_wp2_with fail
  rw [H0.out]
  with_reducible refine (gather_any 29 (addV q) (fun a b => mayE a b q) gr 0 (w.heap.size + 1) 0 (plus_ok gr q _ hgr) A cap ns big_pos (Or.inl rfl) hlen KA.out _ KN.out KF.out).mono ?_
  rintro e w2 ⟨rfl, hB, hF⟩
  have hin := (gath_in (addV q) (fun a b => mayE a b q) (addV_lt hgr.lt) (fun a b => mayE_in a b q) ns (0, 0) big_pos (Or.inl rfl)).2
  have hlaw := may_law q ns
  have KB2 := hide (But.trans (But.of_grows KL.out) hB)
  have KF2 := hide hF
  generalize gath (addV q) (fun a b => mayE a b q) (0, 0) ns = st at *
  have HIN := hide hin
  have HLAW := hide hlaw
  clear hB hF hin hlaw KN KA KF KL
  go_wp2_with fail
  rw [H0.out]
  with_reducible refine (plusF_any gr q 0 0 (w.heap.size + 1) st.2 hgr HIN.out big_pos big_pos _ KF2.out).mono ?_
  rintro e w3 ⟨rfl, hB, hF⟩
  have hin := first_in HIN.out (mayE_in 0 0 q)
  have hlaw := HLAW.out
  have KB3 := hide (But.below (Below.refl w.heap.size w) (KB2.out.trans hB) (Nat.le_refl _) (by simp))
  generalize first st.2 (mayE 0 0 q) = e' at *
  have hc := (hF.cell 16).trans (frow_at hgr.size e')
  clear hB hF KB2 KF2 HIN HLAW
  rcases hin with rfl | rfl | rfl
  · have hm : mayL q ns = true := hlaw.1 rfl
    clear hlaw
    go_wp2_with fail
    exact bodyPost_ret (by kernel_rfl) rfl ⟨by rw [hm], KB3.out⟩
  · have hm : mayL q ns = false := by
      cases h : mayL q ns with
      | false => rfl
      | true => exact absurd (hlaw.2 h) (by decide)
    clear hlaw
    go_wp2_with fail
    exact bodyPost_ret (by kernel_rfl) rfl ⟨by rw [hm], KB3.out⟩
  · have hm : mayL q ns = false := by
      cases h : mayL q ns with
      | false => rfl
      | true => exact absurd (hlaw.2 h) (by decide)
    clear hlaw
    go_wp2_with fail
    exact bodyPost_ret (by kernel_rfl) rfl ⟨by rw [hm], KB3.out⟩
end Go.Proofs.Ythdanjbgbbcafaa
