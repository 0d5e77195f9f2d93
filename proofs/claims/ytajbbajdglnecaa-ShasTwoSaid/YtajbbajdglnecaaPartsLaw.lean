/- ShasParts: what came in. -/
import Derived.Test.YtajbbajdglnecaaParts
import Derived.Deep.Matrix
namespace Go.Proofs.Ytajbbajdglnecaa
open Go Go.RowKit
open Go.ChangeShapes Go.WideShapes Go.ChangeAt Go.Joins Go.Deep

theorem weightsAll_mem {H : Type} {P : Program} {e : TypeId} {d : DataW H} {l : List (DataW H)} (hd : d ∈ l) : ∀ n ∈ DataW.weights P e d, n ∈ DataW.weightsAll P e l := by
  intro n hn
  induction l with
  | nil => cases hd
  | cons x r ih =>
    simp only [DataW.weightsAll, List.mem_append]
    rcases List.mem_cons.1 hd with rfl | h
    · exact Or.inl hn
    · exact Or.inr (ih h)
theorem sized_inner {H : Type} {P : Program} {ts : List TypeId} {ds : List (DataW H)} (h : (DataW.weightsEach P ts ds).all (· ≤ reachBytes) = true) {j : Nat} {t e q : TypeId} {elems spare e' sp' : List (DataW H)}
    (ht : ts[j]? = some t) (hd : ds[j]? = some (.slice elems spare)) (hu : P.underlying t = some (.slice e)) (hu2 : P.underlying e = some (.slice q)) (hx : DataW.slice e' sp' ∈ elems) : (e'.length + sp'.length) * P.bytesOf q ≤ reachBytes := by
  refine of_decide_eq_true (List.all_eq_true.1 h _ (DataW.weights_mem_each ht hd _ ?_))
  simp only [DataW.weights, hu, List.mem_cons, List.mem_append]
  exact Or.inr (Or.inl (weightsAll_mem hx _ (by simp [DataW.weights, hu2])))
theorem recs_in {H : Type} {enc : TypeId × Value → H} {P : Program} {W : World} {t e q : TypeId} {v : Value} {d : DataW H} {p : List MemPlace} {ts : List TypeId} {ds : List (DataW H)} (ht : P.underlying t = some (.slice e)) (he : P.underlying e = some (.slice q)) (hq : P.underlying q = some (.int .u8))
    (ce : P.cellsOf e = 1) (cq : P.cellsOf q = 1) (hby : P.bytesOf q = 1) (h : DataW.Trod enc P W 0 (fun _ => true) true t v d p) (hv1 : v.cells.toList = [v]) (hsz : (DataW.weightsEach P ts ds).all (· ≤ reachBytes) = true) {j : Nat} (htj : ts[j]? = some t) (hdj : ds[j]? = some d) :
    ∃ S n c V ls, v = .slice S n c ∧ RecsAt W S n V ls := by
  obtain ⟨fuel, hf⟩ := h
  rcases open_int_rows ht he hq ce cq hf with ⟨hcs, hx⟩ | ⟨a, len, cap, A, L, C, Z, hcs, _, hlc, hcm, hx, hr⟩
  · rw [hv1] at hcs
    simp only [List.cons.injEq, and_true] at hcs
    exact ⟨none, 0, 0, fun _ => .slice none 0 0, fun _ => [], hcs, fun r hr => absurd hr (by omega), fun r hr => absurd hr (by omega), fun r hr => absurd hr (by omega)⟩
  · rw [hv1] at hcs
    simp only [List.cons.injEq, and_true] at hcs
    simp only [Prod.mk.injEq] at hx
    have hsp : ∀ (b : Addr) (u : Value), W.cell? b = some u → b.spot = none := by
      intro b u hb
      cases hs : b.spot with
      | none => rfl
      | some x => unfold World.cell? at hb; split at hb <;> simp [hs] at hb
    have hints : ∀ r, r < len → IntsIn W .u8 (A r) (L r) (C r) ((Z r).take (L r)) := by
      intro r hrl
      obtain ⟨h1, h2, h3, h4, h5, h6, h7⟩ := hr r (by omega)
      have hg : ∀ i, i < L r → ((Z r).take (L r)).getD i 0 = (Z r).getD i 0 := fun i hi => by
        rw [List.getD_eq_getElem?_getD, List.getElem?_take_of_lt hi, ← List.getD_eq_getElem?_getD]
      refine ⟨by rw [List.length_take]; omega, h2, h3, fun h => ⟨by have := h6 h; omega, h6 h⟩, fun i hi => ?_, fun i hi => ?_⟩
      · cases hA : A r with
        | none => have := h6 hA; omega
        | some a' =>
          have hc := (h7 a' hA).2 i (by omega)
          refine ⟨a', rfl, ?_, by rw [hg i hi]; exact hc⟩
          have := lt_of_cell hc
          rw [block_of_add] at this
          exact this
      · rw [hg i hi]
        have hm : (Z r).getD i 0 ∈ Z r := by
          rw [List.getD_eq_getElem?_getD, List.getElem?_eq_getElem (by omega)]
          exact List.getElem_mem _
        have := h5 _ hm
        simpa [Lit.wf] using this
    refine ⟨some a, len, cap, fun r => .slice (A r) (L r) (C r), fun r => (Z r).take (L r), hcs, fun r hrl => ?_, fun r hrl => .of_ints (hints r hrl), fun r hrl => ?_⟩
    · have hc := (hr r (by omega)).1
      have hs := hsp _ _ (hr 0 (by omega)).1
      obtain ⟨g, o, s⟩ := a
      obtain rfl : s = none := by
        cases s with
        | none => rfl
        | some x => simp [Addr.add] at hs
      rw [Addr.add_mid] at hc
      exact ⟨g, o, rfl, hc⟩
    · have hl := (hints r hrl).len
      rw [hl]
      obtain ⟨h1, h2, h3, h4, h5, h6, h7⟩ := hr r (by omega)
      cases hA : A r with
      | none => have := h6 hA; omega
      | some a' =>
        have hmem : (intRow .u8 (A r) (L r) (Z r) : DataW H) ∈ (List.range len).map fun r => intRow .u8 (A r) (L r) (Z r) := List.mem_map.2 ⟨r, List.mem_range.2 hrl, rfl⟩
        rw [hA] at hmem
        have hz := sized_inner hsz htj (by rw [hdj, hx.1]) ht he hmem
        rw [hby, Nat.mul_one] at hz
        simp only [lits, List.length_map, List.length_take, List.length_drop] at hz
        have : reachBytes = 140737488351232 := rfl
        omega
theorem parts_law {H : Type} (enc : TypeId × Value → H) (W : World) (base : Nat) (v0 : Value) {d0 : DataW H} {p : List MemPlace} {S : List TypeId} {D : List (DataW H)}
    (hv0 : Value.okWide Try.prog W .any base 54 v0) (h0 : DataW.Trod enc Try.prog W 0 (fun _ => true) true 54 v0 d0 p)
    (hsz : (DataW.weightsEach Try.prog (54 :: S) (d0 :: D)).all (· ≤ reachBytes) = true) (_ : W.noneFrozen p) :
    Calls Try.prog 7 #[v0] W (LawEnds W) := by
  obtain ⟨A, n, c, V, ls, rfl, hr⟩ := recs_in Try.underlying54 Try.underlying22 Try.underlying5 (by kernel_rfl) (by kernel_rfl) (by kernel_rfl) h0 (okWide_slice_cells Try.underlying54 hv0) hsz (j := 0) rfl rfl
  exact parts_any A n c V ls W hr
end Go.Proofs.Ytajbbajdglnecaa
