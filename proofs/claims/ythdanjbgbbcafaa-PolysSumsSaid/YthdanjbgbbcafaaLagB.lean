/- The program's polynomials as plain ones: a value, a weight, the one through given values. -/
import Derived.Test.YthdanjbgbbcafaaLag
import Derived.Test.YthdanjbgbbcafaaThru
namespace Go.Proofs.Ythdanjbgbbcafaa
open Go Go.RowKit

theorem Cg.add_left {q : Nat} (a : Int) {b c : Int} (h : Cg q b c) : Cg q (a + b) (a + c) := (Cg.refl q a).add h
theorem Cg.mul_left {q : Nat} (a : Int) {b c : Int} (h : Cg q b c) : Cg q (a * b) (a * c) := (Cg.refl q a).mul h
theorem Cg.zero_q (q : Nat) : Cg q (q : Int) 0 := ⟨1, by grind⟩
theorem cg_sub {q x y : Nat} (hy : y ≤ x + q) : Cg q (((x + q - y) % q : Nat) : Int) ((x : Int) - y) := by
  refine (Cg.mod q _).trans ?_
  rw [Int.natCast_sub hy, Int.natCast_add]
  exact ⟨1, by grind⟩
theorem cg_mul (q x y : Nat) : Cg q ((x * y % q : Nat) : Int) ((x : Int) * y) := (Cg.mod q _).trans (Cg.of_eq (Int.natCast_mul x y))
theorem cg_add (q x y : Nat) : Cg q (((x + y) % q : Nat) : Int) ((x : Int) + y) := (Cg.mod q _).trans (Cg.of_eq (Int.natCast_add x y))
theorem atV_lt {q : Nat} (hq : 0 < q) (p : List Nat) (x : Nat) : atV q p x < q := by
  cases p with
  | nil => exact hq
  | cons c p => exact Nat.mod_lt _ hq
theorem atV_cg (q : Nat) (p : List Nat) (x : Nat) : Cg q (atV q p x : Int) (evN p x) := by
  induction p with
  | nil => exact Cg.refl q 0
  | cons c p ih =>
    show Cg q ((((atV q p x * x % q + c) % q : Nat)) : Int) _
    rw [evN_cons]
    refine (cg_add q _ _).trans (((cg_mul q _ _).trans (ih.mul (Cg.refl q _))).add (Cg.refl q _) |>.trans (Cg.of_eq (by grind)))
theorem pd_append (x : Int) : ∀ l r : List Int, pd x (l ++ r) = pd x l * pd x r
  | [], r => by simp [pd]
  | y :: l, r => by
    rw [List.cons_append, pd, pd, pd_append x l r]
    grind
theorem prodM_cg {q x : Nat} : ∀ (l : List Nat) (s : Nat), (∀ y ∈ l, y ≤ x + q) → Cg q (prodM q s (l.map fun y => (x + q - y) % q) : Int) (s * pd x (ints l))
  | [], s, _ => Cg.of_eq (by simp [prodM, ints, pd])
  | y :: l, s, h => by
    have ih := prodM_cg (x := x) l (s * ((x + q - y) % q) % q) (fun z hz => h z (by simp [hz]))
    show Cg q (prodM q (s * ((x + q - y) % q) % q) (l.map fun y => (x + q - y) % q) : Int) _
    refine ih.trans ?_
    have h1 : Cg q ((s * ((x + q - y) % q) % q : Nat) : Int) (s * ((x : Int) - y)) := (cg_mul q _ _).trans (Cg.mul_left _ (cg_sub (h y (by simp))))
    exact (h1.mul (Cg.refl q _)).trans (Cg.of_eq (by simp only [ints, List.map_cons, pd]; grind))
theorem le_of_lt_all {q x : Nat} {l : List Nat} (h : ∀ y ∈ l, y < q) : ∀ y ∈ l, y ≤ x + q := fun y hy => by have := h y hy; omega
theorem denM_cg {q : Nat} {ns : List Nat} (hall : ∀ y ∈ ns, y < q) (i : Nat) : Cg q (denM q ns i : Int) (pd (ns.getD i 0 : Nat) (ints (ns.eraseIdx i))) :=
  (prodM_cg (ns.eraseIdx i) 1 (le_of_lt_all fun y hy => hall y (List.mem_of_mem_eraseIdx hy))).trans (Cg.of_eq (by grind))
theorem denM_lt {q : Nat} (hq : 1 < q) (ns : List Nat) (i : Nat) : denM q ns i < q := prodM_lt hq _ _ (by omega)
theorem inv_cg {q d : Nat} (hq : 1 < q) (hd : d < q) (hg : Nat.gcd d q = 1) : Cg q ((d : Int) * (invN d q : Nat)) 1 := by
  have h := invN_spec hq hd hg
  refine (cg_mul q d (invN d q)).symm.trans ?_
  rw [h]
  exact Cg.refl q 1
theorem lonM_cg {q b : Nat} (hq : 0 < q) (x : Int) : ∀ (p : List Nat) (c : Nat), Cg q (evN (lonM q b c p) x) (c + (x - b) * evN p x)
  | [], c => Cg.of_eq (by simp [lonM, evN, ints, ev])
  | y :: p, c => by
    rw [lonM, evN_cons, evN_cons]
    have h1 : Cg q (((c + q - y * b % q) % q : Nat) : Int) (c - y * b) := (cg_sub (by have := Nat.mod_lt (y * b) hq; omega)).trans ((Cg.refl q (c : Int)).sub (cg_mul q y b))
    exact (h1.add (Cg.mul_left x (lonM_cg hq x p y))).trans (Cg.of_eq (by grind))
theorem erase_same (ns : List Nat) (i : Nat) : (ns.take (i + 1)).eraseIdx i = (ns.take i).eraseIdx i := by
  apply List.ext_getElem?
  intro j
  simp only [List.getElem?_eraseIdx, List.getElem?_take]
  by_cases hj : j < i
  · rw [if_pos hj, if_pos hj, if_pos (by omega), if_pos hj]
  · rw [if_neg hj, if_neg hj, if_neg (by omega), if_neg (by omega)]
theorem erase_step {ns : List Nat} {i k y : Nat} (hy : ns[k]? = some y) (hk : k ≠ i) : (ns.take (k + 1)).eraseIdx i = (ns.take k).eraseIdx i ++ [y] := by
  have hlt := (List.getElem?_eq_some_iff.1 hy).1
  have ht : ns.take (k + 1) = ns.take k ++ [y] := by rw [List.take_add_one, hy]; rfl
  have hl : (ns.take k).length = k := by rw [List.length_take]; omega
  rw [ht]
  by_cases h : i < k
  · rw [List.eraseIdx_append_of_lt_length (by omega)]
  · rw [List.eraseIdx_of_length_le (by rw [List.length_append, hl]; simp; omega), List.eraseIdx_of_length_le (by omega)]
theorem parM_cg {q : Nat} (hq : 0 < q) (ns : List Nat) (i s : Nat) (x : Int) : ∀ k, k ≤ ns.length → Cg q (evN (parM q ns i s k) x) (s * pd x (ints ((ns.take k).eraseIdx i)))
  | 0, _ => Cg.of_eq (by simp [parM, evN, ints, ev, pd])
  | k + 1, hk => by
    have ih := parM_cg hq ns i s x k (by omega)
    obtain ⟨y, hy⟩ : ∃ y, ns[k]? = some y := ⟨_, List.getElem?_eq_getElem (by omega)⟩
    unfold parM
    by_cases e : k = i
    · subst e
      rw [if_pos rfl, erase_same]
      exact ih
    · rw [if_neg e, erase_step hy e, List.getD_eq_getElem?_getD, hy, show ints ((ns.take k).eraseIdx i ++ [y]) = ints ((ns.take k).eraseIdx i) ++ [(y : Int)] by simp [ints], pd_append]
      exact (lonM_cg hq x _ 0).trans ((Cg.add_left _ (Cg.mul_left _ ih)).trans (Cg.of_eq (by simp only [pd, Option.getD_some]; grind)))
theorem adX_zip (q : Nat) {a b : List Nat} (h : b.length = a.length) : adX q a b a.length = List.zipWith (fun u v => (u + v) % q) a b := by
  apply List.ext_getElem (by simp [adX, h])
  intro i h1 h2
  have hi : i < a.length := by simpa [adX] using h1
  simp only [adX, List.getElem_map, List.getElem_range, List.getElem_zipWith]
  rw [if_pos hi, List.getD_eq_getElem?_getD, List.getD_eq_getElem?_getD, List.getElem?_eq_getElem hi, List.getElem?_eq_getElem (by omega)]
  rfl
theorem zip_cg (q : Nat) (x : Int) : ∀ a b : List Nat, b.length = a.length → Cg q (evN (List.zipWith (fun u v => (u + v) % q) a b) x) (evN a x + evN b x)
  | [], [], _ => Cg.of_eq (by simp [evN, ints, ev])
  | [], _ :: _, h => by simp at h
  | _ :: _, [], h => by simp at h
  | u :: a, v :: b, h => by
    rw [List.zipWith_cons_cons, evN_cons, evN_cons, evN_cons]
    exact ((cg_add q u v).add (Cg.mul_left x (zip_cg q x a b (by simpa using h)))).trans (Cg.of_eq (by grind))
theorem zeros_ev (x : Int) : ∀ n : Nat, evN (List.replicate n 0) x = 0
  | 0 => rfl
  | n + 1 => by
    rw [List.replicate_succ, evN_cons, zeros_ev x n]
    simp
theorem thM_cg {q : Nat} (hq : 0 < q) (ns vs : List Nat) (x : Int) : ∀ k, k ≤ ns.length → Cg q (evN (thM q ns vs k) x) (sm (fun i => (topM q ns vs i : Int) * pd x (ints (ns.eraseIdx i))) k)
  | 0, _ => Cg.of_eq (by rw [thM, zeros_ev]; rfl)
  | k + 1, hk => by
    have ih := thM_cg hq ns vs x k (by omega)
    have hl := thM_len q ns vs k
    have hp : (parM q ns k (topM q ns vs k) ns.length).length = (thM q ns vs k).length := by rw [parM_len, if_neg (by omega), hl]
    have e := adX_zip q hp
    rw [hl] at e
    rw [thM, e]
    have h2 := parM_cg hq ns k (topM q ns vs k) x ns.length (Nat.le_refl _)
    rw [List.take_length] at h2
    exact (zip_cg q x _ _ hp).trans (ih.add h2)
/-- The polynomial goes through the values. -/
theorem thru_cg {q : Nat} (hq : 1 < q) {ns vs : List Nat} (hall : ∀ y ∈ ns, y < q) (hinv : ∀ i, i < ns.length → Nat.gcd (denM q ns i) q = 1) {j : Nat} (hj : j < ns.length) : Cg q (evN (thM q ns vs ns.length) (ns.getD j 0 : Nat)) (vs.getD j 0 : Nat) := by
  refine (thM_cg (by omega) ns vs _ ns.length (Nat.le_refl _)).trans ((sm_one ns.length hj (fun i hi hij => ?_)).trans ?_)
  · rw [pd_zero]
    · exact Cg.of_eq (by simp)
    · rw [List.getD_eq_getElem?_getD, List.getElem?_eq_getElem hj]
      show ((ns[j] : Nat) : Int) ∈ (ns.eraseIdx i).map _
      refine List.mem_map.2 ⟨ns[j], ?_, rfl⟩
      rw [List.mem_eraseIdx_iff_getElem]
      exact ⟨j, hj, fun e => hij e.symm, rfl⟩
  · have h1 := inv_cg hq (denM_lt hq ns j) (hinv j hj)
    have h2 := denM_cg hall j
    have h3 : Cg q (topM q ns vs j : Int) ((invN (denM q ns j) q : Nat) * (vs.getD j 0 : Nat)) := cg_mul q _ _
    refine (h3.mul h2.symm).trans ((Cg.of_eq (show _ = (denM q ns j : Int) * (invN (denM q ns j) q : Nat) * (vs.getD j 0 : Nat) by grind)).trans ((h1.mul (Cg.refl q _)).trans (Cg.of_eq (by grind))))
theorem thru_at {q : Nat} (hq : 1 < q) {ns vs : List Nat} (hall : ∀ y ∈ ns, y < q) (hv : ∀ y ∈ vs, y < q) (hinv : ∀ i, i < ns.length → Nat.gcd (denM q ns i) q = 1) {j x v : Nat} (hx : ns[j]? = some x) (hvv : vs[j]? = some v) : atV q (thM q ns vs ns.length) x = v := by
  have hj := (List.getElem?_eq_some_iff.1 hx).1
  have h := thru_cg (vs := vs) hq hall hinv hj
  rw [List.getD_eq_getElem?_getD, hx, List.getD_eq_getElem?_getD, hvv] at h
  exact Cg.eq ((atV_cg q _ x).trans h) (atV_lt (by omega) _ _) (hv v (List.mem_of_getElem? hvv))
/-- Points whose differences have inverses. -/
theorem pts_units {q : Nat} (hq : 1 < q) {ns : List Nat} (hall : ∀ y ∈ ns, y < q) (hinv : ∀ i, i < ns.length → Nat.gcd (denM q ns i) q = 1) : (ints ns).Pairwise fun a b => Un q (b - a) := by
  rw [List.pairwise_iff_getElem]
  intro i j hi hj hij
  have hi' : i < ns.length := by simpa [ints] using hi
  have hj' : j < ns.length := by simpa [ints] using hj
  have h1 : Un q (denM q ns j : Int) := ⟨_, inv_cg hq (denM_lt hq ns j) (hinv j hj')⟩
  have h2 := h1.cg (denM_cg hall j)
  rw [List.getD_eq_getElem?_getD, List.getElem?_eq_getElem hj'] at h2
  have h3 := pd_unit (y := ((ns[i] : Nat) : Int)) h2 (by
    show ((ns[i] : Nat) : Int) ∈ (ns.eraseIdx j).map _
    refine List.mem_map.2 ⟨ns[i], ?_, rfl⟩
    rw [List.mem_eraseIdx_iff_getElem]
    exact ⟨i, hi', by omega, rfl⟩)
  simpa [ints] using h3
theorem atOk_of {q : Nat} (hq : 1 < q) {p : List Nat} {x : Nat} (hp : ∀ y ∈ p, y < q) (hx : x < q) : atN q p x = atV q p x ∧ atE q p x = 0 := by
  have h : atOk q p x = true := by
    unfold atOk mayL
    simp only [Bool.and_eq_true, decide_eq_true_eq, List.all_eq_true, List.mem_cons, List.not_mem_nil, or_false, forall_eq]
    exact ⟨⟨hq, hp⟩, hq, hx⟩
  unfold atN atE
  rw [if_pos h, if_pos h]
  exact ⟨rfl, rfl⟩
theorem atE_in (q : Nat) (p : List Nat) (x : Nat) : (atE q p x = 0 ∧ atN q p x = atV q p x ∧ atOk q p x = true) ∨ atE q p x = 1 := by
  unfold atE atN
  by_cases h : atOk q p x = true
  · rw [if_pos h, if_pos h]
    exact .inl ⟨rfl, rfl, h⟩
  · rw [if_neg h]
    exact .inr rfl
theorem atOk_spec {q : Nat} {p : List Nat} {x : Nat} (h : atOk q p x = true) : 1 < q ∧ (∀ y ∈ p, y < q) ∧ x < q := by
  unfold atOk at h
  rw [Bool.and_eq_true] at h
  exact ⟨(mayL_spec h.1).1, (mayL_spec h.1).2, (mayL_spec h.2).2 x (by simp)⟩
end Go.Proofs.Ythdanjbgbbcafaa
