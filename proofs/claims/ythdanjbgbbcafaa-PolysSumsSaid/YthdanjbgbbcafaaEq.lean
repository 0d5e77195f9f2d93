/- '==' and '!=' of arrays of integers, as the model runs them. Laws alone, of whatever program. -/
import Derived.Laws.StructEq
import Derived.Below
namespace Go.Proofs.Ythdanjbgbbcafaa
open Go Go.RowKit

/-- Are n numbers the same, from place k on? -/
def eqFrom (f g : Nat → Int) : Nat → Nat → Bool
  | _, 0 => true
  | k, n + 1 => f k == g k && eqFrom f g (k + 1) n
theorem eqFrom_true {f g : Nat → Int} : ∀ {n k : Nat}, (eqFrom f g k n = true ↔ ∀ i, i < n → f (k + i) = g (k + i))
  | 0, k => by simp [eqFrom]
  | n + 1, k => by
    simp only [eqFrom, Bool.and_eq_true, beq_iff_eq, eqFrom_true (n := n) (k := k + 1)]
    constructor
    · rintro ⟨h0, h⟩ i hi
      cases i with
      | zero => exact h0
      | succ i => have := h i (by omega); rwa [show k + 1 + i = k + (i + 1) by omega] at this
    · intro h
      exact ⟨h 0 (by omega), fun i hi => by have := h (i + 1) (by omega); rwa [show k + (i + 1) = k + 1 + i by omega] at this⟩
theorem run_part_int {P : Program} (e : TypeId) (kd : IntKind) (he : P.underlying e = some (.int kd)) (cs : Array Value) (j : Nat) (v : Value) (hv : cs[j]? = some v) (w : World) : (part e cs j).run P w = .ok v w := by
  simp [part, isAgg, run_underlying he, hv]
theorem run_equalIn_ints {P : Program} (d : Nat) (t e : TypeId) (n : Nat) (kd : IntKind) (i : TypeInfo) (xs ys : Array Value) (f g : Nat → Int) (ht : P.underlying t = some (.array n e)) (he : P.underlying e = some (.int kd)) (hi : P.info? e = some i) (hs : i.size = 1)
    (hx : ∀ j, j < n → xs[j]? = some (.int kd (f j))) (hy : ∀ j, j < n → ys[j]? = some (.int kd (g j))) (w : World) :
    (Op.equalIn (d + 2) t (.agg xs) (.agg ys)).run P w = .ok (eqFrom f g 0 n) w := by
  have key : ∀ (m k : Nat), k + m ≤ n → ((forIn (List.range' k m) ((none, ()) : Option Bool × Unit) fun j r => do
        let x ← part e xs (j * 1)
        let y ← part e ys (j * 1)
        let b ← Op.equalIn (d + 1) e x y
        if (!b) = true then pure (ForInStep.done (some false, ())) else do
          pure (ForInStep.yield (none, ())) : Sem (Option Bool × Unit))).run P w = .ok (if eqFrom f g k m then (none, ()) else (some false, ())) w := by
    intro m
    induction m with
    | zero => intro k _; simp [eqFrom]
    | succ m ih =>
      intro k hk
      rw [List.range'_succ, List.forIn_cons]
      simp only [Nat.mul_one, Sem.run_bind, run_part_int e kd he xs k _ (hx k (by omega)), run_part_int e kd he ys k _ (hy k (by omega)), Result.andThen_ok, run_equalIn_int w d e kd kd (f k) (g k) he]
      have h1 := ih (k + 1) (by omega)
      cases hb : (f k == g k) with
      | true =>
        simp only [Bool.not_true, Bool.false_eq_true, if_false, Sem.run_pure, Result.andThen_ok, eqFrom, hb, Bool.true_and]
        simpa using h1
      | false =>
        simp [eqFrom, hb]
  obtain ⟨D, hD⟩ : ∃ D, D = d + 1 := ⟨_, rfl⟩
  rw [← hD] at key
  rw [show d + 2 = D + 1 by omega]
  have hsz : ∀ w, (sizeOf e).run P w = .ok 1 w := fun w => by simp [sizeOf, typeInfo, run_program, hi, hs]
  simp only [Op.equalIn, Sem.run_bind, run_underlying ht, Result.andThen_ok, hsz, Std.Legacy.Range.forIn_eq_forIn_range']
  have h0 := key n 0 (by omega)
  have hn : [:n].size = n := by simp [Std.Legacy.Range.size]
  rw [hn, h0]
  simp only [Result.andThen_ok]
  cases eqFrom f g 0 n <;> simp
/-- '==' and '!=' of arrays of integers. -/
theorem run_eql_ints {P : Program} (t e : TypeId) (n : Nat) (kd : IntKind) (i : TypeInfo) (xs ys : Array Value) (f g : Nat → Int) (ht : P.underlying t = some (.array n e)) (he : P.underlying e = some (.int kd)) (hi : P.info? e = some i) (hs : i.size = 1)
    (hx : ∀ j, j < n → xs[j]? = some (.int kd (f j))) (hy : ∀ j, j < n → ys[j]? = some (.int kd (g j))) (w : World) :
    (binOp .eql t (.agg xs) (.agg ys)).run P w = .ok (.bool (eqFrom f g 0 n)) w := by
  rw [run_eql_struct, show 10000 = 9998 + 2 from rfl, run_equalIn_ints 9998 t e n kd i xs ys f g ht he hi hs hx hy w]
  rfl
theorem run_neq_ints {P : Program} (t e : TypeId) (n : Nat) (kd : IntKind) (i : TypeInfo) (xs ys : Array Value) (f g : Nat → Int) (ht : P.underlying t = some (.array n e)) (he : P.underlying e = some (.int kd)) (hi : P.info? e = some i) (hs : i.size = 1)
    (hx : ∀ j, j < n → xs[j]? = some (.int kd (f j))) (hy : ∀ j, j < n → ys[j]? = some (.int kd (g j))) (w : World) :
    (binOp .neq t (.agg xs) (.agg ys)).run P w = .ok (.bool (!eqFrom f g 0 n)) w := by
  rw [run_neq_struct, show 10000 = 9998 + 2 from rfl, run_equalIn_ints 9998 t e n kd i xs ys f g ht he hi hs hx hy w]
  rfl
theorem eqFrom_self (f : Nat → Int) (k n : Nat) : eqFrom f f k n = true := eqFrom_true.2 fun _ _ => rfl
end Go.Proofs.Ythdanjbgbbcafaa
