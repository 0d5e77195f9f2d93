/- Sums of polynomials, one times a number, one with a coefficient more: plain. -/
import Derived.Test.YthdanjbgbbcafaaLagB
namespace Go.Proofs.Ythdanjbgbbcafaa
open Go Go.RowKit

theorem atV_below {q : Nat} (hq : 1 < q) (p : List Nat) (x : Nat) : atV q p x < q := by
  cases p with
  | nil => show 0 < q; omega
  | cons c p => exact Nat.mod_lt _ (by omega)
theorem ev_map {q m : Nat} (f : Nat → Nat) (hf : ∀ c, Cg q (f c : Int) (c * m : Int)) (x : Int) : ∀ p : List Nat, Cg q (evN (p.map f) x) (evN p x * m)
  | [] => Cg.of_eq (by simp [evN, ints, ev])
  | c :: p => by
    rw [List.map_cons, evN_cons, evN_cons]
    exact ((hf c).add (Cg.mul_left x (ev_map f hf x p))).trans (Cg.of_eq (by grind))
theorem sum_law {q x : Nat} (hq : 1 < q) {ns vs : List Nat} (hl : vs.length = ns.length) (hx : x < q) :
    atN q (List.zipWith (fun u v => (u + v) % q) ns vs) x = (atV q ns x + atV q vs x) % q ∧ atE q (List.zipWith (fun u v => (u + v) % q) ns vs) x = 0 := by
  obtain ⟨h1, h2⟩ := atOk_of hq (p := List.zipWith (fun u v => (u + v) % q) ns vs) (x := x) (fun y hy => by
    obtain ⟨i, hi, rfl⟩ := List.getElem_of_mem hy
    rw [List.getElem_zipWith]
    exact Nat.mod_lt _ (by omega)) hx
  refine ⟨h1.trans ?_, h2⟩
  refine Cg.eq (q := q) ?_ (atV_below hq _ _) (Nat.mod_lt _ (by omega))
  exact (atV_cg q _ x).trans ((zip_cg q x ns vs hl).trans (((atV_cg q ns x).symm.add (atV_cg q vs x).symm).trans (cg_add q _ _).symm))
theorem scale_law {q m x : Nat} (hq : 1 < q) {ns : List Nat} (hx : x < q) :
    atN q (ns.map fun c => c * m % q) x = atV q ns x * m % q ∧ atE q (ns.map fun c => c * m % q) x = 0 := by
  obtain ⟨h1, h2⟩ := atOk_of hq (p := ns.map fun c => c * m % q) (x := x) (fun y hy => by
    obtain ⟨c, _, rfl⟩ := List.mem_map.1 hy
    exact Nat.mod_lt _ (by omega)) hx
  refine ⟨h1.trans ?_, h2⟩
  refine Cg.eq (q := q) ?_ (atV_below hq _ _) (Nat.mod_lt _ (by omega))
  exact (atV_cg q _ x).trans ((ev_map (m := m) _ (fun c => cg_mul q c m) x ns).trans (((atV_cg q ns x).symm.mul (Cg.refl q (m : Int))).trans (cg_mul q _ _).symm))
theorem pow_cg {q x : Nat} : ∀ n : Nat, Cg q ((x ^ n % q : Nat) : Int) ((x : Int) ^ n) := fun n => (Cg.mod q (x ^ n)).trans (Cg.of_eq (by simp))
theorem more_law {q m x : Nat} (hq : 1 < q) {ns : List Nat} (hall : ∀ y ∈ ns, y < q) (hx : x < q) (hm : m < q) :
    atN q (ns ++ [m]) x = (atV q ns x + m * (x ^ ns.length % q) % q) % q ∧ atE q (ns ++ [m]) x = 0 := by
  obtain ⟨h1, h2⟩ := atOk_of hq (p := ns ++ [m]) (x := x) (fun y hy => by
    rcases List.mem_append.1 hy with hy | hy
    · exact hall y hy
    · rw [List.mem_singleton] at hy; omega) hx
  refine ⟨h1.trans ?_, h2⟩
  refine Cg.eq (q := q) ?_ (atV_below hq _ _) (Nat.mod_lt _ (by omega))
  refine (atV_cg q _ x).trans ?_
  rw [evN_append]
  refine Cg.trans ?_ (cg_add q _ _).symm
  refine (atV_cg q ns x).symm.add ?_
  refine Cg.trans ?_ (cg_mul q _ _).symm
  refine Cg.trans (Cg.of_eq ?_) ((Cg.refl q (m : Int)).mul (pow_cg ns.length).symm)
  simp [evN, ints, ev]
  grind
theorem more_none {q m x : Nat} {ns : List Nat} (hm : ¬ m < q) : atE q (ns ++ [m]) x = 1 := by
  rcases atE_in q (ns ++ [m]) x with ⟨_, _, h⟩ | h
  · exact absurd ((atOk_spec h).2.1 m (by simp)) hm
  · exact h
theorem pow_next {q x : Nat} (k : Nat) : x ^ k % q * x % q = x ^ (k + 1) % q := by
  rw [Nat.mod_mul_mod, Nat.pow_succ]
end Go.Proofs.Ythdanjbgbbcafaa
