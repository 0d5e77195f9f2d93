/- Weights of moved points, and of points many times: plain. -/
import Derived.Test.YthdanjbgbbcafaaLagB
namespace Go.Proofs.Ythdanjbgbbcafaa
open Go Go.RowKit

theorem erase_map {α β : Type} (f : α → β) : ∀ (l : List α) (i : Nat), (l.map f).eraseIdx i = (l.eraseIdx i).map f
  | [], _ => by simp
  | _ :: _, 0 => by simp
  | a :: l, i + 1 => by simp [erase_map f l i]
theorem sub_same {q a b c d : Nat} (hq : 0 < q) (hb : b ≤ a + q) (hd : d ≤ c + q) (h : Cg q ((a : Int) - b) ((c : Int) - d)) : (a + q - b) % q = (c + q - d) % q :=
  Cg.eq ((cg_sub hb).trans (h.trans (cg_sub hd).symm)) (Nat.mod_lt _ hq) (Nat.mod_lt _ hq)
theorem moved_sub {q s x y : Nat} (hq : 0 < q) (hy : y < q) : ((x + s) % q + q - (y + s) % q) % q = (x + q - y) % q :=
  sub_same hq (by have := Nat.mod_lt (y + s) hq; omega) (by omega) (((cg_add q x s).sub (cg_add q y s)).trans (Cg.of_eq (by grind)))
theorem map_getD (f : Nat → Nat) {l : List Nat} {i : Nat} (hi : i < l.length) : (l.map f).getD i 0 = f (l.getD i 0) := by
  rw [List.getD_eq_getElem?_getD, List.getD_eq_getElem?_getD, List.getElem?_map, List.getElem?_eq_getElem hi]
  rfl
theorem moved_den {q s : Nat} (hq : 0 < q) {ns : List Nat} (hall : ∀ y ∈ ns, y < q) {i : Nat} (hi : i < ns.length) : denM q (ns.map fun p => (p + s) % q) i = denM q ns i := by
  unfold denM
  rw [erase_map, map_getD _ hi, List.map_map]
  congr 1
  apply List.map_congr_left
  intro y hy
  exact moved_sub hq (hall y (List.mem_of_mem_eraseIdx hy))
theorem moved_wt {q s x : Nat} (hq : 0 < q) {ns : List Nat} (hall : ∀ y ∈ ns, y < q) {i : Nat} (hi : i < ns.length) : wtM q (ns.map fun p => (p + s) % q) ((x + s) % q) i = wtM q ns x i := by
  unfold wtM
  rw [moved_den hq hall hi, erase_map, List.map_map]
  congr 1
  apply List.map_congr_left
  intro y hy
  exact moved_sub hq (hall y (List.mem_of_mem_eraseIdx hy))
theorem nodup_map {f : Nat → Nat} {l : List Nat} (hf : ∀ a ∈ l, ∀ b ∈ l, f a = f b → a = b) (h : l.Nodup) : (l.map f).Nodup := by
  induction l with
  | nil => simp
  | cons a l ih =>
    rw [List.nodup_cons] at h
    rw [List.map_cons, List.nodup_cons]
    refine ⟨fun hm => ?_, ih (fun x hx y hy => hf x (by simp [hx]) y (by simp [hy])) h.2⟩
    obtain ⟨b, hb, e⟩ := List.mem_map.1 hm
    exact h.1 (hf a (by simp) b (by simp [hb]) e.symm ▸ hb)
theorem wgOk_of {q : Nat} (hq : 1 < q) {ns : List Nat} {x : Nat} (hn : ns.Nodup) (h0 : 0 < ns.length) (hall : ∀ y ∈ ns, y < q) (hx : x < q) : wgOk q ns x = true := by
  unfold wgOk pointsB mayL
  simp only [Bool.and_eq_true, decide_eq_true_eq, List.all_eq_true, List.mem_cons, List.not_mem_nil, or_false, forall_eq]
  exact ⟨⟨hn, h0, hq, hall⟩, hq, hx⟩
/-- Moved by one number. -/
theorem moved_law {q s x : Nat} (hq : 1 < q) {ns : List Nat} (hn : ns.Nodup) (h0 : 0 < ns.length) (hall : ∀ y ∈ ns, y < q) (her : errM q ns ns.length = 0) :
    wgN q (ns.map fun p => (p + s) % q) ((x + s) % q) = wgM q ns x ∧ wgE q (ns.map fun p => (p + s) % q) ((x + s) % q) = 0 := by
  have hl : (ns.map fun p => (p + s) % q).length = ns.length := List.length_map _
  have hok : wgOk q (ns.map fun p => (p + s) % q) ((x + s) % q) = true := by
    refine wgOk_of hq (nodup_map (fun a ha b hb e => ?_) hn) (by rw [hl]; exact h0) (fun y hy => ?_) (Nat.mod_lt _ (by omega))
    · have h1 : Cg q (a : Int) b := by
        have h2 : Cg q ((a : Int) + s) ((b : Int) + s) := (cg_add q a s).symm.trans ((Cg.of_eq (by rw [e])).trans (cg_add q b s))
        exact (Cg.of_eq (by grind)).trans ((h2.sub (Cg.refl q (s : Int))).trans (Cg.of_eq (by grind)))
      exact h1.eq (hall a ha) (hall b hb)
    · obtain ⟨z, _, rfl⟩ := List.mem_map.1 hy
      exact Nat.mod_lt _ (by omega)
  have her' : errM q (ns.map fun p => (p + s) % q) (ns.map fun p => (p + s) % q).length = 0 := by
    rw [hl]
    exact errM_zero.2 fun i hi => by rw [moved_den (by omega) hall hi]; exact errM_zero.1 her i hi
  unfold wgN wgE
  rw [if_pos hok, if_pos hok, if_pos her', if_pos her']
  refine ⟨?_, rfl⟩
  unfold wgM
  rw [hl]
  apply List.map_congr_left
  intro i hi
  exact moved_wt (by omega) hall (List.mem_range.1 hi)
theorem un_gcd {q a : Nat} (h : Un q (a : Int)) : Nat.gcd a q = 1 := by
  obtain ⟨b, k, h⟩ := h
  have h1 : ((Nat.gcd a q : Nat) : Int) ∣ 1 := by
    have ha : ((Nat.gcd a q : Nat) : Int) ∣ (a : Int) := Int.natCast_dvd_natCast.2 (Nat.gcd_dvd_left a q)
    have hq : ((Nat.gcd a q : Nat) : Int) ∣ (q : Int) := Int.natCast_dvd_natCast.2 (Nat.gcd_dvd_right a q)
    have e : (1 : Int) = (a : Int) * b - (q : Int) * k := by grind
    rw [e]
    exact Int.dvd_sub (Int.dvd_trans ha (Int.dvd_mul_right _ _)) (Int.dvd_trans hq (Int.dvd_mul_right _ _))
  have h2 : Nat.gcd a q ∣ 1 := Int.natCast_dvd_natCast.1 h1
  exact Nat.dvd_one.1 h2
theorem gcd_un {q a : Nat} (hq : 1 < q) (ha : a < q) (h : Nat.gcd a q = 1) : Un q (a : Int) := ⟨_, inv_cg hq ha h⟩
theorem Un.pow {q : Nat} {a : Int} (h : Un q a) : ∀ n : Nat, Un q (a ^ n)
  | 0 => by
    rw [Int.pow_zero]
    exact Un.one q
  | n + 1 => by
    rw [Int.pow_succ]
    exact (Un.pow h n).mul h
theorem pd_many {q : Nat} (u x : Int) {X : Int} (hX : Cg q X (x * u)) : ∀ (l : List Nat) (f : Nat → Nat), (∀ y ∈ l, Cg q (f y : Int) ((y : Int) * u)) → Cg q (pd X (ints (l.map f))) (u ^ l.length * pd x (ints l))
  | [], _, _ => Cg.of_eq (by simp [ints, pd])
  | y :: l, f, h => by
    have ih := pd_many u x hX l f (fun z hz => h z (by simp [hz]))
    have h1 : Cg q (X - (f y : Int)) (u * (x - y)) := (hX.sub (h y (by simp))).trans (Cg.of_eq (by grind))
    show Cg q ((X - (f y : Int)) * pd X (ints (l.map f))) (u ^ (l.length + 1) * ((x - (y : Int)) * pd x (ints l)))
    exact (h1.mul ih).trans (Cg.of_eq (by rw [Int.pow_succ]; grind))
theorem wtM_cg {q : Nat} {ns : List Nat} (hall : ∀ y ∈ ns, y < q) (x i : Nat) : Cg q (wtM q ns x i : Int) ((invN (denM q ns i) q : Nat) * pd x (ints (ns.eraseIdx i))) :=
  prodM_cg (ns.eraseIdx i) _ (le_of_lt_all fun y hy => hall y (List.mem_of_mem_eraseIdx hy))
/-- Many times. -/
theorem many_law {q u x : Nat} (hq : 1 < q) {ns : List Nat} (hn : ns.Nodup) (h0 : 0 < ns.length) (hall : ∀ y ∈ ns, y < q) (hu : u < q) (hg : Nat.gcd u q = 1) (her : errM q ns ns.length = 0) :
    wgN q (ns.map fun p => p * u % q) (x * u % q) = wgM q ns x ∧ wgE q (ns.map fun p => p * u % q) (x * u % q) = 0 := by
  have hl : (ns.map fun p => p * u % q).length = ns.length := List.length_map _
  have hun := gcd_un hq hu hg
  have hall' : ∀ y ∈ ns.map fun p => p * u % q, y < q := fun y hy => by
    obtain ⟨z, _, rfl⟩ := List.mem_map.1 hy
    exact Nat.mod_lt _ (by omega)
  have hok : wgOk q (ns.map fun p => p * u % q) (x * u % q) = true := by
    refine wgOk_of hq (nodup_map (fun a ha b hb e => ?_) hn) (by rw [hl]; exact h0) hall' (Nat.mod_lt _ (by omega))
    have h2 : Cg q ((u : Int) * a) ((u : Int) * b) := (Cg.of_eq (by grind)).trans ((cg_mul q a u).symm.trans ((Cg.of_eq (by rw [e])).trans ((cg_mul q b u).trans (Cg.of_eq (by grind)))))
    exact (hun.cancel h2).eq (hall a ha) (hall b hb)
  have hden : ∀ i, i < ns.length → Cg q (denM q (ns.map fun p => p * u % q) i : Int) ((u : Int) ^ (ns.eraseIdx i).length * denM q ns i) := fun i hi => by
    have h1 := denM_cg hall' i
    rw [erase_map, map_getD _ hi] at h1
    refine h1.trans ((pd_many (u : Int) _ (cg_mul q _ u) _ _ (fun y _ => cg_mul q y u)).trans ?_)
    exact Cg.mul_left _ (denM_cg hall i).symm
  have hinv := errM_zero.1 her
  have hinv' : ∀ i, i < ns.length → Nat.gcd (denM q (ns.map fun p => p * u % q) i) q = 1 := fun i hi =>
    un_gcd (((hun.pow _).mul (gcd_un hq (denM_lt hq ns i) (hinv i hi))).cg (hden i hi).symm)
  have her' : errM q (ns.map fun p => p * u % q) (ns.map fun p => p * u % q).length = 0 := by
    rw [hl]
    exact errM_zero.2 hinv'
  unfold wgN wgE
  rw [if_pos hok, if_pos hok, if_pos her', if_pos her']
  refine ⟨?_, rfl⟩
  unfold wgM
  rw [hl]
  apply List.map_congr_left
  intro i hi
  have hi := List.mem_range.1 hi
  refine Cg.eq ?_ (wtM_lt hq _ _ _) (wtM_lt hq _ _ _)
  refine Un.cancel (gcd_un hq (denM_lt hq ns i) (hinv i hi)) ?_
  have a1 := wtM_cg hall' (x * u % q) i
  rw [erase_map] at a1
  have a2 := pd_many (u : Int) (x : Int) (cg_mul q x u) (ns.eraseIdx i) (fun p => p * u % q) (fun y _ => cg_mul q y u)
  have a3 := inv_cg hq (denM_lt hq _ i) (hinv' i hi)
  have a4 := hden i hi
  have a5 := wtM_cg hall x i
  have a6 := inv_cg hq (denM_lt hq ns i) (hinv i hi)
  have e1 := (Cg.refl q (denM q ns i : Int)).mul (a1.trans ((Cg.refl q _).mul a2))
  have e2 := (((Cg.refl q ((invN (denM q (ns.map fun p => p * u % q) i) q : Nat) : Int)).mul a4.symm)).mul (Cg.refl q (pd x (ints (ns.eraseIdx i))))
  have e3 := a3.mul (Cg.refl q (pd x (ints (ns.eraseIdx i))))
  have e4 := (Cg.refl q (denM q ns i : Int)).mul a5
  have e5 := a6.mul (Cg.refl q (pd x (ints (ns.eraseIdx i))))
  exact e1.trans ((Cg.of_eq (by grind)).trans (e2.trans ((Cg.of_eq (by grind)).trans (e3.trans (e5.symm.trans ((Cg.of_eq (by grind)).trans e4.symm))))))
end Go.Proofs.Ythdanjbgbbcafaa
