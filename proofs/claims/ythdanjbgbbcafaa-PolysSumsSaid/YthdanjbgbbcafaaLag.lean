/- Polynomials over the numbers below q, plain: values, roots, and the one through given values. -/
namespace Go.Proofs.Ythdanjbgbbcafaa

/-- Two numbers differ by a multiple of q. -/
def Cg (q : Nat) (a b : Int) : Prop := ∃ k : Int, a = b + q * k
theorem Cg.refl (q : Nat) (a : Int) : Cg q a a := ⟨0, by grind⟩
theorem Cg.of_eq {q : Nat} {a b : Int} (h : a = b) : Cg q a b := ⟨0, by grind⟩
theorem Cg.symm {q : Nat} {a b : Int} (h : Cg q a b) : Cg q b a := by
  obtain ⟨k, h⟩ := h
  exact ⟨-k, by grind⟩
theorem Cg.trans {q : Nat} {a b c : Int} (h : Cg q a b) (h' : Cg q b c) : Cg q a c := by
  obtain ⟨k, h⟩ := h
  obtain ⟨l, h'⟩ := h'
  exact ⟨k + l, by grind⟩
theorem Cg.add {q : Nat} {a b c d : Int} (h : Cg q a b) (h' : Cg q c d) : Cg q (a + c) (b + d) := by
  obtain ⟨k, h⟩ := h
  obtain ⟨l, h'⟩ := h'
  exact ⟨k + l, by grind⟩
theorem Cg.sub {q : Nat} {a b c d : Int} (h : Cg q a b) (h' : Cg q c d) : Cg q (a - c) (b - d) := by
  obtain ⟨k, h⟩ := h
  obtain ⟨l, h'⟩ := h'
  exact ⟨k - l, by grind⟩
theorem Cg.mul {q : Nat} {a b c d : Int} (h : Cg q a b) (h' : Cg q c d) : Cg q (a * c) (b * d) := by
  obtain ⟨k, h⟩ := h
  obtain ⟨l, h'⟩ := h'
  exact ⟨b * l + k * d + q * k * l, by grind⟩
theorem Cg.mod (q a : Nat) : Cg q ((a % q : Nat) : Int) (a : Int) := by
  refine ⟨-((a / q : Nat) : Int), ?_⟩
  have h : ((q * (a / q) + a % q : Nat) : Int) = a := by rw [Nat.div_add_mod]
  rw [Int.natCast_add, Int.natCast_mul] at h
  grind
theorem Cg.eq {q a b : Nat} (h : Cg q (a : Int) (b : Int)) (ha : a < q) (hb : b < q) : a = b := by
  obtain ⟨k, h⟩ := h
  have hk : k = 0 := by
    rcases Int.lt_trichotomy k 0 with h0 | h0 | h0
    · have : (q : Int) * (k + 1) ≤ 0 := Int.mul_nonpos_of_nonneg_of_nonpos (by omega) (by omega)
      grind
    · exact h0
    · have : 0 ≤ (q : Int) * (k - 1) := Int.mul_nonneg (by omega) (by omega)
      grind
  subst hk
  omega

/-- A number's inverse is there. -/
def Un (q : Nat) (a : Int) : Prop := ∃ b : Int, Cg q (a * b) 1
theorem Un.left {q : Nat} {a b : Int} (h : Un q (a * b)) : Un q a := by
  obtain ⟨c, h⟩ := h
  exact ⟨b * c, (Cg.of_eq (by grind)).trans h⟩
theorem Un.right {q : Nat} {a b : Int} (h : Un q (a * b)) : Un q b := by
  obtain ⟨c, h⟩ := h
  exact ⟨a * c, (Cg.of_eq (by grind)).trans h⟩
theorem Un.mul {q : Nat} {a b : Int} (h : Un q a) (h' : Un q b) : Un q (a * b) := by
  obtain ⟨c, h⟩ := h
  obtain ⟨d, h'⟩ := h'
  exact ⟨c * d, (Cg.of_eq (show a * b * (c * d) = a * c * (b * d) by grind)).trans ((h.mul h').trans (Cg.of_eq (by grind)))⟩
theorem Un.one (q : Nat) : Un q 1 := ⟨1, Cg.of_eq (by grind)⟩
theorem Un.cg {q : Nat} {a b : Int} (h : Un q a) (e : Cg q a b) : Un q b := by
  obtain ⟨c, h⟩ := h
  exact ⟨c, (e.symm.mul (Cg.refl q c)).trans h⟩
theorem Un.neg {q : Nat} {a : Int} (h : Un q a) : Un q (-a) := by
  obtain ⟨c, h⟩ := h
  exact ⟨-c, (Cg.of_eq (by grind)).trans h⟩
theorem Un.cancel {q : Nat} {a b c : Int} (h : Un q a) (e : Cg q (a * b) (a * c)) : Cg q b c := by
  obtain ⟨d, h⟩ := h
  have h1 : Cg q (a * d * b) b := (h.mul (Cg.refl q b)).trans (Cg.of_eq (by grind))
  have h2 : Cg q (a * d * c) c := (h.mul (Cg.refl q c)).trans (Cg.of_eq (by grind))
  have h3 : Cg q (a * d * b) (a * d * c) := (Cg.of_eq (show a * d * b = d * (a * b) by grind)).trans (((Cg.refl q d).mul e).trans (Cg.of_eq (by grind)))
  exact h1.symm.trans (h3.trans h2)
theorem Un.zero {q : Nat} {a b : Int} (h : Un q a) (e : Cg q (a * b) 0) : Cg q b 0 := h.cancel (e.trans (Cg.of_eq (by grind)))

/-- A polynomial's value. -/
def ev : List Int → Int → Int
  | [], _ => 0
  | c :: p, x => c + x * ev p x
def ints (l : List Nat) : List Int := l.map fun (n : Nat) => (n : Int)
def evN (p : List Nat) (x : Int) : Int := ev (ints p) x
theorem evN_nil (x : Int) : evN [] x = 0 := rfl
theorem evN_cons (c : Nat) (p : List Nat) (x : Int) : evN (c :: p) x = c + x * evN p x := rfl
theorem ev_cg {q : Nat} {x y : Int} (h : Cg q x y) : ∀ p : List Int, Cg q (ev p x) (ev p y)
  | [] => Cg.refl q 0
  | c :: p => (Cg.refl q c).add (h.mul (ev_cg h p))
theorem evN_cg {q : Nat} {x y : Int} (h : Cg q x y) (p : List Nat) : Cg q (evN p x) (evN p y) := ev_cg h _
theorem evN_append (x : Int) : ∀ p r : List Nat, evN (p ++ r) x = evN p x + x ^ p.length * evN r x
  | [], r => by
    show evN r x = 0 + x ^ 0 * evN r x
    grind
  | c :: p, r => by
    rw [List.cons_append, evN_cons, evN_cons, evN_append x p r, List.length_cons]
    grind
/-- Divided by what has a root. -/
def sdiv : List Int → Int → List Int
  | [], _ => []
  | c :: p, x => ev (c :: p) x :: sdiv p x
theorem sdiv_length (x : Int) : ∀ p : List Int, (sdiv p x).length = p.length
  | [] => rfl
  | _ :: p => by simp [sdiv, sdiv_length x p]
theorem sdiv_ev (c x y : Int) : ∀ p : List Int, ev (c :: p) y = ev (c :: p) x + (y - x) * ev (sdiv p x) y
  | [] => by simp [ev, sdiv]
  | d :: p => by
    have h := sdiv_ev d x y p
    simp only [sdiv, ev] at h ⊢
    grind
theorem sdiv_zero {q : Nat} {x : Int} : ∀ p : List Int, (∀ c ∈ sdiv p x, Cg q c 0) → ∀ c ∈ p, Cg q c 0
  | [], _, _, hc => by cases hc
  | [d], h, c, hc => by
    simp only [List.mem_cons, List.not_mem_nil, or_false] at hc
    subst hc
    have := h (ev [c] x) (by simp [sdiv])
    simp only [ev] at this
    exact (Cg.of_eq (by grind)).trans this
  | d :: e :: p, h, c, hc => by
    have h1 := h (ev (d :: e :: p) x) (by simp [sdiv])
    have h2 := h (ev (e :: p) x) (by simp [sdiv])
    rcases List.mem_cons.1 hc with rfl | hc
    · have : Cg q (c + x * ev (e :: p) x - x * ev (e :: p) x) (0 - x * 0) := Cg.sub h1 ((Cg.refl q x).mul h2)
      exact (Cg.of_eq (by grind)).trans (this.trans (Cg.of_eq (by grind)))
    · exact sdiv_zero (e :: p) (fun c hc => h c (by simp only [sdiv] at hc ⊢; exact List.mem_cons_of_mem _ hc)) c hc
/-- As many roots as coefficients: all of these are 0. -/
theorem roots_zero {q : Nat} : ∀ (xs d : List Int), d.length ≤ xs.length → xs.Pairwise (fun a b => Un q (b - a)) → (∀ x ∈ xs, Cg q (ev d x) 0) → ∀ c ∈ d, Cg q c 0
  | _, [], _, _, _, _, hc => by cases hc
  | [], _ :: _, h, _, _, _, _ => by simp at h
  | x :: xs, c :: p, hl, hp, hr, d, hd => by
    rw [List.pairwise_cons] at hp
    have hx := hr x (by simp)
    have hq := roots_zero xs (sdiv p x) (by rw [sdiv_length]; simpa using hl) hp.2 (fun y hy => by
      have h1 := hr y (by simp [hy])
      rw [sdiv_ev c x y p] at h1
      have h2 : Cg q ((y - x) * ev (sdiv p x) y) 0 := by
        have := h1.sub hx
        exact (Cg.of_eq (by grind)).trans (this.trans (Cg.of_eq (by grind)))
      exact (hp.1 y hy).zero h2)
    have hz := sdiv_zero p hq
    have hp0 : Cg q (ev p x) 0 := by
      cases p with
      | nil => exact Cg.refl q 0
      | cons e p => exact hq _ (by simp [sdiv])
    rcases List.mem_cons.1 hd with rfl | hd
    · have : Cg q (d + x * ev p x - x * ev p x) (0 - x * 0) := Cg.sub hx ((Cg.refl q x).mul hp0)
      exact (Cg.of_eq (by grind)).trans (this.trans (Cg.of_eq (by grind)))
    · exact hz d hd
theorem ev_sub (x : Int) : ∀ p r : List Int, p.length = r.length → ev (List.zipWith (fun a b => a - b) p r) x = ev p x - ev r x
  | [], [], _ => by simp [ev]
  | [], _ :: _, h => by simp at h
  | _ :: _, [], h => by simp at h
  | a :: p, b :: r, h => by
    have ih := ev_sub x p r (by simpa using h)
    simp only [List.zipWith_cons_cons, ev, ih]
    grind
/-- Polynomials of one length with the same values at as many points are one. -/
theorem one_poly {q : Nat} {xs : List Int} {p r : List Nat} (hl : p.length = r.length) (hx : p.length ≤ xs.length) (hu : xs.Pairwise (fun a b => Un q (b - a))) (hp : ∀ c ∈ p, c < q) (hr : ∀ c ∈ r, c < q) (he : ∀ x ∈ xs, Cg q (evN p x) (evN r x)) : p = r := by
  have hz := roots_zero xs (List.zipWith (fun a b => a - b) (ints p) (ints r)) (by simp [ints]; omega) hu (fun x hxm => by
    rw [ev_sub x _ _ (by simpa [ints] using hl)]
    exact ((he x hxm).sub (Cg.refl q (evN r x))).trans (Cg.of_eq (by grind)))
  apply List.ext_getElem hl
  intro i h1 h2
  have h3 : Cg q ((p[i] : Int) - (r[i] : Int)) 0 := hz _ (by
    rw [List.mem_iff_getElem]
    exact ⟨i, by simp [ints]; omega, by simp [ints]⟩)
  refine Cg.eq ?_ (hp _ (List.getElem_mem h1)) (hr _ (List.getElem_mem h2))
  exact (Cg.of_eq (by grind)).trans ((h3.add (Cg.refl q (r[i] : Int))).trans (Cg.of_eq (by grind)))

/-- The product of a number less each of a list. -/
def pd (x : Int) : List Int → Int
  | [] => 1
  | y :: l => (x - y) * pd x l
theorem pd_zero {x : Int} : ∀ {l : List Int}, x ∈ l → pd x l = 0
  | y :: l, h => by
    rcases List.mem_cons.1 h with rfl | h
    · simp [pd]
    · simp [pd, pd_zero h]
theorem pd_unit {q : Nat} {x y : Int} : ∀ {l : List Int}, Un q (pd x l) → y ∈ l → Un q (x - y)
  | z :: l, hu, h => by
    rcases List.mem_cons.1 h with rfl | h
    · exact hu.left
    · exact pd_unit hu.right h
theorem pd_cg {q : Nat} {x y : Int} (h : Cg q x y) : ∀ l : List Int, Cg q (pd x l) (pd y l)
  | [] => Cg.refl q 1
  | _ :: l => (h.sub (Cg.refl q _)).mul (pd_cg h l)
/-- A sum. -/
def sm (f : Nat → Int) : Nat → Int
  | 0 => 0
  | n + 1 => sm f n + f n
theorem sm_none {q : Nat} {f : Nat → Int} : ∀ n, (∀ i, i < n → Cg q (f i) 0) → Cg q (sm f n) 0
  | 0, _ => Cg.refl q 0
  | n + 1, h => ((sm_none n (fun i hi => h i (by omega))).add (h n (by omega))).trans (Cg.of_eq (by grind))
theorem sm_one {q : Nat} {f : Nat → Int} {j : Nat} : ∀ n, j < n → (∀ i, i < n → i ≠ j → Cg q (f i) 0) → Cg q (sm f n) (f j)
  | 0, h, _ => absurd h (Nat.not_lt_zero j)
  | n + 1, h, hz => by
    by_cases hj : j = n
    · subst hj
      exact ((sm_none j (fun i hi => hz i (by omega) (by omega))).add (Cg.refl q (f j))).trans (Cg.of_eq (by grind))
    · exact ((sm_one n (by omega) (fun i hi => hz i (by omega))).add (hz n (by omega) (fun e => hj e.symm))).trans (Cg.of_eq (by grind))
theorem sm_cg {q : Nat} {f g : Nat → Int} : ∀ n, (∀ i, i < n → Cg q (f i) (g i)) → Cg q (sm f n) (sm g n)
  | 0, _ => Cg.refl q 0
  | n + 1, h => (sm_cg n (fun i hi => h i (by omega))).add (h n (by omega))
end Go.Proofs.Ythdanjbgbbcafaa
