/- polys: longer; a row of numbers in a block, and one of them stored. -/
import Derived.Test.YthdanjbgbbcafaaPolyH
namespace Go.Proofs.Ythdanjbgbbcafaa
open Go Go.RowKit

/-- Cells laid into a row. -/
def spl (cs : Array Value) : Nat → List Value → Array Value
  | _, [] => cs
  | o, v :: r => spl (cs.setIfInBounds o v) (o + 1) r
theorem Blk.cells_ {g : Nat} {t : TypeId} : ∀ (vs : List Value) (o : Nat) (w : World) (cs : Array Value), Blk w g t cs → Blk (w.setCells g o vs) g t (spl cs o vs)
  | [], _, _, _, h => h
  | v :: r, o, _, _, h => Blk.cells_ r (o + 1) _ _ (h.set_ o v)
theorem but_setCells {rows : List Nat} {g : Nat} (hg : g ∈ rows) : ∀ (vs : List Value) (o : Nat) (w : World), But rows w (w.setCells g o vs)
  | [], _, w => But.refl rows w
  | v :: r, o, _ => (but_setCell (p := ⟨g, o, none⟩) hg v).trans (but_setCells hg r (o + 1) _)
theorem set_cells (a b c d : Value) (x : Nat) (hx : (num x).toList = [a, b, c, d]) : ∀ (l : List Nat) (i : Nat), i < l.length → ((((cellsOf l).set (i * 4) a).set (i * 4 + 1) b).set (i * 4 + 2) c).set (i * 4 + 3) d = cellsOf (l.set i x)
  | [], _, h => by simp at h
  | n :: l, 0, _ => by
    obtain ⟨n0, n1, n2, n3, hn⟩ : ∃ n0 n1 n2 n3 : Value, (num n).toList = [n0, n1, n2, n3] := ⟨_, _, _, _, rfl⟩
    simp only [cellsOf, hn, hx, List.set_cons_zero, List.cons_append, List.nil_append, Nat.zero_mul, Nat.zero_add, List.set_cons_succ]
  | n :: l, i + 1, h => by
    have ih := set_cells a b c d x hx l i (by simpa using h)
    obtain ⟨n0, n1, n2, n3, hn⟩ : ∃ n0 n1 n2 n3 : Value, (num n).toList = [n0, n1, n2, n3] := ⟨_, _, _, _, rfl⟩
    simp only [cellsOf, hn, List.cons_append, List.nil_append, List.set_cons_succ, ← ih]
    rw [show (i + 1) * 4 = i * 4 + 3 + 1 by omega]
    simp only [List.set_cons_succ, Nat.add_assoc, Nat.reduceAdd]
theorem spl_num (x : Nat) (l : List Nat) (i : Nat) (hi : i < l.length) : spl (cellsOf l).toArray (i * 4) (num x).toList = (cellsOf (l.set i x)).toArray := by
  obtain ⟨a, b, c, d, hx⟩ : ∃ a b c d : Value, (num x).toList = [a, b, c, d] := ⟨_, _, _, _, rfl⟩
  rw [hx]
  simp only [spl, List.setIfInBounds_toArray]
  rw [← set_cells a b c d x hx l i hi]
theorem Blk.there {w : World} {g : Nat} {t : TypeId} {cs : Array Value} (h : Blk w g t cs) {o n : Nat} (hn : o + n ≤ cs.size) : w.there g o n := fun j hj => ⟨by
  rw [h.cell, Array.getElem?_eq_getElem (by omega)]
  rfl, h.frozen _⟩
theorem Blk.numAt {w : World} {g : Nat} {t : TypeId} {ns : List Nat} (h : Blk w g t (cellsOf ns).toArray) {i x : Nat} (hx : ns[i]? = some x) : w.rangeAt g (i * 4) (num x).toList := fun j v hv => by
  rw [h.cell]
  simpa using cellsOf_at hx hv
theorem Blk.put_num {w : World} {g : Nat} {t : TypeId} {ns : List Nat} (h : Blk w g t (cellsOf ns).toArray) {i : Nat} (x : Nat) (hi : i < ns.length) : Blk (w.setCells g (i * 4) (num x).toList) g t (cellsOf (ns.set i x)).toArray := by
  have := Blk.cells_ (num x).toList (i * 4) w _ h
  rw [spl_num x ns i hi] at this
  exact this
theorem Blk.room {w : World} {g : Nat} {t : TypeId} {ns : List Nat} (h : Blk w g t (cellsOf ns).toArray) {i : Nat} (x : Nat) (hi : i < ns.length) : w.there g (i * 4) (num x).size :=
  h.there (by rw [num_size, List.size_toArray, cellsOf_length]; omega)
theorem NumRow.of_blk {w : World} {g base : Nat} {t : TypeId} {ns : List Nat} (h : Blk w g t (cellsOf ns).toArray) (hb : base ≤ g) (hl : ∀ x ∈ ns, x < big) (hm : ns.length ≤ maxLen) : NumRow w base t (.slice (some ⟨g, 0, none⟩) ns.length ns.length) ns :=
  ⟨⟨cellsOf_length ns, .inr ⟨g, ns.length, _, rfl, hb, h, Nat.le_refl _, hm, by rw [List.size_toArray, cellsOf_length], List.take_of_length_le (by rw [cellsOf_length]; omega)⟩⟩, hl⟩
theorem NumsAt.of_blk {w : World} {g : Nat} {t : TypeId} {ns : List Nat} (h : Blk w g t (cellsOf ns).toArray) (hl : ∀ x ∈ ns, x < big) : NumsAt w (some ⟨g, 0, none⟩) ns := fun i x hx => ⟨hl x (List.mem_of_getElem? hx), g, 0, rfl, h.lt, by rw [Nat.zero_add]; exact h.numAt hx⟩
theorem cellsOf_zeros : ∀ n : Nat, cellsOf (List.replicate n 0) = List.replicate (n * 4) (uw 0)
  | 0 => rfl
  | n + 1 => by
    rw [List.replicate_succ, cellsOf, cellsOf_zeros n, num_zero, show (n + 1) * 4 = n * 4 + 1 + 1 + 1 + 1 by omega]
    rfl
theorem made_zeros (n : Nat) : madeCells nought (n * 4) = (cellsOf (List.replicate n 0)).toArray := by
  rw [cellsOf_zeros]
  apply Array.ext (by simp [madeCells])
  intro i h1 h2
  have h3 : i % 4 = 0 ∨ i % 4 = 1 ∨ i % 4 = 2 ∨ i % 4 = 3 := by omega
  simp only [madeCells, Array.getElem_map, Array.getElem_range, List.getElem_toArray, List.getElem_replicate, show nought.size = 4 from rfl]
  rcases h3 with h | h | h | h <;> rw [h] <;> rfl
theorem make_nums (n : Nat) (hn : n ≤ 1000000) (w : World) : (Instr.makeSlice 27 (.int .i64 (n : Int)) (.int .i64 (n : Int))).run Try.prog w = .ok (.slice (some ⟨w.heap.size, 0, none⟩) n n) (w.alloc (.cells (cellsOf (List.replicate n 0)).toArray 24)) := by
  obtain ⟨i0, hi0, hi1, hi2, hi3⟩ := info_parts info_num
  have h := run_make_rowN (P := Try.prog) 27 24 i0 (.agg nought) Try.underlying27 hi0 hi1 .i64 .i64 n n (Nat.le_refl _) (by rw [hi3]; omega) (by omega) w
  rw [hi2, show (Value.agg nought).cells = nought from rfl, made_zeros] at h
  exact h
section
variable {P : Program} {ops : Array Oper} {rows : List Nat} {effs : List Eff} {base : World} {f : Array Value} {F : List (Tmp × Slot) → Prop} {o : Oper} {rest : List Oper} {u : List (Tmp × Slot)} {i : Nat}
/-- A number stored into a row of them. -/
abbrev effNum (i g k : Nat) (t : TypeId) (old : List Nat) (x : Nat) : Eff := ⟨i, fun w w' => w' = w.setCells g (k * 4) (num x).toList, fun w => Blk w g t (cellsOf old).toArray, fun w => Blk w g t (cellsOf (old.set k x)).toArray⟩
theorem effs_num {base : World} {i g k : Nat} {t : TypeId} {old : List Nat} {x : Nat} (B : Blk base g t (cellsOf old).toArray) : Effs [effNum i g k t old x] base :=
  effs_one B (fun w _ hg (hG : Blk w g t _) => hG.below hg hG.lt) (fun w _ hg (hG : Blk w g t _) => hG.below hg hG.lt)
theorem kindsR_num (tp tv : Tmp) (ty : TypeId) (g k : Nat) (t : TypeId) (old : List Nat) (x : Nat) (hg : o.guard = none) (hd : o.dst = none) (ho : o.op = .store ty (.tmp tp) (.tmp tv)) (hlp : look u f tp = .is (.pointer (some ⟨g, k * 4, none⟩))) (hlv : look u f tv = .is (.agg (num x)))
    (hm : effNum i g k t old x ∈ effs) (hgr : g ∈ rows) (hi : (P.info? ty).map (·.size) = some 4) (hk : k < old.length)
    (hr : wpTypAR P ops rows effs base f F (i + 1) rest u) : wpTypAR P ops rows effs base f F i (o :: rest) u := by
  refine ⟨.is undef, Slot.stableR_is _ _, ?_, by rw [hd]; exact hr⟩
  unfold OblAR
  rw [hg]
  intro ρ w K hw hpre hf hK
  rw [ho] at hf
  have e1 : ρ (.tmp tp) = .pointer (some ⟨g, k * 4, none⟩) := by
    have : (look u f tp).holds (ρ (.tmp tp)) w := hf.1
    rw [hlp] at this
    exact this
  have e2 : ρ (.tmp tv) = .agg (num x) := by
    have : (look u f tv).holds (ρ (.tmp tv)) w := hf.2.1
    rw [hlv] at this
    exact this
  have hB : Blk w g t (cellsOf old).toArray := hpre _ hm (.inl rfl)
  have key := run_storeAt_mid (P := P) w g (k * 4) ty (num x) (hB.room x hk) (by rw [num_size]; exact hi) (num_one x)
  unfold gives execOp
  simp only [ho, Sem.run_bind, e1, e2, key, Result.andThen_ok, Sem.run_pure]
  exact hK undef _ (but_setCells hgr _ _ _) (.inl ⟨_, hm, rfl, rfl, hB.put_num x hk⟩) rfl
end
theorem load_butNum {w : World} {b o x : Nat} {rows : List Nat} (hlt : b < w.heap.size) (HR : w.rangeAt b o (num x).toList) (hb : b ∉ rows) : ∀ w', But rows w w' → (Instr.loadAt 24 (.pointer (some ⟨b, o, none⟩))).run Try.prog w' = .ok (.agg (num x)) w' := fun w' hg => by
  have h := run_loadAt_mid (P := Try.prog) w' b o 24 (num x).toList _ (fun j v hv => by
    have := HR j v hv
    unfold World.cell? at this ⊢
    rw [hg.block b hlt hb]
    exact this) Try.underlying24 rfl (by rw [Array.length_toList, num_size]; exact info4)
  rw [Array.toArray_toList] at h
  exact h
theorem load_at {w : World} {b o x : Nat} (HR : w.rangeAt b o (num x).toList) : (Instr.loadAt 24 (.pointer (some ⟨b, o, none⟩))).run Try.prog w = .ok (.agg (num x)) w := by
  have h := run_loadAt_mid (P := Try.prog) w b o 24 (num x).toList _ HR Try.underlying24 rfl (by rw [Array.length_toList, num_size]; exact info4)
  rw [Array.toArray_toList] at h
  exact h

/-- A polynomial, times x less a number. -/
def lonM (q b : Nat) : Nat → List Nat → List Nat
  | c, [] => [c]
  | c, y :: p => (c + q - y * b % q) % q :: lonM q b y p
def prv (c : Nat) (p : List Nat) (j : Nat) : Nat := (c :: p).getD j 0
theorem lonM_len (q b : Nat) : ∀ (p : List Nat) (c : Nat), (lonM q b c p).length = p.length + 1
  | [], _ => rfl
  | _ :: p, _ => by rw [lonM, List.length_cons, lonM_len q b p, List.length_cons]
theorem lonM_at (q b : Nat) : ∀ (p : List Nat) (c j : Nat), j ≤ p.length → (lonM q b c p)[j]? = some (if j < p.length then (prv c p j + q - p.getD j 0 * b % q) % q else prv c p j)
  | [], c, j, h => by
    obtain rfl : j = 0 := by simpa using h
    rfl
  | y :: p, c, 0, _ => by simp [lonM, prv]
  | y :: p, c, j + 1, h => by
    rw [lonM, List.getElem?_cons_succ, lonM_at q b p y j (by simpa using h)]
    simp [prv]
def lonX (q b : Nat) (p : List Nat) (k : Nat) : List Nat := (List.range (p.length + 1)).map fun j => if j < k then (prv 0 p j + q - p.getD j 0 * b % q) % q else if j = k then prv 0 p j else 0
theorem lonX_len (q b : Nat) (p : List Nat) (k : Nat) : (lonX q b p k).length = p.length + 1 := by simp [lonX]
theorem lonX_zero (q b : Nat) (p : List Nat) : lonX q b p 0 = List.replicate (p.length + 1) 0 := by
  apply List.ext_getElem (by simp [lonX])
  intro i h1 h2
  simp only [lonX, List.getElem_map, List.getElem_range, List.getElem_replicate]
  rw [if_neg (by omega)]
  split
  · rename_i h; subst h; rfl
  · rfl
theorem lonX_at (q b : Nat) (p : List Nat) (k : Nat) (h : k ≤ p.length) : (lonX q b p k)[k]? = some (prv 0 p k) := by
  unfold lonX
  rw [List.getElem?_map, List.getElem?_range (by omega)]
  simp
theorem lonX_step (q b : Nat) (p : List Nat) (k y : Nat) (hy : p[k]? = some y) : ((lonX q b p k).set k ((prv 0 p k + q - y * b % q) % q)).set (k + 1) y = lonX q b p (k + 1) := by
  have hlt := (List.getElem?_eq_some_iff.1 hy).1
  have hyd : p.getD k 0 = y := by rw [List.getD_eq_getElem?_getD, hy]; rfl
  apply List.ext_getElem (by simp [lonX])
  intro i h1 h2
  rw [List.getElem_set, List.getElem_set]
  simp only [lonX, List.getElem_map, List.getElem_range]
  by_cases e1 : k + 1 = i
  · subst e1
    rw [if_pos rfl, if_neg (by omega), if_pos rfl]
    show y = (0 :: p).getD (k + 1) 0
    rw [List.getD_cons_succ, hyd]
  · rw [if_neg e1]
    by_cases e2 : k = i
    · subst e2
      rw [if_pos rfl, if_pos (by omega), hyd]
    · rw [if_neg e2]
      by_cases e3 : i < k
      · rw [if_pos e3, if_pos (by omega)]
      · rw [if_neg e3, if_neg (by omega), if_neg (by omega), if_neg (by omega)]
theorem lonX_all (q b : Nat) (p : List Nat) : lonX q b p p.length = lonM q b 0 p := by
  apply List.ext_getElem?
  intro i
  by_cases hi : i ≤ p.length
  · rw [lonM_at q b p 0 i hi]
    unfold lonX
    rw [List.getElem?_map, List.getElem?_range (by omega)]
    simp only [Option.map_some]
    by_cases h : i < p.length
    · rw [if_pos h, if_pos h]
    · rw [if_neg h, if_neg h, if_pos (by omega)]
  · rw [List.getElem?_eq_none (by rw [lonX_len]; omega), List.getElem?_eq_none (by rw [lonM_len]; omega)]
theorem prv_lt {q : Nat} (hq : 1 < q) {p : List Nat} (hp : ∀ y ∈ p, y < q) {j : Nat} (hj : j ≤ p.length) : prv 0 p j < q := by
  cases j with
  | zero => show 0 < q; omega
  | succ j =>
    show p.getD j 0 < q
    rw [List.getD_eq_getElem?_getD, List.getElem?_eq_getElem (by omega)]
    exact hp _ (List.getElem_mem _)
theorem lonM_lt {q b : Nat} (hq : 1 < q) : ∀ (p : List Nat) (c : Nat), c < q → (∀ y ∈ p, y < q) → ∀ x ∈ lonM q b c p, x < q
  | [], c, hc, _, x, hx => by
    simp only [lonM, List.mem_cons, List.not_mem_nil, or_false] at hx
    subst hx
    exact hc
  | y :: p, c, hc, hp, x, hx => by
    rw [lonM] at hx
    rcases List.mem_cons.1 hx with rfl | hx
    · exact Nat.mod_lt _ (by omega)
    · exact lonM_lt hq p y (hp y (by simp)) (fun z hz => hp z (by simp [hz])) x hx
def LonRel (w : World) (n b : Nat) (t24 : TypeId) (sts : Nat → List Nat) (vi : Value) (wr : World) : Prop :=
  ∃ k : Nat, k ≤ n ∧ vi = .int .i64 (k : Nat) ∧ Grows w wr ∧ Blk wr w.heap.size t24 (num b) ∧ Blk wr (w.heap.size + 1) t24 (cellsOf (sts k)).toArray
set_option maxRecDepth 100000 in
set_option maxHeartbeats 4000000 in
theorem longer_in (gr : Array Value) (q b bf : Nat) (e : Int) (hgr : GroupRow gr q) (he : e = 0 ∨ e = 1 ∨ e = 7) (hq : 1 < q) (hb : b < q) (A : Option Addr) (cap : Nat) (ns : List Nat) (hall : ∀ y ∈ ns, y < q) (hlen : ns.length ≤ 1000) (w : World) (hns : NumsAt w A ns) (BF : Blk w bf 57 (frow gr e)) :
    Calls Try.prog 28 #[.pointer (some ⟨bf, 0, none⟩), .slice A ns.length cap, .agg (num b)] w (RowEnds w 24 (lonM q b 0 ns)) := by
  have hbf := BF.lt
  have hres : ∀ w', Blk w' (w.heap.size + 1) 24 (cellsOf (lonX q b ns ns.length)).toArray → NumRow w' w.heap.size 24 (.slice (some ⟨w.heap.size + 1, 0, none⟩) (ns.length + 1) (ns.length + 1)) (lonM q b 0 ns) := fun w' B => by
    rw [lonX_all] at B
    have h := NumRow.of_blk (base := w.heap.size) B (by omega) (fun x hx => Nat.lt_trans (lonM_lt hq ns 0 (by omega) hall x hx) hgr.lt) (by rw [lonM_len]; unfold maxLen; omega)
    rwa [lonM_len] at h
  have hst0 := lonX_zero q b ns
  have hat := fun k (hk : k ≤ ns.length) => lonX_at q b ns k hk
  have hstep := fun k y (hy : ns[k]? = some y) => lonX_step q b ns k y hy
  have hsl := lonX_len q b ns
  have hprv := fun k (hk : k ≤ ns.length) => prv_lt hq hall hk
  generalize lonX q b ns = sts at *
  generalize prv 0 ns = pv at *
  generalize hn : ns.length = n at *
  have hmk : ∀ W : World, (Instr.makeSlice 27 (.int .i64 ((n : Int) + 1)) (.int .i64 ((n : Int) + 1))).run Try.prog W = .ok (.slice (some ⟨W.heap.size, 0, none⟩) (n + 1) (n + 1)) (W.alloc (.cells (cellsOf (List.replicate (n + 1) 0)).toArray 24)) := fun W => make_nums (n + 1) (by omega) W
  have HN := hide hn
  have HRES := hide hres
  have HALL := hide hall
  have HAT := hide hat
  have HSTEP := hide hstep
  have HSL := hide hsl
  have HPRV := hide hprv
  have HNS := hide hns
  clear hn hres hall hat hstep hsl hprv hns
  go_enter Try.func28, Try.ntmps28
  go_upto_region 2 with fail
  have a1 := (Blk.new w 24 (num b)).alloc (.cells (cellsOf (List.replicate (n + 1) 0)).toArray 24)
  have r1 := Blk.new (w.alloc (.cells (num b) 24)) 24 (cellsOf (List.replicate (n + 1) 0)).toArray
  simp only [World.size_alloc] at r1
  have hL0 : Grows w ((w.alloc (.cells (num b) 24)).alloc (.cells (cellsOf (List.replicate (n + 1) 0)).toArray 24)) := ((Below.refl _ _).alloc (Nat.le_refl _) _).alloc (by simp) _
  change Code.wp _ _ _ _ ((w.alloc (.cells (num b) 24)).alloc (.cells (cellsOf (List.replicate (n + 1) 0)).toArray 24))
  generalize (w.alloc (.cells (num b) 24)).alloc (.cells (cellsOf (List.replicate (n + 1) 0)).toArray 24) = w1 at *
  rw [← hst0] at r1
  have HST : Keep (LonRel w n b 24 sts (.int .i64 (0 : Nat)) w1) := ⟨⟨0, Nat.zero_le _, rfl, hL0, a1, r1⟩⟩
  have HF := hide BF
  clear a1 r1 hL0 hst0 BF hmk
  go_wp2_with fail
  go_loopw [15] (fun vi wr => LonRel w n b 24 sts vi wr) (fun i _ => n - (intOf i).toNat)
  case atStart => exact HST.out
  case round =>
    clear HST
    obtain ⟨k, hk, rfl, hL, hA, hR⟩ := hrel
    have KL := hide hL
    have KA := hide hA
    have KR := hide hR
    clear hL hA hR
    by_cases hkn : k < n
    · obtain ⟨y, hy⟩ : ∃ y, ns[k]? = some y := ⟨_, List.getElem?_eq_getElem (by have := HN.out; omega)⟩
      have hyq := HALL.out y (List.mem_of_getElem? hy)
      obtain ⟨hyb, ba, o, eA, hlt, hrng⟩ := HNS.out k y hy
      subst eA
      have hst := HSTEP.out k y hy
      have hcq := HPRV.out k hk
      have hck := HAT.out k hk
      have hlk := HSL.out k
      generalize pv k = c at *
      have hpq : y * b % q < q := Nat.mod_lt _ (by omega)
      have hdq : (c + q - y * b % q) % q < q := Nat.mod_lt _ (by omega)
      have hszw := KL.out.size
      have hd : But [w.heap.size + 1] w wr.drew := But.of_grows (Grows.trans KL.out (Below.drew (Below.refl _ wr)))
      have HTIMES : Keep (∀ w', But [w.heap.size + 1] wr.drew w' → Calls Try.prog 26 #[.pointer (some ⟨bf, 0, none⟩), .agg (num y), .agg (num b)] w' (NumEnds w' (y * b % q))) := ⟨fun w' hg => timesF_in gr q y b bf e hgr he hq hyq hb w' (HF.out.but (hd.trans hg) (notin1 (by omega)))⟩
      have HLESS : Keep (∀ w', But [w.heap.size + 1] wr.drew w' → Calls Try.prog 50 #[.pointer (some ⟨bf, 0, none⟩), .agg (num c), .agg (num (y * b % q))] w' (NumEnds w' ((c + q - y * b % q) % q))) := ⟨fun w' hg => lessF_in gr q c _ bf e hgr he hq hcq hpq w' (HF.out.but (hd.trans hg) (notin1 (by omega)))⟩
      generalize y * b % q = p at *
      generalize (c + q - p) % q = d at *
      have HST := hide hst
      have HCK := hide hck
      have HLK := hide hlk
      have lb := load_butN (rows := [w.heap.size + 1]) (Blk.drew KA.out) (notin1 (by omega))
      have ly : ∀ w', But [w.heap.size + 1] wr.drew w' → _ := fun w' hg => load_butNum hlt hrng (notin1 (by omega)) w' (hd.trans hg)
      have HRNG := hide (show wr.rangeAt ba (o + k * 4) (num y).toList from fun j v hv => by
        have := hrng j v hv
        unfold World.cell? at this ⊢
        rw [KL.out.block ba hlt]
        exact this)
      have hbaw := hlt
      clear hrng hy hst hck hlk hlt
      go_upto_region 5 with fail
      refine wp_region_kindsR [w.heap.size + 1] [effNum 16 (w.heap.size + 1) k 24 (sts k) d] (by kernel_rfl) (by kernel_rfl) (effs_num KR.out.drew) rfl (fun F hF => ?_)
      repeat (first
        | refine kindsR_move_is _ rfl rfl (Or.inl rfl) rfl ?_
        | refine kindsR_move_is _ rfl rfl (Or.inr rfl) rfl ?_
        | refine kindsR_preload 23 24 (effNum 16 (w.heap.size + 1) k 24 (sts k) d) (List.Mem.head _) (by kernel_rfl) rfl rfl rfl rfl (fun w' hG => load_at (Blk.numAt hG HCK.out)) ?_
        | refine kindsR_load 28 24 rfl rfl rfl rfl ly ?_
        | refine kindsR_load 5 24 rfl rfl rfl rfl lb ?_
        | refine kindsR_num 33 32 24 (w.heap.size + 1) k 24 (sts k) d rfl rfl rfl rfl rfl (List.Mem.head _) (List.Mem.head _) info4 (by rw [HLK.out]; omega) ?_
        | (apply kindsR_is rfl rfl
           · intro ρ wv K hw hf hK
             first | obtain ⟨e0, e1, e2, e3, e4, e5, e6, -⟩ := hf | obtain ⟨e0, e1, e2, e3, e4, e5, -⟩ := hf | obtain ⟨e0, e1, e2, e3, e4, -⟩ := hf | obtain ⟨e0, e1, e2, e3, -⟩ := hf | obtain ⟨e0, e1, e2, -⟩ := hf | obtain ⟨e0, e1, -⟩ := hf | obtain ⟨e0, -⟩ := hf | clear hf
             (try change ρ _ = _ at e0)
             (try change ρ _ = _ at e1)
             (try change ρ _ = _ at e2)
             (try change ρ _ = _ at e3)
             unfold gives
             go_simp
             first
               | (change Calls _ _ _ _ _; (go_at_call 26; (with_reducible refine (HTIMES.out _ hw).mono ?_); rintro e w' ⟨rfl, hb⟩; exact ⟨_, rfl, hK _ hb⟩))
               | (change Calls _ _ _ _ _; (go_at_call 50; (with_reducible refine (HLESS.out _ hw).mono ?_); rintro e w' ⟨rfl, hb⟩; exact ⟨_, rfl, hK _ hb⟩))
               | ((try go_ints); (try rw [if_pos (by omega)]); exact hK _ (Grows.refl _))))
      refine kindsR_nil (hF _ rfl rfl (fun ww hg hfx => ?_))
      clear hF F
      simp only [pushSlot, finish, Act.put, List.setIfInBounds_toArray, List.set_cons_succ, List.set_cons_zero]
      have hR2 : Blk ww (w.heap.size + 1) 24 (cellsOf ((sts k).set k d)).toArray := hfx _ (List.Mem.head _)
      have KR2 := hide hR2
      have KA2 := hide ((Blk.drew KA.out).but hg (notin1 (by omega)))
      have KL2 := hide (But.below (Below.drew KL.out) hg hszw (by simp))
      have HRNG2 := hide (show ww.rangeAt ba (o + k * 4) (num y).toList from fun j v hv => by
        have := HRNG.out j v hv
        unfold World.cell? at this ⊢
        rw [hg.block ba (Nat.lt_of_lt_of_le hbaw hszw) (notin1 (by omega))]
        exact this)
      have hlk2 : k + 1 < ((sts k).set k d).length := by rw [List.length_set, HLK.out]; omega
      clear hR2 hg hfx lb ly hd HTIMES HLESS KL KA KR HRNG
      go_wp2_with (first | (refine wpList_load_mid rfl 24 _ rfl ba (o + k * 4) rfl (num y).toList _ HRNG2.out Try.underlying24 rfl info4 ?_) | (refine wpList_store_mid rfl 24 (.tmp 41) (.tmp 40) rfl (w.heap.size + 1) ((k + 1) * 4) (num y) rfl rfl (KR2.out.room y hlk2) info4 (num_one _) ?_))
      have hR3 := KR2.out.put_num y hlk2
      rw [HST.out] at hR3
      have KR3 := hide hR3
      have KA3 := hide (KA2.out.but (but_setCells (rows := [w.heap.size + 1]) (List.Mem.head _) (num y).toList ((k + 1) * 4) ww) (notin1 (by omega)))
      have KL3 := hide (But.below KL2.out (but_setCells (rows := [w.heap.size + 1]) (List.Mem.head _) (num y).toList ((k + 1) * 4) ww) KL2.out.size (by simp))
      clear hR3 KR2 KA2 KL2
      go_wp2_with fail
      go_roundw
      case rel => exact ⟨k + 1, by omega, by go_num, KL3.out, KA3.out, KR3.out⟩
      case measure => simp [intOf]; omega
    · have hkn' : k = n := by omega
      clear hkn
      subst hkn'
      go_wp2_with fail
      try rw [Exit.noGoto_ret]
      exact bodyPost_ret (by kernel_rfl) rfl ⟨_, rfl, HRES.out _ KR.out, KL.out⟩
end Go.Proofs.Ythdanjbgbbcafaa
