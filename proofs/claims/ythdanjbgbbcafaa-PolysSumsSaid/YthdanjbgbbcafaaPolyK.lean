/- polys.Weights: walked. -/
import Derived.Test.YthdanjbgbbcafaaAt
namespace Go.Proofs.Ythdanjbgbbcafaa
open Go Go.RowKit

section
variable {P : Program} {ops : Array Oper} {rows : List Nat} {effs : List Eff} {base : World} {f : Array Value} {F : List (Tmp × Slot) → Prop} {o : Oper} {rest : List Oper} {u : List (Tmp × Slot)} {i : Nat}
theorem kindsR_actL (V : Value → World → Prop) (hV : ∀ v w w', V v w → But rows w w' → V v w') (e : Eff) (he : e ∈ effs) (hi : e.at_ = i) (hg : o.guard = none) (h : ∀ (ρ : Operand → Value) (w : World) (K : Value → World → Prop), But rows base w → e.G w → fitsA u f o.op.operands.toList ρ w → (∀ v w', But rows w w' → e.E w w' → e.F w' → V v w' → K v w') → gives P o ρ w K)
    (hr : wpTypAR P ops rows effs base f F (i + 1) rest (pushSlot u o.dst (.like V))) : wpTypAR P ops rows effs base f F i (o :: rest) u :=
  ⟨.like V, hV, by unfold OblAR; rw [hg]; exact fun ρ w K hw hpre hf hK => h ρ w K hw (hpre e he (.inl hi)) hf (fun v w' hb hE hF hv => hK v w' hb (.inl ⟨e, he, hi, hE, hF⟩) hv), hr⟩
end
/-- An operation that wants the field there, in whatever state. -/
def FieldAny (bf : Nat) (t57 : TypeId) (gr : Array Value) (w : World) : Prop := ∃ x : Int, (x = 0 ∨ x = 1 ∨ x = 7) ∧ Blk w bf t57 (frow gr x)
abbrev effAny (i bf : Nat) (t57 : TypeId) (gr : Array Value) : Eff := ⟨i, fun w w' => Grows w w', FieldAny bf t57 gr, fun _ => True⟩
theorem FieldAny.grow {bf : Nat} {t57 : TypeId} {gr : Array Value} {w w' : World} (h : FieldAny bf t57 gr w) (hg : Grows w w') : FieldAny bf t57 gr w' := by
  obtain ⟨x, hx, B⟩ := h
  exact ⟨x, hx, B.below hg B.lt⟩
theorem FieldAny.cells_ {bf g : Nat} {t57 : TypeId} {gr : Array Value} {w : World} (h : FieldAny bf t57 gr w) (hg : bf ≠ g) (o : Nat) (vs : List Value) : FieldAny bf t57 gr (w.setCells g o vs) := by
  obtain ⟨x, hx, B⟩ := h
  exact ⟨x, hx, B.but (but_setCells (rows := [g]) (List.Mem.head _) vs o w) (notin1 hg)⟩
theorem effs_keep {base : World} {i j bf : Nat} {t57 : TypeId} {gr : Array Value} {e1 e2 : Int} (hij : i ≠ j) (he1 : e1 = 0 ∨ e1 = 1 ∨ e1 = 7) (he2 : e2 = 0 ∨ e2 = 1 ∨ e2 = 7) (B : Blk base bf t57 (frow gr e1)) : Effs [effKeep i bf t57 gr e1 e2, effAny j bf t57 gr] base :=
  effs_pair hij B ⟨e1, he1, B⟩ (fun w _ hg (hG : Blk w bf t57 _) => hG.below hg hG.lt) (fun w _ hg (hG : Blk w bf t57 _) => hG.below hg hG.lt) (fun w _ hg (hG : FieldAny bf t57 gr w) => hG.grow hg) (fun _ _ _ h => h)
    (fun w _ hg (hG : Blk w bf t57 _) => hG.below hg hG.lt) (fun w _ hg (hG : Blk w bf t57 _) => hG.below hg hG.lt) (fun _ _ hE _ => ⟨e2, he2, hE.2⟩) (fun _ _ _ h => h)
theorem effs_weights {base : World} {i j k l bf g p : Nat} {t57 t24 : TypeId} {gr : Array Value} {e1 e2 : Int} {old : List Nat} {x : Nat} (hij : i ≠ j) (hik : i ≠ k) (hil : i ≠ l) (hjk : j ≠ k) (hjl : j ≠ l) (hkl : k ≠ l) (hbg : bf ≠ g) (he1 : e1 = 0 ∨ e1 = 1 ∨ e1 = 7) (he2 : e2 = 0 ∨ e2 = 1 ∨ e2 = 7)
    (B : Blk base bf t57 (frow gr e1)) (G : Blk base g t24 (cellsOf old).toArray) : Effs [effKeep i bf t57 gr e1 e2, effAny j bf t57 gr, effAny k bf t57 gr, effNum l g p t24 old x] base := by
  refine ⟨?_, ?_, ?_, ?_, ?_, ?_⟩
  · intro a ha b hb h
    simp only [List.mem_cons, List.not_mem_nil, or_false] at ha hb
    rcases ha with rfl | rfl | rfl | rfl <;> rcases hb with rfl | rfl | rfl | rfl <;> first | rfl | (simp only at h; omega)
  · intro a ha
    simp only [List.mem_cons, List.not_mem_nil, or_false] at ha
    rcases ha with rfl | rfl | rfl | rfl
    · exact B
    · exact ⟨e1, he1, B⟩
    · exact ⟨e1, he1, B⟩
    · exact G
  · intro a ha w w' hg hG
    simp only [List.mem_cons, List.not_mem_nil, or_false] at ha
    rcases ha with rfl | rfl | rfl | rfl
    · exact Blk.below (w := w) hG hg (Blk.lt hG)
    · exact FieldAny.grow hG hg
    · exact FieldAny.grow hG hg
    · exact Blk.below (w := w) hG hg (Blk.lt hG)
  · intro a ha w w' hg hG
    simp only [List.mem_cons, List.not_mem_nil, or_false] at ha
    rcases ha with rfl | rfl | rfl | rfl
    · exact Blk.below (w := w) hG hg (Blk.lt hG)
    · trivial
    · trivial
    · exact Blk.below (w := w) hG hg (Blk.lt hG)
  · intro a ha b hb hne w w' hE hG
    simp only [List.mem_cons, List.not_mem_nil, or_false] at ha hb
    rcases ha with rfl | rfl | rfl | rfl <;> rcases hb with rfl | rfl | rfl | rfl <;>
      first
        | exact absurd rfl hne
        | exact Blk.below (w := w) hG hE (Blk.lt hG)
        | exact FieldAny.grow hG hE
        | exact ⟨e2, he2, hE.2⟩
        | (obtain rfl := hE; exact Blk.but hG (but_setCells (rows := [g]) (List.Mem.head _) _ _ _) (notin1 hbg))
        | (obtain rfl := hE; exact FieldAny.cells_ hG hbg _ _)
        | exact Blk.but hG hE.1 (notin1 (Ne.symm hbg))
  · intro a ha b hb hne w w' hE hG
    simp only [List.mem_cons, List.not_mem_nil, or_false] at ha hb
    rcases ha with rfl | rfl | rfl | rfl <;> rcases hb with rfl | rfl | rfl | rfl <;>
      first
        | exact absurd rfl hne
        | trivial
        | exact Blk.below (w := w) hG hE (Blk.lt hG)
        | (obtain rfl := hE; exact Blk.but hG (but_setCells (rows := [g]) (List.Mem.head _) _ _ _) (notin1 hbg))
        | exact Blk.but hG hE.1 (notin1 (Ne.symm hbg))
/-- What goes wrong first with the inverses of the first k. -/
def errM (q : Nat) (ns : List Nat) : Nat → Int
  | 0 => 0
  | k + 1 => first (errM q ns k) (noInv q (denM q ns k))
theorem errM_in (q : Nat) (ns : List Nat) : ∀ k, errM q ns k = 0 ∨ errM q ns k = 1 ∨ errM q ns k = 7
  | 0 => .inl rfl
  | k + 1 => first_in (errM_in q ns k) (noInv_in q _)
theorem errM_7 (q : Nat) (ns : List Nat) : ∀ k, errM q ns k = 0 ∨ errM q ns k = 7
  | 0 => .inl rfl
  | k + 1 => by
    unfold errM first noInv
    rcases errM_7 q ns k with h | h
    · rw [h, if_pos rfl]
      split <;> simp
    · rw [h, if_neg (by decide)]
      exact .inr rfl
theorem errM_zero {q : Nat} {ns : List Nat} : ∀ {n : Nat}, errM q ns n = 0 ↔ ∀ i, i < n → Nat.gcd (denM q ns i) q = 1
  | 0 => ⟨fun _ i hi => absurd hi (Nat.not_lt_zero i), fun _ => rfl⟩
  | n + 1 => by
    have ih := @errM_zero q ns n
    unfold errM
    rw [first_zero, ih]
    constructor
    · rintro ⟨h1, h2⟩ i hi
      by_cases e : i = n
      · subst e
        unfold noInv at h2
        split at h2
        · assumption
        · omega
      · exact h1 i (by omega)
    · intro h
      refine ⟨fun i hi => h i (by omega), ?_⟩
      unfold noInv
      rw [if_pos (h n (by omega))]
/-- A weight. -/
noncomputable def wtM (q : Nat) (ns : List Nat) (x i : Nat) : Nat := prodM q (invN (denM q ns i) q) ((ns.eraseIdx i).map fun y => (x + q - y) % q)
noncomputable def wgX (q : Nat) (ns : List Nat) (x k : Nat) : List Nat := (List.range ns.length).map fun i => if i < k then wtM q ns x i else 0
noncomputable def wgM (q : Nat) (ns : List Nat) (x : Nat) : List Nat := (List.range ns.length).map (wtM q ns x)
def wgOk (q : Nat) (ns : List Nat) (x : Nat) : Bool := pointsB q ns && mayL q [x]
noncomputable def wgN (q : Nat) (ns : List Nat) (x : Nat) : List Nat := if wgOk q ns x = true then (if errM q ns ns.length = 0 then wgM q ns x else []) else []
def wgE (q : Nat) (ns : List Nat) (x : Nat) : Int := if wgOk q ns x = true then (if errM q ns ns.length = 0 then 0 else 7) else 1
theorem wgX_zero (q : Nat) (ns : List Nat) (x : Nat) : wgX q ns x 0 = List.replicate ns.length 0 := by
  apply List.ext_getElem (by simp [wgX])
  intro i h1 h2
  simp [wgX]
theorem wgX_len (q : Nat) (ns : List Nat) (x k : Nat) : (wgX q ns x k).length = ns.length := by simp [wgX]
theorem wgX_step (q : Nat) (ns : List Nat) (x k : Nat) : (wgX q ns x k).set k (wtM q ns x k) = wgX q ns x (k + 1) := by
  apply List.ext_getElem (by simp [wgX])
  intro i h1 h2
  rw [List.getElem_set]
  simp only [wgX, List.getElem_map, List.getElem_range]
  by_cases e : k = i
  · subst e
    rw [if_pos rfl, if_pos (by omega)]
  · rw [if_neg e]
    by_cases h : i < k
    · rw [if_pos h, if_pos (by omega)]
    · rw [if_neg h, if_neg (by omega)]
theorem wgX_all (q : Nat) (ns : List Nat) (x : Nat) : wgX q ns x ns.length = wgM q ns x := by
  apply List.ext_getElem (by simp [wgX, wgM])
  intro i h1 h2
  simp only [wgX, wgM, List.getElem_map, List.getElem_range]
  rw [if_pos (by simpa [wgX] using h1)]
theorem invN_le {q : Nat} (hq : 1 < q) (a : Nat) : invN a q < q := invN_lt hq
theorem wtM_lt {q : Nat} (hq : 1 < q) (ns : List Nat) (x i : Nat) : wtM q ns x i < q := prodM_lt hq _ _ (invN_le hq _)
def RowErr (w : World) (t24 : TypeId) (ns : List Nat) (c : Int) (x : Ending) (w' : World) : Prop := ∃ v, x = .returned (.tuple #[v, .int .i64 c]) ∧ NumRow w' w.heap.size t24 v ns ∧ Grows w w'
def PtrRow (base : Nat) (t : TypeId) (cs : Array Value) (v : Value) (w : World) : Prop := ∃ b, base ≤ b ∧ v = .pointer (some ⟨b, 0, none⟩) ∧ Blk w b t cs
theorem PtrRow.grow (base : Nat) (t : TypeId) (cs : Array Value) (v : Value) (w w' : World) (h : PtrRow base t cs v w) (hg : Grows w w') : PtrRow base t cs v w' := by
  obtain ⟨b, h1, h2, h3⟩ := h
  exact ⟨b, h1, h2, h3.below hg h3.lt⟩
def SlRow (base : Nat) (t : TypeId) (n : Nat) (cs : Array Value) (v : Value) (w : World) : Prop := ∃ b, base ≤ b ∧ v = .slice (some ⟨b, 0, none⟩) n n ∧ Blk w b t cs
theorem SlRow.grow (base : Nat) (t : TypeId) (n : Nat) (cs : Array Value) (v : Value) (w w' : World) (h : SlRow base t n cs v w) (hg : Grows w w') : SlRow base t n cs v w' := by
  obtain ⟨b, h1, h2, h3⟩ := h
  exact ⟨b, h1, h2, h3.below hg h3.lt⟩
theorem load_grp {w : World} {g : Nat} {t : TypeId} {gr : Array Value} {q : Nat} (hgr : GroupRow gr q) (B : Blk w g t gr) : (Instr.loadAt 26 (.pointer (some ⟨g, 0, none⟩))).run Try.prog w = .ok (.agg gr) w := by
  have h := run_loadAt_mid (P := Try.prog) w g 0 26 gr.toList _ (fun j v hv => by
    rw [B.cell, Nat.zero_add]
    simpa using hv) Try.underlying26 rfl (by rw [Array.length_toList, hgr.size]; kernel_rfl)
  rw [Array.toArray_toList] at h
  exact h
theorem load_grp_grows {w : World} {g : Nat} {t : TypeId} {gr : Array Value} {q : Nat} (hgr : GroupRow gr q) (B : Blk w g t gr) : ∀ w', Grows w w' → (Instr.loadAt 26 (.pointer (some ⟨g, 0, none⟩))).run Try.prog w' = .ok (.agg gr) w' :=
  fun _ h => load_grp hgr (B.below h B.lt)
theorem build_field (gr : Array Value) (h : gr.size = 16) (w : World) : (Instr.build 57 #[(0, .agg gr)]).run Try.prog w = .ok (.agg (frow gr 0)) w := run_build w _ _ _ (built_field gr h)
end Go.Proofs.Ythdanjbgbbcafaa
