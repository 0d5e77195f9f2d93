/- polys: plus, less, times, under of a field (printed by gen_polyb.py). -/
import Derived.Test.YthdanjbgbbcafaaPolyA
namespace Go.Proofs.Ythdanjbgbbcafaa
open Go Go.RowKit

theorem But.wider {rows rows' : List Nat} {w w' : World} (h : But rows w w') (hr : ∀ g ∈ rows, g ∈ rows') : But rows' w w' :=
  ⟨h.os, h.tape, h.output, h.size, fun k hk hn => h.block k hk (fun hm => hn (hr k hm))⟩
abbrev effSee (i bf : Nat) (t57 : TypeId) (gr : Array Value) : Eff := ⟨i, fun w w' => Grows w w', fun w => ∃ x, Blk w bf t57 (frow gr x), fun _ => True⟩
abbrev effKeep (i bf : Nat) (t57 : TypeId) (gr : Array Value) (e1 e2 : Int) : Eff := ⟨i, fun w w' => But [bf] w w' ∧ Blk w' bf t57 (frow gr e2), fun w => Blk w bf t57 (frow gr e1), fun w => Blk w bf t57 (frow gr e2)⟩
theorem effs_field {base : World} {i j k bf R : Nat} {t57 t24 : TypeId} {gr old cs : Array Value} {e1 e2 : Int} (hij : i ≠ j) (hik : i ≠ k) (hjk : j ≠ k) (hR : R ≠ bf) (BF : Blk base bf t57 (frow gr e1)) (BR : Blk base R t24 old) :
    Effs [effSee i bf t57 gr, effKeep j bf t57 gr e1 e2, effRow k R t24 old cs] base := by
  refine ⟨?_, ?_, ?_, ?_, ?_, ?_⟩
  · intro a ha b hb h
    simp only [List.mem_cons, List.not_mem_nil, or_false] at ha hb
    rcases ha with rfl | rfl | rfl <;> rcases hb with rfl | rfl | rfl <;> first | rfl | exact absurd h hij | exact absurd h hik | exact absurd h hjk | exact absurd h.symm hij | exact absurd h.symm hik | exact absurd h.symm hjk
  · intro a ha
    simp only [List.mem_cons, List.not_mem_nil, or_false] at ha
    rcases ha with rfl | rfl | rfl
    · exact ⟨e1, BF⟩
    · exact BF
    · exact BR
  · intro a ha w w' hg hG
    simp only [List.mem_cons, List.not_mem_nil, or_false] at ha
    rcases ha with rfl | rfl | rfl
    · obtain ⟨x, hx⟩ := hG
      exact ⟨x, Blk.below (w := w) hx hg (Blk.lt hx)⟩
    · exact Blk.below (w := w) hG hg (Blk.lt hG)
    · exact Blk.below (w := w) hG hg (Blk.lt hG)
  · intro a ha w w' hg hG
    simp only [List.mem_cons, List.not_mem_nil, or_false] at ha
    rcases ha with rfl | rfl | rfl
    · trivial
    · exact Blk.below (w := w) hG hg (Blk.lt hG)
    · exact Blk.below (w := w) hG hg (Blk.lt hG)
  · intro a ha b hb hne w w' hE hG
    simp only [List.mem_cons, List.not_mem_nil, or_false] at ha hb
    rcases ha with rfl | rfl | rfl <;> rcases hb with rfl | rfl | rfl
    · exact absurd rfl hne
    · exact ⟨e2, hE.2⟩
    · obtain ⟨x, hx⟩ := hG
      obtain rfl := hE
      exact ⟨x, Blk.setRow_far hx (Ne.symm hR) _⟩
    · exact Blk.below (w := w) hG hE (Blk.lt hG)
    · exact absurd rfl hne
    · obtain rfl := hE
      exact Blk.setRow_far hG (Ne.symm hR) _
    · exact Blk.below (w := w) hG hE (Blk.lt hG)
    · exact Blk.but hG hE.1 (notin1 hR)
    · exact absurd rfl hne
  · intro a ha b hb hne w w' hE hG
    simp only [List.mem_cons, List.not_mem_nil, or_false] at ha hb
    rcases ha with rfl | rfl | rfl <;> rcases hb with rfl | rfl | rfl
    · exact absurd rfl hne
    · trivial
    · trivial
    · exact Blk.below (w := w) hG hE (Blk.lt hG)
    · exact absurd rfl hne
    · obtain rfl := hE
      exact Blk.setRow_far hG (Ne.symm hR) _
    · exact Blk.below (w := w) hG hE (Blk.lt hG)
    · exact Blk.but hG hE.1 (notin1 hR)
    · exact absurd rfl hne
section
variable {P : Program} {ops : Array Oper} {rows : List Nat} {effs : List Eff} {base : World} {f : Array Value} {F : List (Tmp × Slot) → Prop} {o : Oper} {rest : List Oper} {u : List (Tmp × Slot)} {i : Nat}
/-- A load under an effect of its own place: it sees what no one changes. -/
theorem kindsR_see (t : Tmp) (ty : TypeId) {q v : Value} (e : Eff) (he : e ∈ effs) (hi : e.at_ = i) (hE : ∀ w, e.E w w) (hF : ∀ w, e.F w) (hg : o.guard = none) (ho : o.op = .load ty (.tmp t)) (hl : look u f t = .is q) (h : ∀ w', e.G w' → (Instr.loadAt ty q).run P w' = .ok v w')
    (hr : wpTypAR P ops rows effs base f F (i + 1) rest (pushSlot u o.dst (.is v))) : wpTypAR P ops rows effs base f F i (o :: rest) u := by
  refine ⟨.is v, Slot.stableR_is _ v, ?_, hr⟩
  unfold OblAR
  rw [hg]
  intro ρ w K hw hpre hf hK
  rw [ho] at hf
  have hs : (look u f t).holds (ρ (.tmp t)) w := hf.1
  rw [hl] at hs
  have eq : ρ (.tmp t) = q := hs
  unfold gives execOp
  simp only [ho, Sem.run_bind, eq, h w (hpre e he (.inl hi)), Result.andThen_ok, Sem.run_pure]
  exact hK _ _ (But.refl _ w) (.inl ⟨e, he, hi, hE w, hF w⟩) rfl
/-- A call that changes what was. -/
theorem kindsR_act {v : Value} (e : Eff) (he : e ∈ effs) (hi : e.at_ = i) (hg : o.guard = none) (h : ∀ (ρ : Operand → Value) (w : World) (K : Value → World → Prop), But rows base w → e.G w → fitsA u f o.op.operands.toList ρ w → (∀ w', But rows w w' → e.E w w' → e.F w' → K v w') → gives P o ρ w K)
    (hr : wpTypAR P ops rows effs base f F (i + 1) rest (pushSlot u o.dst (.is v))) : wpTypAR P ops rows effs base f F i (o :: rest) u :=
  ⟨.is v, Slot.stableR_is _ v, by unfold OblAR; rw [hg]; exact fun ρ w K hw hpre hf hK => h ρ w K hw (hpre e he (.inl hi)) hf (fun w' hb hE hF => hK v w' hb (.inl ⟨e, he, hi, hE, hF⟩) rfl), hr⟩
end
theorem load_group {w : World} {bf : Nat} {t : TypeId} {gr : Array Value} {q : Nat} {x : Int} (hgr : GroupRow gr q) (B : Blk w bf t (frow gr x)) : (Instr.loadAt 26 (.pointer (some ⟨bf, 0, none⟩))).run Try.prog w = .ok (.agg gr) w := by
  have h := run_loadAt_mid (P := Try.prog) w bf 0 26 gr.toList _ (fun j v hv => by
    rw [B.cell, Nat.zero_add]
    unfold frow
    rw [Array.getElem?_toList] at hv
    rw [Array.getElem?_push, if_neg (fun e => by
      rw [e] at hv
      simp at hv)]
    exact hv) Try.underlying26 rfl (by rw [Array.length_toList, hgr.size]; kernel_rfl)
  rw [Array.toArray_toList] at h
  exact h
set_option maxRecDepth 100000 in
set_option maxHeartbeats 4000000 in
theorem plusF_core (gr : Array Value) (q a b r bf : Nat) (e c : Int) (hgr : GroupRow gr q) (he : e = 0 ∨ e = 1 ∨ e = 7) (w : World) (BF : Blk w bf 57 (frow gr e)) (HD : Keep (∀ w', Calls Try.prog 15 #[.agg gr, .agg (num a), .agg (num b)] w' (MayEnds w' r c))) :
    Calls Try.prog 29 #[.pointer (some ⟨bf, 0, none⟩), .agg (num a), .agg (num b)] w (FieldEnds w bf 57 gr r (first e c)) := by
  have hbf := BF.lt
  go_enter Try.func29, Try.ntmps29
  go_upto_region 1 with fail
  have M := TwoMem.start w a b 24 nought num_zero.symm
  have hF0 := ((BF.alloc (.cells (num a) 24)).alloc (.cells (num b) 24)).alloc (.cells nought 24)
  have hL0 : Grows w (((w.alloc (.cells (num a) 24)).alloc (.cells (num b) 24)).alloc (.cells nought 24)) := M.below
  change Code.wp _ _ _ _ (((w.alloc (.cells (num a) 24)).alloc (.cells (num b) 24)).alloc (.cells nought 24))
  generalize ((w.alloc (.cells (num a) 24)).alloc (.cells (num b) 24)).alloc (.cells nought 24) = w1 at *
  have hA := hide M.A
  have hB := hide M.B
  have hR := hide M.R
  have hF := hide hF0
  have hL := hide hL0
  clear M BF hF0 hL0
  have la := load_butN (rows := [bf, w.heap.size + 1 + 1]) (Blk.drew hA.out) (notin2 (by omega) (by omega))
  have lb := load_butN (rows := [bf, w.heap.size + 1 + 1]) (Blk.drew hB.out) (notin2 (by omega) (by omega))
  refine wp_region_kindsR [bf, w.heap.size + 1 + 1] [effSee 4 bf 57 gr, effKeep 10 bf 57 gr e (first e c), effRow 11 (w.heap.size + 1 + 1) 24 (num 0) (num r)] (by kernel_rfl) (by kernel_rfl) (effs_field (by decide) (by decide) (by decide) (by omega) hF.out.drew hR.out.drew) rfl (fun F hF => ?_)
  repeat (first
    | refine kindsR_move_is _ rfl rfl (Or.inl rfl) rfl ?_
    | refine kindsR_move_is _ rfl rfl (Or.inr rfl) rfl ?_
    | refine kindsR_see 10 26 (effSee 4 bf 57 gr) (List.Mem.head _) rfl (fun w => Grows.refl w) (fun _ => True.intro) rfl rfl rfl (fun w' h => load_group hgr h.choose_spec) ?_
    | refine kindsR_load 4 24 rfl rfl rfl rfl la ?_
    | refine kindsR_load 5 24 rfl rfl rfl rfl lb ?_
    | (refine kindsR_act (v := .agg (num r)) (effKeep 10 bf 57 gr e (first e c)) (List.Mem.tail _ (List.Mem.head _)) rfl rfl ?_ ?_
       · intro ρ wv K hw hG hf hK
         obtain ⟨e0, e1, e2, e3, -⟩ := hf
         change ρ _ = _ at e0
         change ρ _ = _ at e3
         change ρ _ = _ at e1
         change ρ _ = _ at e2
         unfold gives
         go_simp
         change Calls _ _ _ _ _
         go_at_call 48
         with_reducible refine (keep_any gr q r bf e c hgr he _ hG).mono ?_
         rintro x w' ⟨rfl, hb, hF⟩
         exact ⟨_, rfl, hK _ (hb.wider (by simp)) ⟨hb, hF⟩ hF⟩)
    | refine kindsR_row 6 17 24 (w.heap.size + 1 + 1) 24 (num 0) (num r) rfl rfl rfl rfl rfl (List.Mem.tail _ (List.Mem.tail _ (List.Mem.head _))) (List.Mem.tail _ (List.Mem.head _)) info4 rfl (num_one _) ?_
    | (apply kindsR_is rfl rfl
       · intro ρ wv K hw hf hK
         first | obtain ⟨e0, e1, e2, e3, e4, e5, e6, -⟩ := hf | obtain ⟨e0, e1, e2, e3, e4, e5, -⟩ := hf | obtain ⟨e0, e1, e2, e3, e4, -⟩ := hf | obtain ⟨e0, e1, e2, e3, -⟩ := hf | obtain ⟨e0, e1, e2, -⟩ := hf | obtain ⟨e0, e1, -⟩ := hf | obtain ⟨e0, -⟩ := hf | clear hf
         (try change ρ _ = _ at e0)
         (try change ρ _ = _ at e1)
         (try change ρ _ = _ at e2)
         (try change ρ _ = _ at e3)
         unfold gives
         go_simp
         first
           | (change Calls _ _ _ _ _; (go_at_call 15; (with_reducible refine (HD.out _).mono ?_); rintro e w' ⟨rfl, hb⟩; exact ⟨_, rfl, hK _ hb⟩))
           | ((try go_ints); (try rw [if_pos (by omega)]); exact hK _ (Grows.refl _))))
  refine kindsR_nil (hF _ rfl rfl (fun ww hg hfx => ?_))
  clear hF F
  simp only [pushSlot, finish, Act.put, List.setIfInBounds_toArray, List.set_cons_succ, List.set_cons_zero]
  have hF2 : Blk ww bf 57 (frow gr (first e c)) := hfx _ (List.Mem.tail _ (List.Mem.head _))
  have hR2 : Blk ww (w.heap.size + 1 + 1) 24 (num r) := hfx _ (List.Mem.tail _ (List.Mem.tail _ (List.Mem.head _)))
  have hBB : But [bf] w ww := But.shrink (Below.drew hL.out) hg (by first | (simp; omega) | simp)
  clear hg hfx la lb
  go_wp2_with fail
  exact bodyPost_ret (results_num rfl rfl hR2) rfl ⟨rfl, hBB, hF2⟩
theorem plusF_any (gr : Array Value) (q a b bf : Nat) (e : Int) (hgr : GroupRow gr q) (he : e = 0 ∨ e = 1 ∨ e = 7) (ha : a < big) (hb : b < big) (w : World) (BF : Blk w bf 57 (frow gr e)) :
    Calls Try.prog 29 #[.pointer (some ⟨bf, 0, none⟩), .agg (num a), .agg (num b)] w (FieldEnds w bf 57 gr (addV q a b) (first e (mayE a b q))) :=
  plusF_core gr q a b _ bf e _ hgr he w BF ⟨fun w' => sadd_any gr q a b hgr ha hb w'⟩
set_option maxRecDepth 100000 in
set_option maxHeartbeats 4000000 in
theorem lessF_core (gr : Array Value) (q a b r bf : Nat) (e c : Int) (hgr : GroupRow gr q) (he : e = 0 ∨ e = 1 ∨ e = 7) (w : World) (BF : Blk w bf 57 (frow gr e)) (HD : Keep (∀ w', Calls Try.prog 72 #[.agg gr, .agg (num a), .agg (num b)] w' (MayEnds w' r c))) :
    Calls Try.prog 50 #[.pointer (some ⟨bf, 0, none⟩), .agg (num a), .agg (num b)] w (FieldEnds w bf 57 gr r (first e c)) := by
  have hbf := BF.lt
  go_enter Try.func50, Try.ntmps50
  go_upto_region 1 with fail
  have M := TwoMem.start w a b 24 nought num_zero.symm
  have hF0 := ((BF.alloc (.cells (num a) 24)).alloc (.cells (num b) 24)).alloc (.cells nought 24)
  have hL0 : Grows w (((w.alloc (.cells (num a) 24)).alloc (.cells (num b) 24)).alloc (.cells nought 24)) := M.below
  change Code.wp _ _ _ _ (((w.alloc (.cells (num a) 24)).alloc (.cells (num b) 24)).alloc (.cells nought 24))
  generalize ((w.alloc (.cells (num a) 24)).alloc (.cells (num b) 24)).alloc (.cells nought 24) = w1 at *
  have hA := hide M.A
  have hB := hide M.B
  have hR := hide M.R
  have hF := hide hF0
  have hL := hide hL0
  clear M BF hF0 hL0
  have la := load_butN (rows := [bf, w.heap.size + 1 + 1]) (Blk.drew hA.out) (notin2 (by omega) (by omega))
  have lb := load_butN (rows := [bf, w.heap.size + 1 + 1]) (Blk.drew hB.out) (notin2 (by omega) (by omega))
  refine wp_region_kindsR [bf, w.heap.size + 1 + 1] [effSee 4 bf 57 gr, effKeep 10 bf 57 gr e (first e c), effRow 11 (w.heap.size + 1 + 1) 24 (num 0) (num r)] (by kernel_rfl) (by kernel_rfl) (effs_field (by decide) (by decide) (by decide) (by omega) hF.out.drew hR.out.drew) rfl (fun F hF => ?_)
  repeat (first
    | refine kindsR_move_is _ rfl rfl (Or.inl rfl) rfl ?_
    | refine kindsR_move_is _ rfl rfl (Or.inr rfl) rfl ?_
    | refine kindsR_see 10 26 (effSee 4 bf 57 gr) (List.Mem.head _) rfl (fun w => Grows.refl w) (fun _ => True.intro) rfl rfl rfl (fun w' h => load_group hgr h.choose_spec) ?_
    | refine kindsR_load 4 24 rfl rfl rfl rfl la ?_
    | refine kindsR_load 5 24 rfl rfl rfl rfl lb ?_
    | (refine kindsR_act (v := .agg (num r)) (effKeep 10 bf 57 gr e (first e c)) (List.Mem.tail _ (List.Mem.head _)) rfl rfl ?_ ?_
       · intro ρ wv K hw hG hf hK
         obtain ⟨e0, e1, e2, e3, -⟩ := hf
         change ρ _ = _ at e0
         change ρ _ = _ at e3
         change ρ _ = _ at e1
         change ρ _ = _ at e2
         unfold gives
         go_simp
         change Calls _ _ _ _ _
         go_at_call 48
         with_reducible refine (keep_any gr q r bf e c hgr he _ hG).mono ?_
         rintro x w' ⟨rfl, hb, hF⟩
         exact ⟨_, rfl, hK _ (hb.wider (by simp)) ⟨hb, hF⟩ hF⟩)
    | refine kindsR_row 6 17 24 (w.heap.size + 1 + 1) 24 (num 0) (num r) rfl rfl rfl rfl rfl (List.Mem.tail _ (List.Mem.tail _ (List.Mem.head _))) (List.Mem.tail _ (List.Mem.head _)) info4 rfl (num_one _) ?_
    | (apply kindsR_is rfl rfl
       · intro ρ wv K hw hf hK
         first | obtain ⟨e0, e1, e2, e3, e4, e5, e6, -⟩ := hf | obtain ⟨e0, e1, e2, e3, e4, e5, -⟩ := hf | obtain ⟨e0, e1, e2, e3, e4, -⟩ := hf | obtain ⟨e0, e1, e2, e3, -⟩ := hf | obtain ⟨e0, e1, e2, -⟩ := hf | obtain ⟨e0, e1, -⟩ := hf | obtain ⟨e0, -⟩ := hf | clear hf
         (try change ρ _ = _ at e0)
         (try change ρ _ = _ at e1)
         (try change ρ _ = _ at e2)
         (try change ρ _ = _ at e3)
         unfold gives
         go_simp
         first
           | (change Calls _ _ _ _ _; (go_at_call 72; (with_reducible refine (HD.out _).mono ?_); rintro e w' ⟨rfl, hb⟩; exact ⟨_, rfl, hK _ hb⟩))
           | ((try go_ints); (try rw [if_pos (by omega)]); exact hK _ (Grows.refl _))))
  refine kindsR_nil (hF _ rfl rfl (fun ww hg hfx => ?_))
  clear hF F
  simp only [pushSlot, finish, Act.put, List.setIfInBounds_toArray, List.set_cons_succ, List.set_cons_zero]
  have hF2 : Blk ww bf 57 (frow gr (first e c)) := hfx _ (List.Mem.tail _ (List.Mem.head _))
  have hR2 : Blk ww (w.heap.size + 1 + 1) 24 (num r) := hfx _ (List.Mem.tail _ (List.Mem.tail _ (List.Mem.head _)))
  have hBB : But [bf] w ww := But.shrink (Below.drew hL.out) hg (by first | (simp; omega) | simp)
  clear hg hfx la lb
  go_wp2_with fail
  exact bodyPost_ret (results_num rfl rfl hR2) rfl ⟨rfl, hBB, hF2⟩
theorem lessF_any (gr : Array Value) (q a b bf : Nat) (e : Int) (hgr : GroupRow gr q) (he : e = 0 ∨ e = 1 ∨ e = 7) (ha : a < big) (hb : b < big) (w : World) (BF : Blk w bf 57 (frow gr e)) :
    Calls Try.prog 50 #[.pointer (some ⟨bf, 0, none⟩), .agg (num a), .agg (num b)] w (FieldEnds w bf 57 gr (subV q a b) (first e (mayE a b q))) :=
  lessF_core gr q a b _ bf e _ hgr he w BF ⟨fun w' => ssub_any gr q a b hgr ha hb w'⟩
set_option maxRecDepth 100000 in
set_option maxHeartbeats 4000000 in
theorem timesF_core (gr : Array Value) (q a b r bf : Nat) (e c : Int) (hgr : GroupRow gr q) (he : e = 0 ∨ e = 1 ∨ e = 7) (w : World) (BF : Blk w bf 57 (frow gr e)) (HD : Keep (∀ w', Calls Try.prog 16 #[.agg gr, .agg (num a), .agg (num b)] w' (MayEnds w' r c))) :
    Calls Try.prog 26 #[.pointer (some ⟨bf, 0, none⟩), .agg (num a), .agg (num b)] w (FieldEnds w bf 57 gr r (first e c)) := by
  have hbf := BF.lt
  go_enter Try.func26, Try.ntmps26
  go_upto_region 1 with fail
  have M := TwoMem.start w a b 24 nought num_zero.symm
  have hF0 := ((BF.alloc (.cells (num a) 24)).alloc (.cells (num b) 24)).alloc (.cells nought 24)
  have hL0 : Grows w (((w.alloc (.cells (num a) 24)).alloc (.cells (num b) 24)).alloc (.cells nought 24)) := M.below
  change Code.wp _ _ _ _ (((w.alloc (.cells (num a) 24)).alloc (.cells (num b) 24)).alloc (.cells nought 24))
  generalize ((w.alloc (.cells (num a) 24)).alloc (.cells (num b) 24)).alloc (.cells nought 24) = w1 at *
  have hA := hide M.A
  have hB := hide M.B
  have hR := hide M.R
  have hF := hide hF0
  have hL := hide hL0
  clear M BF hF0 hL0
  have la := load_butN (rows := [bf, w.heap.size + 1 + 1]) (Blk.drew hA.out) (notin2 (by omega) (by omega))
  have lb := load_butN (rows := [bf, w.heap.size + 1 + 1]) (Blk.drew hB.out) (notin2 (by omega) (by omega))
  refine wp_region_kindsR [bf, w.heap.size + 1 + 1] [effSee 4 bf 57 gr, effKeep 10 bf 57 gr e (first e c), effRow 11 (w.heap.size + 1 + 1) 24 (num 0) (num r)] (by kernel_rfl) (by kernel_rfl) (effs_field (by decide) (by decide) (by decide) (by omega) hF.out.drew hR.out.drew) rfl (fun F hF => ?_)
  repeat (first
    | refine kindsR_move_is _ rfl rfl (Or.inl rfl) rfl ?_
    | refine kindsR_move_is _ rfl rfl (Or.inr rfl) rfl ?_
    | refine kindsR_see 10 26 (effSee 4 bf 57 gr) (List.Mem.head _) rfl (fun w => Grows.refl w) (fun _ => True.intro) rfl rfl rfl (fun w' h => load_group hgr h.choose_spec) ?_
    | refine kindsR_load 4 24 rfl rfl rfl rfl la ?_
    | refine kindsR_load 5 24 rfl rfl rfl rfl lb ?_
    | (refine kindsR_act (v := .agg (num r)) (effKeep 10 bf 57 gr e (first e c)) (List.Mem.tail _ (List.Mem.head _)) rfl rfl ?_ ?_
       · intro ρ wv K hw hG hf hK
         obtain ⟨e0, e1, e2, e3, -⟩ := hf
         change ρ _ = _ at e0
         change ρ _ = _ at e3
         change ρ _ = _ at e1
         change ρ _ = _ at e2
         unfold gives
         go_simp
         change Calls _ _ _ _ _
         go_at_call 48
         with_reducible refine (keep_any gr q r bf e c hgr he _ hG).mono ?_
         rintro x w' ⟨rfl, hb, hF⟩
         exact ⟨_, rfl, hK _ (hb.wider (by simp)) ⟨hb, hF⟩ hF⟩)
    | refine kindsR_row 6 17 24 (w.heap.size + 1 + 1) 24 (num 0) (num r) rfl rfl rfl rfl rfl (List.Mem.tail _ (List.Mem.tail _ (List.Mem.head _))) (List.Mem.tail _ (List.Mem.head _)) info4 rfl (num_one _) ?_
    | (apply kindsR_is rfl rfl
       · intro ρ wv K hw hf hK
         first | obtain ⟨e0, e1, e2, e3, e4, e5, e6, -⟩ := hf | obtain ⟨e0, e1, e2, e3, e4, e5, -⟩ := hf | obtain ⟨e0, e1, e2, e3, e4, -⟩ := hf | obtain ⟨e0, e1, e2, e3, -⟩ := hf | obtain ⟨e0, e1, e2, -⟩ := hf | obtain ⟨e0, e1, -⟩ := hf | obtain ⟨e0, -⟩ := hf | clear hf
         (try change ρ _ = _ at e0)
         (try change ρ _ = _ at e1)
         (try change ρ _ = _ at e2)
         (try change ρ _ = _ at e3)
         unfold gives
         go_simp
         first
           | (change Calls _ _ _ _ _; (go_at_call 16; (with_reducible refine (HD.out _).mono ?_); rintro e w' ⟨rfl, hb⟩; exact ⟨_, rfl, hK _ hb⟩))
           | ((try go_ints); (try rw [if_pos (by omega)]); exact hK _ (Grows.refl _))))
  refine kindsR_nil (hF _ rfl rfl (fun ww hg hfx => ?_))
  clear hF F
  simp only [pushSlot, finish, Act.put, List.setIfInBounds_toArray, List.set_cons_succ, List.set_cons_zero]
  have hF2 : Blk ww bf 57 (frow gr (first e c)) := hfx _ (List.Mem.tail _ (List.Mem.head _))
  have hR2 : Blk ww (w.heap.size + 1 + 1) 24 (num r) := hfx _ (List.Mem.tail _ (List.Mem.tail _ (List.Mem.head _)))
  have hBB : But [bf] w ww := But.shrink (Below.drew hL.out) hg (by first | (simp; omega) | simp)
  clear hg hfx la lb
  go_wp2_with fail
  exact bodyPost_ret (results_num rfl rfl hR2) rfl ⟨rfl, hBB, hF2⟩
theorem timesF_any (gr : Array Value) (q a b bf : Nat) (e : Int) (hgr : GroupRow gr q) (he : e = 0 ∨ e = 1 ∨ e = 7) (ha : a < big) (hb : b < big) (w : World) (BF : Blk w bf 57 (frow gr e)) :
    Calls Try.prog 26 #[.pointer (some ⟨bf, 0, none⟩), .agg (num a), .agg (num b)] w (FieldEnds w bf 57 gr (mulV q a b) (first e (mayE a b q))) :=
  timesF_core gr q a b _ bf e _ hgr he w BF ⟨fun w' => smul_any gr q a b hgr ha hb w'⟩
set_option maxRecDepth 100000 in
set_option maxHeartbeats 4000000 in
theorem underF_core (gr : Array Value) (q a r bf : Nat) (e c : Int) (hgr : GroupRow gr q) (he : e = 0 ∨ e = 1 ∨ e = 7) (w : World) (BF : Blk w bf 57 (frow gr e)) (HD : Keep (∀ w', Calls Try.prog 18 #[.agg gr, .agg (num a)] w' (MayEnds w' r c))) :
    Calls Try.prog 49 #[.pointer (some ⟨bf, 0, none⟩), .agg (num a)] w (FieldEnds w bf 57 gr r (first e c)) := by
  have hbf := BF.lt
  go_enter Try.func49, Try.ntmps49
  go_upto_region 1 with fail
  have a1 := (Blk.new w 24 (num a)).alloc (.cells nought 24)
  have r1 := Blk.new (w.alloc (.cells (num a) 24)) 24 nought
  simp only [World.size_alloc] at r1
  have hF0 := (BF.alloc (.cells (num a) 24)).alloc (.cells nought 24)
  have hL0 : Grows w ((w.alloc (.cells (num a) 24)).alloc (.cells nought 24)) := ((Below.refl _ _).alloc (Nat.le_refl _) _).alloc (by simp) _
  change Code.wp _ _ _ _ ((w.alloc (.cells (num a) 24)).alloc (.cells nought 24))
  generalize (w.alloc (.cells (num a) 24)).alloc (.cells nought 24) = w1 at *
  have r2 : Blk w1 (w.heap.size + 1) 24 (num 0) := by rw [num_zero]; exact r1
  have hA := hide a1
  have hR := hide r2
  have hF := hide hF0
  have hL := hide hL0
  clear BF hF0 hL0 a1 r1 r2
  have la := load_butN (rows := [bf, w.heap.size + 1]) (Blk.drew hA.out) (notin2 (by omega) (by omega))
  refine wp_region_kindsR [bf, w.heap.size + 1] [effSee 4 bf 57 gr, effKeep 9 bf 57 gr e (first e c), effRow 10 (w.heap.size + 1) 24 (num 0) (num r)] (by kernel_rfl) (by kernel_rfl) (effs_field (by decide) (by decide) (by decide) (by omega) hF.out.drew hR.out.drew) rfl (fun F hF => ?_)
  repeat (first
    | refine kindsR_move_is _ rfl rfl (Or.inl rfl) rfl ?_
    | refine kindsR_move_is _ rfl rfl (Or.inr rfl) rfl ?_
    | refine kindsR_see 8 26 (effSee 4 bf 57 gr) (List.Mem.head _) rfl (fun w => Grows.refl w) (fun _ => True.intro) rfl rfl rfl (fun w' h => load_group hgr h.choose_spec) ?_
    | refine kindsR_load 3 24 rfl rfl rfl rfl la ?_
    | (refine kindsR_act (v := .agg (num r)) (effKeep 9 bf 57 gr e (first e c)) (List.Mem.tail _ (List.Mem.head _)) rfl rfl ?_ ?_
       · intro ρ wv K hw hG hf hK
         obtain ⟨e0, e1, e2, e3, -⟩ := hf
         change ρ _ = _ at e0
         change ρ _ = _ at e3
         change ρ _ = _ at e1
         change ρ _ = _ at e2
         unfold gives
         go_simp
         change Calls _ _ _ _ _
         go_at_call 48
         with_reducible refine (keep_any gr q r bf e c hgr he _ hG).mono ?_
         rintro x w' ⟨rfl, hb, hF⟩
         exact ⟨_, rfl, hK _ (hb.wider (by simp)) ⟨hb, hF⟩ hF⟩)
    | refine kindsR_row 4 14 24 (w.heap.size + 1) 24 (num 0) (num r) rfl rfl rfl rfl rfl (List.Mem.tail _ (List.Mem.tail _ (List.Mem.head _))) (List.Mem.tail _ (List.Mem.head _)) info4 rfl (num_one _) ?_
    | (apply kindsR_is rfl rfl
       · intro ρ wv K hw hf hK
         first | obtain ⟨e0, e1, e2, e3, e4, e5, e6, -⟩ := hf | obtain ⟨e0, e1, e2, e3, e4, e5, -⟩ := hf | obtain ⟨e0, e1, e2, e3, e4, -⟩ := hf | obtain ⟨e0, e1, e2, e3, -⟩ := hf | obtain ⟨e0, e1, e2, -⟩ := hf | obtain ⟨e0, e1, -⟩ := hf | obtain ⟨e0, -⟩ := hf | clear hf
         (try change ρ _ = _ at e0)
         (try change ρ _ = _ at e1)
         (try change ρ _ = _ at e2)
         (try change ρ _ = _ at e3)
         unfold gives
         go_simp
         first
           | (change Calls _ _ _ _ _; (go_at_call 18; (with_reducible refine (HD.out _).mono ?_); rintro e w' ⟨rfl, hb⟩; exact ⟨_, rfl, hK _ hb⟩))
           | ((try go_ints); (try rw [if_pos (by omega)]); exact hK _ (Grows.refl _))))
  refine kindsR_nil (hF _ rfl rfl (fun ww hg hfx => ?_))
  clear hF F
  simp only [pushSlot, finish, Act.put, List.setIfInBounds_toArray, List.set_cons_succ, List.set_cons_zero]
  have hF2 : Blk ww bf 57 (frow gr (first e c)) := hfx _ (List.Mem.tail _ (List.Mem.head _))
  have hR2 : Blk ww (w.heap.size + 1) 24 (num r) := hfx _ (List.Mem.tail _ (List.Mem.tail _ (List.Mem.head _)))
  have hBB : But [bf] w ww := But.shrink (Below.drew hL.out) hg (by first | (simp; omega) | simp)
  clear hg hfx la
  go_wp2_with fail
  exact bodyPost_ret (results_num rfl rfl hR2) rfl ⟨rfl, hBB, hF2⟩
theorem underF_any (gr : Array Value) (q a bf : Nat) (e : Int) (hgr : GroupRow gr q) (he : e = 0 ∨ e = 1 ∨ e = 7) (ha : a < big) (w : World) (BF : Blk w bf 57 (frow gr e)) :
    Calls Try.prog 49 #[.pointer (some ⟨bf, 0, none⟩), .agg (num a)] w (FieldEnds w bf 57 gr (invV q a) (first e (invE q a))) :=
  underF_core gr q a _ bf e _ hgr he w BF ⟨fun w' => sinv_any gr q a hgr ha w'⟩
end Go.Proofs.Ythdanjbgbbcafaa
