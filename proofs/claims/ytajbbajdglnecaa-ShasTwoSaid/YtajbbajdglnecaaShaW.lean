/- A sum's bytes come in: the walk of 'writes'. -/
import Derived.Test.YtajbbajdglnecaaShaD
import Derived.Test.YtajbbajdglnecaaShaSpec
import Derived.Laws.CopyRow
import Derived.Deep.MidRow
import Derived.Test.YtajbbajdglnecaaCut
namespace Go.Proofs.Ytajbbajdglnecaa
open Go Go.RowKit

theorem sumRow_nine (s : SumSt) (j : Nat) : (sumRow s)[9 + j]? = (s.rest.map (Value.int .u8) ++ [Value.int .u64 s.many])[j]? := by
  unfold sumRow
  rw [show 9 + j = j + 1 + 1 + 1 + 1 + 1 + 1 + 1 + 1 + 1 by omega]
  simp only [List.getElem?_cons_succ]
theorem sumRow_many (s : SumSt) (h : s.rest.length = 64) : (sumRow s).toArray[73]? = some (.int .u64 (s.many : Int)) := by
  rw [List.getElem?_toArray, show 73 = 9 + 64 from rfl, sumRow_nine, List.getElem?_append_right (by simp [h])]
  simp [h]
theorem sumRow_made (s : SumSt) : (sumRow s).toArray[0]? = some (.int .i64 1) := rfl
theorem sumRow_rest (s : SumSt) (h : s.rest.length = 64) (j : Nat) (hj : j < 64) : (sumRow s).toArray[9 + j]? = some (.int .u8 (at_ s.rest j)) := by
  rw [List.getElem?_toArray, sumRow_nine, List.getElem?_append_left (by simp [h]; omega), List.getElem?_map, List.getElem?_eq_getElem (by omega)]
  unfold at_
  rw [List.getD_eq_getElem?_getD, List.getElem?_eq_getElem (by omega)]
  rfl
theorem sumRow_setMany (s : SumSt) (h : s.rest.length = 64) (m : Nat) : (sumRow s).toArray.setIfInBounds 73 (.int .u64 (m : Int)) = (sumRow { s with many := m }).toArray := by
  unfold sumRow
  rw [List.setIfInBounds_toArray]
  simp only [List.set_cons_succ]
  rw [List.set_append_right _ _ (by simp [h])]
  simp [h]
theorem sumRow_copy (s : SumSt) (h : s.rest.length = 64) (c : List Int) (k : Nat) (hk : k + c.length ≤ 64) :
    ((sumRow s).toArray.toList.take (9 + k) ++ c.map (Value.int .u8) ++ (sumRow s).toArray.toList.drop (9 + k + (c.map (Value.int .u8)).length)).toArray = (sumRow { s with rest := put_ s.rest c k }).toArray := by
  congr 1
  unfold sumRow put_
  simp only [List.length_map, List.map_append, List.map_take, List.map_drop]
  rw [show 9 + k = k + 1 + 1 + 1 + 1 + 1 + 1 + 1 + 1 + 1 by omega, show k + 1 + 1 + 1 + 1 + 1 + 1 + 1 + 1 + 1 + c.length = k + c.length + 1 + 1 + 1 + 1 + 1 + 1 + 1 + 1 + 1 by omega]
  simp only [List.take_succ_cons, List.drop_succ_cons, List.cons_append]
  rw [List.take_append_of_le_length (by simp [h]; omega), List.drop_append_of_le_length (by simp [h]; omega)]
  simp
theorem sumRow_setSt (s : SumSt) (t : S8) {w : World} {b : Nat} {ty : TypeId} (hB : Blk w b ty (sumRow s).toArray) :
    Blk ((((((((w.setCell ⟨b, 1, none⟩ (uv t.a)).setCell ⟨b, 2, none⟩ (uv t.b)).setCell ⟨b, 3, none⟩ (uv t.c)).setCell ⟨b, 4, none⟩ (uv t.d)).setCell ⟨b, 5, none⟩ (uv t.e)).setCell ⟨b, 6, none⟩ (uv t.f)).setCell ⟨b, 7, none⟩ (uv t.g)).setCell ⟨b, 8, none⟩ (uv t.h)) b ty (sumRow { s with st := t }).toArray := by
  have H := (((((((hB.set_ 1 (uv t.a)).set_ 2 (uv t.b)).set_ 3 (uv t.c)).set_ 4 (uv t.d)).set_ 5 (uv t.e)).set_ 6 (uv t.f)).set_ 7 (uv t.g)).set_ 8 (uv t.h)
  have e : ((((((((sumRow s).toArray.setIfInBounds 1 (uv t.a)).setIfInBounds 2 (uv t.b)).setIfInBounds 3 (uv t.c)).setIfInBounds 4 (uv t.d)).setIfInBounds 5 (uv t.e)).setIfInBounds 6 (uv t.f)).setIfInBounds 7 (uv t.g)).setIfInBounds 8 (uv t.h) = (sumRow { s with st := t }).toArray := by
    simp [sumRow]
  rw [e] at H
  exact H

theorem sumRow_length (s : SumSt) (h : s.rest.length = 64) : (sumRow s).length = 74 := by
  unfold sumRow
  simp [h]
theorem only_setRow {a w : World} {g : Nat} (h : a.grownBy w (some g)) (cs : Array Value) : a.grownBy (w.setRow g cs) (some g) :=
  ⟨h.os, h.tape, h.output, by simpa [World.setRow] using h.size, fun i hi hne => by
    simp only [World.setRow, Array.getElem?_modify]
    rw [if_neg (fun e => hne (by rw [e]))]
    exact h.block i hi hne⟩
theorem info64b : (Try.prog.info? 41).map (·.size) = some 64 := by kernel_rfl
theorem only_grows {a w w' : World} {row : Option Nat} (h : a.grownBy w row) (hb : Grows w w') : a.grownBy w' row :=
  ⟨hb.os.trans h.os, hb.tape.trans h.tape, hb.output.trans h.output, Nat.le_trans h.size hb.size, fun i hi hne => (hb.block i (Nat.lt_of_lt_of_le hi h.size)).trans (h.block i hi hne)⟩
theorem info_u8w : (Try.prog.info? 5).map (fun i => (i.zero, i.size, i.bytes)) = some (some (.int .u8 0), 1, 1) := by kernel_rfl
def lenOf : Value → Nat
  | .slice _ n _ => n
  | _ => 0
def WritesRel (W : World) (b g o n cap : Nat) (l xs : List Int) (tb : TypeId) (v : Value) (wr : World) : Prop :=
  ∃ (j m mc : Nat) (s : SumSt), j + m = n ∧ j + mc = cap ∧ (0 < m → v = .slice (some ⟨g, o + j, none⟩) m mc) ∧ (m = 0 → ∃ A c, v = .slice A 0 c) ∧ SumOf (l ++ xs.take j) s ∧ W.grownBy wr (some b) ∧ Blk wr b tb (sumRow s).toArray
def WriteEnds (W : World) (b : Nat) (l : List Int) (tb : TypeId) (e : Ending) (w' : World) : Prop := e = .returned (.tuple #[]) ∧ W.grownBy w' (some b) ∧ ∃ s, SumOf l s ∧ Blk w' b tb (sumRow s).toArray
set_option maxRecDepth 100000 in
set_option maxHeartbeats 4000000 in
theorem writes_any (b g o n cap : Nat) (l xs : List Int) (s : SumSt) (W : World) (hs : SumOf l s) (hB : Blk W b 44 (sumRow s).toArray) (hbg : b ≠ g) (hx : xs.length = n) (hcap : n ≤ cap) (hcm : cap ≤ 9223372036854775807) (hbig : l.length + n ≤ 1152921504606846976)
    (hw : ∀ i, i < n → 0 ≤ at_ xs i ∧ at_ xs i ≤ 255) (hc : ∀ i, i < n → W.cell? ⟨g, o + i, none⟩ = some (.int .u8 (at_ xs i))) :
    Calls Try.prog 27 #[.pointer (some ⟨b, 0, none⟩), .slice (some ⟨g, o, none⟩) n cap] W (WriteEnds W b (l ++ xs) 44) := by
  have HS := hide hs
  have HB := hide hB
  have HW := hide hw
  have HC := hide hc
  have HX := hide hx
  clear hs hB hw hc hx
  go_enter Try.func27, Try.ntmps27
  go_wp2_with fail
  go_loopw [1] (fun v wr => WritesRel W b g o n cap l xs 44 v wr) (fun v _ => lenOf v)
  case atStart => exact ⟨0, n, cap, s, by omega, by omega, fun _ => rfl, fun h => ⟨_, _, by rw [h]⟩, by simpa using HS.out, World.grownBy.refl W _, HB.out⟩
  case round =>
    obtain ⟨j, m, mc, t, hjm, hjc, hv1, hv2, hS, hg, hBt⟩ := hrel
    by_cases hlt : 0 < m
    · obtain rfl := hv1 hlt
      clear hv1 hv2
      have hmany : t.many = l.length + j := by
        rw [hS.many, List.length_append, List.length_take]
        have := HX.out
        omega
      have c73 := (hBt.cell 73).trans (sumRow_many t hS.len)
      have hM : t.many ≤ 1152921504606846976 := by omega
      have HM := hide hmany
      clear hmany
      generalize hMM : t.many = M at c73 hM HM
      have HMM := hide hMM
      clear hMM
      obtain ⟨i0, hi0, _, hi1, _⟩ := info_parts info_u8w
      have hk : M % 64 < 64 := Nat.mod_lt _ (by omega)
      have hkM : ((M : Int) % 64) = ((M % 64 : Nat) : Int) := by omega
      have f1 : ∀ w, (Instr.sliceAt 41 (.pointer (some ⟨b, 9, none⟩)) (some (.int .i64 ((M : Int) % 64))) none none).run Try.prog w = .ok (.slice (some ⟨b, 9 + M % 64, none⟩) (64 - M % 64) (64 - M % 64)) w := fun w => by
        rw [hkM]
        exact run_slice_arr 41 5 64 i0 b 9 (M % 64) .i64 Try.underlying41 hi0 hi1 hk w
      obtain ⟨c, hcm, hc64, hcc⟩ : ∃ c, c ≤ m ∧ c ≤ 64 - M % 64 ∧ (c = m ∨ c = 64 - M % 64) := by
        by_cases h : m ≤ 64 - M % 64
        · exact ⟨m, Nat.le_refl _, h, .inl rfl⟩
        · exact ⟨64 - M % 64, by omega, Nat.le_refl _, .inr rfl⟩
      have hc0 : 0 < c := by omega
      have hxl := HX.out
      have hcl : ((xs.drop j).take c).length = c := by simp; omega
      have hat : ∀ i, i < c → at_ ((xs.drop j).take c) i = at_ xs (j + i) := fun i hi => by
        unfold at_
        rw [List.getD_eq_getElem?_getD, List.getD_eq_getElem?_getD, List.getElem?_take_of_lt hi, List.getElem?_drop]
      have hgb : g < W.heap.size := lt_of_cell (HC.out 0 (by omega))
      have hsrc : ∀ i v, (((xs.drop j).take c).map (Value.int .u8))[i]? = some v → wr.cell? ((⟨g, o + j, none⟩ : Addr).add i) = some v := fun i v hv => by
        have hi : i < c := by
          rcases Nat.lt_or_ge i c with h | h
          · exact h
          · rw [List.getElem?_eq_none (by simp; omega)] at hv; cases hv
        rw [List.getElem?_map, List.getElem?_eq_getElem (by omega), Option.map_some] at hv
        have e1 : (⟨g, o + j, none⟩ : Addr).add i = ⟨g, o + (j + i), none⟩ := by rw [Addr.add_mid]; rw [Nat.add_assoc]
        rw [e1, hg.cell_far _ hgb (fun e => hbg (by injection e with e; exact e.symm)), HC.out (j + i) (by omega), ← hv]
        have := hat i hi
        unfold at_ at this
        rw [List.getD_eq_getElem?_getD, List.getElem?_eq_getElem (by omega), Option.getD_some] at this
        unfold at_
        rw [this]
      obtain ⟨w2, hw2⟩ : ∃ w2, w2 = wr.setRow b (((sumRow t).toArray.toList.take (9 + M % 64) ++ ((xs.drop j).take c).map (Value.int .u8) ++ (sumRow t).toArray.toList.drop (9 + M % 64 + (((xs.drop j).take c).map (Value.int .u8)).length)).toArray) := ⟨_, rfl⟩
      have f2 : (Builtin.copy_ #[22, 22] 3 #[.slice (some ⟨b, 9 + M % 64, none⟩) (64 - M % 64) (64 - M % 64), .slice (some ⟨g, o + j, none⟩) m mc]).run Try.prog wr = .ok (.int .i64 (c : Int)) w2 := by
        have h := run_copy_row (P := Try.prog) wr 22 22 3 5 b (9 + M % 64) (64 - M % 64) (64 - M % 64) ⟨g, o + j, none⟩ m mc (sumRow t).toArray 44 (((xs.drop j).take c).map (Value.int .u8)) Try.underlying22 (by rw [hi0]; simp [hi1]) hBt (by simp only [List.length_map, hcl]; show c = min m (64 - M % 64); omega) hsrc (by
          simp only [List.length_map, hcl, List.size_toArray]
          have := sumRow_length t hS.len
          omega) (fun v hv => by obtain ⟨x, _, rfl⟩ := List.mem_map.1 hv; rfl)
        rw [← hw2] at h
        simp only [List.length_map, hcl] at h
        exact h
      have B2 : Blk w2 b 44 (sumRow { t with rest := put_ t.rest ((xs.drop j).take c) (M % 64) }).toArray := by
        rw [hw2, ← sumRow_copy t hS.len _ _ (by omega)]
        exact hBt.setRow _
      have G2 : W.grownBy w2 (some b) := by rw [hw2]; exact only_setRow hg _
      obtain ⟨o2, ho2⟩ : ∃ o2, o2 = (if mc = c then o + j else o + j + c) := ⟨_, rfl⟩
      have f3 : ∀ w, (Instr.slice 22 (.slice (some ⟨g, o + j, none⟩) m mc) (some (.int .i64 (c : Int))) none none).run Try.prog w = .ok (.slice (some ⟨g, o2, none⟩) (m - c) (mc - c)) w := fun w => by
        rw [ho2]
        exact run_slice_low 22 5 i0 g (o + j) m mc c .i64 Try.underlying22 hi0 hi1 hcm w
      have HO2 := hide ho2
      have c73' := (B2.cell 73).trans (sumRow_many { t with rest := put_ t.rest ((xs.drop j).take c) (M % 64) } (by show (put_ _ _ _).length = 64; rw [put_length _ _ _ (by rw [hcl, hS.len]; omega), hS.len]))
      have z73 := B2.frozen 73
      rw [show ({ t with rest := put_ t.rest ((xs.drop j).take c) (M % 64) } : SumSt).many = M from HMM.out] at c73'
      have hWc : ∀ i, 0 ≤ at_ ((xs.drop j).take c) i ∧ at_ ((xs.drop j).take c) i ≤ 255 := fun i => by
        rcases Nat.lt_or_ge i c with h | h
        · rw [hat i h]; exact HW.out _ (by omega)
        · unfold at_; rw [List.getD_eq_getElem?_getD, List.getElem?_eq_none (by omega)]; simp
      have hlx : (l ++ xs.take j).length = M := by rw [← hS.many]; exact HMM.out
      have htk : xs.take (j + c) = xs.take j ++ (xs.drop j).take c := List.take_add
      have HHS := hide hS
      have HWC := hide hWc
      have HLX := hide hlx
      have HTK := hide htk
      have HCL := hide hcl
      clear hw2 hsrc hat hkM hi0 hi1 ho2 hS hWc hlx htk hcl hxl
      by_cases hfull : M % 64 + c = 64
      · have hT : ((M : Int) % 64 + (c : Int) == 64) = true := by rw [beq_iff_eq]; omega
        have HF := hide hfull
        clear hfull
        go_wp2_with fail
        obtain ⟨w3, hw3⟩ : ∃ w3, w3 = w2.setCell ⟨b, 73, none⟩ (.int .u64 ((M : Int) + (c : Int))) := ⟨_, rfl⟩
        have hrl : (put_ t.rest ((xs.drop j).take c) (M % 64)).length = 64 := by rw [put_length _ _ _ (by rw [HCL.out, HHS.out.len]; omega), HHS.out.len]
        have B3 : Blk w3 b 44 (sumRow ⟨t.st, put_ t.rest ((xs.drop j).take c) (M % 64), M + c⟩).toArray := by
          have H := B2.set_ 73 (.int .u64 ((M + c : Nat) : Int))
          rw [sumRow_setMany _ hrl] at H
          rw [hw3]
          simpa using H
        have G3 : W.grownBy w3 (some b) := by rw [hw3]; exact only_setCell (p := ⟨b, 73, none⟩) G2 (.inl rfl) _
        rw [← hw3]
        have hS2 := sum_full HHS.out (c := (xs.drop j).take c) (by rw [HLX.out, HCL.out]; exact HF.out) HWC.out
        rw [HLX.out, HCL.out, HMM.out] at hS2
        have hwf := hS2.wf
        have HS2 := hide hS2
        have HRL := hide hrl
        clear hw3 B2 G2 c73' z73 hS2 hrl f1 f2 f3 hg hBt c73
        generalize put_ t.rest ((xs.drop j).take c) (M % 64) = r at *
        generalize t.st = st at *
        have hld1 : ∀ w', Grows w3.drew w' → (Instr.loadAt 40 (.pointer (some ⟨b, 1, none⟩))).run Try.prog w' = .ok (.agg st.row) w' := fun w' h => by
          refine run_loadAt_mid w' b 1 40 st.row.toList _ (fun i v hv => ?_) Try.underlying40 rfl info8s
          have hB := B3.drew.below h B3.lt
          rw [hB.cell, ← hv]
          have hi : i < 8 := (List.getElem?_eq_some_iff.1 hv).1
          have : i = 0 ∨ i = 1 ∨ i = 2 ∨ i = 3 ∨ i = 4 ∨ i = 5 ∨ i = 6 ∨ i = 7 := by omega
          rcases this with rfl | rfl | rfl | rfl | rfl | rfl | rfl | rfl <;> rfl
        have hld2 : ∀ w', Grows w3.drew w' → (Instr.loadAt 41 (.pointer (some ⟨b, 9, none⟩))).run Try.prog w' = .ok (.agg (bRow (at_ r))) w' := fun w' h => by
          refine run_loadAt_mid w' b 9 41 (bRow (at_ r)).toList _ (fun i v hv => ?_) Try.underlying41 rfl info64b
          have hB := B3.drew.below h B3.lt
          have hi : i < 64 := by have := (List.getElem?_eq_some_iff.1 hv).1; simpa [bRow] using this
          rw [hB.cell, sumRow_rest _ HRL.out i hi]
          have h2 := bRow_at (at_ r) i hi
          rw [← Array.getElem?_toList] at h2
          rw [← hv, h2]
        refine wp_region_kinds 12 (by kernel_rfl) (by kernel_rfl) (fun F hF => ?_)
        repeat (first
          | refine kinds_move_is _ rfl (Or.inl rfl) rfl ?_
          | refine kinds_move_is _ rfl (Or.inr rfl) rfl ?_
          | refine kinds_load _ _ rfl rfl rfl hld1 ?_
          | refine kinds_load _ _ rfl rfl rfl hld2 ?_
          | refine kinds_off rfl rfl rfl rfl ?_
          | refine kinds_off' rfl rfl rfl ?_
          | ((first | refine kinds_on rfl rfl rfl ?_ | skip)
             apply kinds_is rfl
             · intro ρ wv K hw hf hK
               first | obtain ⟨e0, e1, e2, e3, e4, e5, e6, -⟩ := hf | obtain ⟨e0, e1, e2, e3, e4, e5, -⟩ := hf | obtain ⟨e0, e1, e2, e3, e4, -⟩ := hf | obtain ⟨e0, e1, e2, e3, -⟩ := hf | obtain ⟨e0, e1, e2, -⟩ := hf | obtain ⟨e0, e1, -⟩ := hf | obtain ⟨e0, -⟩ := hf | clear hf
               (try change ρ _ = _ at e0)
               (try change ρ _ = _ at e1)
               (try change ρ _ = _ at e2)
               (try change ρ _ = _ at e3)
               unfold gives
               go_simp
               first
                 | (change Calls _ _ _ _ _; (go_at_call 33; refine (take_state _ _ _ (fun i _ => hwf i)).mono ?_; rintro e w' ⟨rfl, hb⟩; exact ⟨.agg #[.int .u32 (un (comp st (at_ r)).a), .int .u32 (un (comp st (at_ r)).b), .int .u32 (un (comp st (at_ r)).c), .int .u32 (un (comp st (at_ r)).d), .int .u32 (un (comp st (at_ r)).e), .int .u32 (un (comp st (at_ r)).f), .int .u32 (un (comp st (at_ r)).g), .int .u32 (un (comp st (at_ r)).h)], rfl, hK _ hb⟩))
                 | ((try go_ints); (try rw [if_pos (by omega)]); exact hK _ (Grows.refl _))))
        refine kinds_nil (hF _ rfl rfl (fun ww hg => ?_))
        clear hF F
        simp only [pushSlot, finish, Act.put, List.setIfInBounds_toArray, List.set_cons_succ, List.set_cons_zero]
        simp only [List.drop_succ_cons, List.drop_zero]
        have B4 := B3.drew.below hg B3.lt
        have G4 : W.grownBy ww (some b) := only_grows (only_drew G3) hg
        have q1 := B4.cell 1
        have q2 := B4.cell 2
        have q3 := B4.cell 3
        have q4 := B4.cell 4
        have q5 := B4.cell 5
        have q6 := B4.cell 6
        have q7 := B4.cell 7
        have q8 := B4.cell 8
        have hz := B4.frozen
        simp only [sumRow, uv, List.getElem?_toArray, List.getElem?_cons_zero, List.getElem?_cons_succ] at q1 q2 q3 q4 q5 q6 q7 q8
        clear hld1 hld2 hg B3 G3
        go_wp2
        go_roundw
        case rel =>
          refine ⟨j + c, m - c, mc - c, _, by omega, by omega, fun h => ?_, fun h => ⟨_, _, by rw [h]⟩, by rw [HTK.out, ← List.append_assoc]; exact HS2.out, ?_, sumRow_setSt _ (comp st (at_ r)) B4⟩
          · rw [HO2.out, if_neg (by omega), Nat.add_assoc]
          · repeat (refine only_setCell ?_ (.inl rfl) _)
            exact G4
        case measure => simp [lenOf]; omega
      · have hT : ((M : Int) % 64 + (c : Int) == 64) = false := by rw [beq_eq_false_iff_ne]; omega
        go_wp2_with fail
        go_roundw
        case rel =>
          have hS2 := sum_part HHS.out (c := (xs.drop j).take c) (by rw [HLX.out, HCL.out]; omega) HWC.out
          rw [HLX.out] at hS2
          refine ⟨j + c, m - c, mc - c, _, by omega, by omega, fun h => ?_, fun h => ⟨_, _, by rw [h]⟩, by rw [HTK.out, ← List.append_assoc]; exact hS2, only_setCell (p := ⟨b, 73, none⟩) G2 (.inl rfl) _, ?_⟩
          · rw [HO2.out, if_neg (by omega), Nat.add_assoc]
          · have H := B2.set_ 73 (.int .u64 ((M + c : Nat) : Int))
            rw [sumRow_setMany _ (by show (put_ _ _ _).length = 64; rw [put_length _ _ _ (by rw [HCL.out, HHS.out.len]; omega), HHS.out.len])] at H
            have e := HMM.out
            rw [HCL.out, e]
            simpa using H
        case measure => simp [lenOf]; omega
    · obtain rfl : m = 0 := by omega
      obtain ⟨A, cc, rfl⟩ := hv2 rfl
      have HE : Keep (xs.take j = xs) := ⟨List.take_of_length_le (by have := HX.out; omega)⟩
      have HSS := hide hS
      clear hv1 hv2 hS
      go_wp2_with fail
      go_end0
      exact ⟨rfl, hg, t, by have := HSS.out; rw [HE.out] at this; exact this, hBt⟩
/-- Nothing comes: nothing happens. -/
theorem writes_none (p : Value) (A : Option Addr) (cap : Nat) (W : World) : Calls Try.prog 27 #[p, .slice A 0 cap] W fun e w' => e = .returned (.tuple #[]) ∧ W = w' := by
  go_enter Try.func27, Try.ntmps27
  go_wp2_with fail
  refine wp_loop_rounds 1 ?_
  rw [rounds_succ]
  go_wp2_with fail
  go_end0
  exact ⟨rfl, rfl⟩
end Go.Proofs.Ytajbbajdglnecaa
