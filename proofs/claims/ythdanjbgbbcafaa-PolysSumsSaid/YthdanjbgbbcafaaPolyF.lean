/- polys: points. -/
import Derived.Test.YthdanjbgbbcafaaPolyE
namespace Go.Proofs.Ythdanjbgbbcafaa
open Go Go.RowKit

theorem NumsAt.take {w : World} {A : Option Addr} {ns : List Nat} (h : NumsAt w A ns) (k : Nat) : NumsAt w A (ns.take k) := by
  intro i x hx
  rw [List.getElem?_take] at hx
  split at hx
  · exact h i x hx
  · cases hx
/-- Numbers, each once. -/
theorem nodup_take : ∀ (l : List Nat), (∀ j x, l[j]? = some x → x ∉ l.take j) ↔ l.Nodup
  | [] => by simp
  | y :: l => by
    rw [List.nodup_cons, ← nodup_take l]
    constructor
    · intro h
      refine ⟨fun hm => ?_, fun j x hx hm => ?_⟩
      · obtain ⟨j, hj⟩ := List.getElem?_of_mem hm
        exact h (j + 1) y (by simpa using hj) (by simp)
      · exact h (j + 1) x (by simpa using hx) (by simp [hm])
    · rintro ⟨h1, h2⟩ j x hx hm
      cases j with
      | zero => simp at hm
      | succ j =>
        have hx' : l[j]? = some x := by simpa using hx
        rw [List.take_succ_cons, List.mem_cons] at hm
        rcases hm with rfl | hm
        · exact h1 (List.mem_of_getElem? hx')
        · exact h2 j x hx' hm
/-- A whole row loaded by a guarded operation that is wanted. -/
theorem wpList_load_row_on {P : Program} {ops : Array Oper} {rest : List Oper} {o : Oper} {a : Act} {w : World} {Q : Exit → Act → World → Prop} (hw : Region.wanted o (yielded ops a.tmps) = true) (ty : TypeId) (x : Operand) (ho : o.op = .load ty x)
    (g : Nat) (hx : a.eval x = .pointer (some ⟨g, 0, none⟩)) (t : TypeId) (cs : Array Value) (fr : Nat × Nat) (d : TypeDesc) (hg : w.heap[g]? = some (.cells cs t fr))
    (hu : P.underlying ty = some d) (hd : (match d with | .struct _ | .array _ _ => true | _ => false) = true) (hi : (P.info? ty).map (·.size) = some cs.size)
    (h : wpList P ops Q rest (a.put o.dst (.agg cs)) w) : wpList P ops Q (o :: rest) a w :=
  wpList_step fun K hK => by rw [if_pos hw]; exact wp_load_row ty x ho g hx t cs fr d hg hu hd hi (hK _ _ h)
/-- Are these points? -/
def pointsB (q : Nat) (l : List Nat) : Bool := decide l.Nodup && (decide (0 < l.length) && mayL q l)
def PtsRel (w : World) (n : Nat) (ns : List Nat) (t26 : TypeId) (gr : Array Value) (vi : Value) (wr : World) : Prop :=
  ∃ k : Nat, k ≤ n ∧ vi = .int .i64 (k : Nat) ∧ Grows w wr ∧ Blk wr w.heap.size t26 gr ∧ ∀ j x, j < k → ns[j]? = some x → x ∉ ns.take j
set_option maxRecDepth 100000 in
set_option maxHeartbeats 4000000 in
theorem points_any (gr : Array Value) (q : Nat) (hgr : GroupRow gr q) (A : Option Addr) (cap : Nat) (ns : List Nat) (hlen : ns.length < 9223372036854775808) (hcap : ns.length ≤ cap) (w : World) (hns : NumsAt w A ns) :
    Calls Try.prog 24 #[.agg gr, .slice A ns.length cap] w (BoolEnds w (pointsB q ns)) := by
  obtain ⟨n, hn⟩ : ∃ n : Nat, n = ns.length := ⟨_, rfl⟩
  rw [← hn] at hlen hcap ⊢
  have hi := info_group gr hgr.size
  go_enter Try.func24, Try.ntmps24
  go_upto_region 1 with fail
  have a1 := Blk.new w 26 gr
  have hL0 : Grows w (w.alloc (.cells gr 26)) := (Below.refl _ _).alloc (Nat.le_refl _) _
  change Code.wp _ _ _ _ (w.alloc (.cells gr 26))
  generalize w.alloc (.cells gr 26) = w1 at *
  have HST : Keep (PtsRel w n ns 26 gr (.int .i64 (0 : Nat)) w1) := ⟨⟨0, Nat.zero_le _, rfl, hL0, a1, fun j _ h => absurd h (Nat.not_lt_zero j)⟩⟩
  have HN := hide hn
  have HNS := hide hns
  have HI := hide hi
  clear a1 hL0 hn hns hi
  go_wp2_with fail
  go_loopw [9] (fun vi wr => PtsRel w n ns 26 gr vi wr) (fun i _ => n - (intOf i).toNat)
  case atStart => exact HST.out
  case round =>
    clear HST
    obtain ⟨k, hk, rfl, hL, hA, hno⟩ := hrel
    have KL := hide hL
    have KA := hide hA
    have KO := hide hno
    clear hL hA hno
    by_cases hkn : k < n
    · obtain ⟨y, hy⟩ : ∃ y, ns[k]? = some y := ⟨_, List.getElem?_eq_getElem (by have := HN.out; omega)⟩
      obtain ⟨hyb, b, o, eA, hlt, hrng⟩ := (HNS.out.grow KL.out) k y hy
      subst eA
      have HR := hide hrng
      have HY := hide hy
      clear hrng hy
      have hszG := KA.out.lt
      go_upto_region 4 with (first | (refine wpList_load_mid rfl 24 _ rfl b (o + k * 4) rfl (num y).toList _ HR.out Try.underlying24 rfl info4 ?_) | (refine wpList_store_row rfl 24 (.tmp 6) (.tmp 13) rfl (wr.heap.size) (num y) rfl rfl 24 _ (Blk.new wr _ nought) info4 rfl (num_one _) ?_))
      obtain ⟨R0, L0⟩ := num_box wr 24 (num y)
      change Code.wp _ _ _ _ ((wr.alloc (.cells nought 24)).setRow wr.heap.size (num y))
      generalize (wr.alloc (.cells nought 24)).setRow wr.heap.size (num y) = w2 at *
      have KL2 := hide (Grows.trans KL.out L0)
      have KA2 := hide (KA.out.below L0 KA.out.lt)
      have KX2 := hide R0
      obtain ⟨g6, hg6⟩ : ∃ g : Nat, g = wr.heap.size := ⟨_, rfl⟩
      rw [← hg6] at KX2 ⊢
      clear R0 L0 KL KA hg6 HR hszG
      have lx := load_growsN KX2.out.drew
      have hcon := fun (w' : World) (hw : Grows w2.drew w') => contains_any (some ⟨b, o, none⟩) cap (ns.take k) y hyb (by rw [List.length_take]; omega) w' (((HNS.out.grow (Grows.trans KL2.out (Grows.trans (Below.drew (Below.refl _ _)) hw)))).take k)
      rw [show (ns.take k).length = k by rw [List.length_take]; have := HN.out; omega] at hcon
      have HCON := hide hcon
      clear hcon
      simp only [Act.put]
      by_cases hm : y ∈ ns.take k
      · rw [decide_eq_true hm] at HCON
        have HP : Keep (pointsB q ns = false) := ⟨by
          unfold pointsB
          have : ¬ ns.Nodup := fun h => (nodup_take ns).2 h k y HY.out hm
          rw [decide_eq_false this]
          rfl⟩
        clear hm
        refine wp_region_kinds 5 (by kernel_rfl) (by kernel_rfl) (fun F hF => ?_)
        repeat (first
          | refine kinds_move_is _ rfl (Or.inl rfl) rfl ?_
          | refine kinds_move_is _ rfl (Or.inr rfl) rfl ?_
          | refine kinds_load 6 24 rfl rfl rfl lx ?_
          | refine kinds_off rfl rfl rfl rfl ?_
          | refine kinds_off' rfl rfl rfl ?_
          | ((first | refine kinds_on rfl rfl rfl ?_ | skip)
             apply kinds_is rfl
             · intro ρ wv K hw hf hK
               first | obtain ⟨e0, e1, e2, e3, e4, e5, e6, -⟩ := hf | obtain ⟨e0, e1, e2, e3, e4, e5, -⟩ := hf | obtain ⟨e0, e1, e2, e3, e4, -⟩ := hf | obtain ⟨e0, e1, e2, e3, -⟩ := hf | obtain ⟨e0, e1, e2, -⟩ := hf | obtain ⟨e0, e1, -⟩ := hf | obtain ⟨e0, -⟩ := hf | clear hf
               (try change ρ _ = _ at e0)
               (try change ρ _ = _ at e1)
               (try change ρ _ = _ at e2)
               (try change ρ _ = _ at e3)
               unfold gives
               go_simp
               first
                 | (change Calls _ _ _ _ _; (go_at_call 47; (with_reducible refine (HCON.out _ hw).mono ?_); rintro e w' ⟨rfl, hb⟩; exact ⟨_, rfl, hK _ hb⟩))
                 | ((try go_ints); (try rw [if_pos (by omega)]); exact hK _ (Grows.refl _))))
        refine kinds_nil (hF _ rfl rfl (fun ww hg => ?_))
        clear hF F
        simp only [pushSlot, finish, Act.put, List.setIfInBounds_toArray, List.set_cons_succ, List.set_cons_zero]
        simp only [List.drop_succ_cons, List.drop_zero]
        have KL3 := hide (Grows.trans KL2.out (Grows.trans (Below.drew (Below.refl _ w2)) hg))
        clear hg lx HCON
        go_wp2_with fail
        try rw [Exit.noGoto_ret]
        exact bodyPost_ret (by kernel_rfl) rfl ⟨by rw [HP.out], KL3.out⟩
      · rw [decide_eq_false hm] at HCON
        have KO1 : Keep (∀ j x, j < k + 1 → ns[j]? = some x → x ∉ ns.take j) := ⟨fun j x hj hjx => by
          by_cases hjk : j = k
          · subst hjk
            rw [HY.out] at hjx
            injection hjx with hjx
            rw [← hjx]
            exact hm
          · exact KO.out j x (by omega) hjx⟩
        clear hm
        refine wp_region_kinds 5 (by kernel_rfl) (by kernel_rfl) (fun F hF => ?_)
        repeat (first
          | refine kinds_move_is _ rfl (Or.inl rfl) rfl ?_
          | refine kinds_move_is _ rfl (Or.inr rfl) rfl ?_
          | refine kinds_load 6 24 rfl rfl rfl lx ?_
          | refine kinds_off rfl rfl rfl rfl ?_
          | refine kinds_off' rfl rfl rfl ?_
          | ((first | refine kinds_on rfl rfl rfl ?_ | skip)
             apply kinds_is rfl
             · intro ρ wv K hw hf hK
               first | obtain ⟨e0, e1, e2, e3, e4, e5, e6, -⟩ := hf | obtain ⟨e0, e1, e2, e3, e4, e5, -⟩ := hf | obtain ⟨e0, e1, e2, e3, e4, -⟩ := hf | obtain ⟨e0, e1, e2, e3, -⟩ := hf | obtain ⟨e0, e1, e2, -⟩ := hf | obtain ⟨e0, e1, -⟩ := hf | obtain ⟨e0, -⟩ := hf | clear hf
               (try change ρ _ = _ at e0)
               (try change ρ _ = _ at e1)
               (try change ρ _ = _ at e2)
               (try change ρ _ = _ at e3)
               unfold gives
               go_simp
               first
                 | (change Calls _ _ _ _ _; (go_at_call 47; (with_reducible refine (HCON.out _ hw).mono ?_); rintro e w' ⟨rfl, hb⟩; exact ⟨_, rfl, hK _ hb⟩))
                 | ((try go_ints); (try rw [if_pos (by omega)]); exact hK _ (Grows.refl _))))
        refine kinds_nil (hF _ rfl rfl (fun ww hg => ?_))
        clear hF F
        simp only [pushSlot, finish, Act.put, List.setIfInBounds_toArray, List.set_cons_succ, List.set_cons_zero]
        simp only [List.drop_succ_cons, List.drop_zero]
        have KL3 := hide (Grows.trans KL2.out (Grows.trans (Below.drew (Below.refl _ w2)) hg))
        have KA3 := hide (KA2.out.drew.below hg KA2.out.drew.lt)
        clear hg lx HCON KL2 KA2 KX2 KO
        go_wp2_with fail
        go_roundw
        case rel => exact ⟨k + 1, by omega, by go_num, KL3.out, KA3.out, KO1.out⟩
        case measure => simp [intOf]; omega
    · have hkn' : k = n := by omega
      have HP : Keep (ns.Nodup) := ⟨(nodup_take ns).1 fun j x hjx => KO.out j x (by have := (List.getElem?_eq_some_iff.1 hjx).1; have := HN.out; omega) hjx⟩
      clear hkn
      subst hkn'
      have hmay := may_any gr q hgr A cap ns (by rw [← HN.out]; exact hlen) wr (HNS.out.grow KL.out)
      rw [← HN.out] at hmay
      have hlaw : pointsB q ns = (decide (0 < k) && mayL q ns) := by
        unfold pointsB
        rw [decide_eq_true HP.out, ← HN.out, Bool.true_and]
      by_cases hk0 : 0 < k
      · rw [decide_eq_true hk0, Bool.true_and] at hlaw
        have HLAW := hide hlaw
        have HMAY := hide hmay
        clear hlaw hmay
        go_wp2_with (first | (refine wpList_load_row_on rfl 26 _ rfl (w.heap.size) rfl 26 gr (0, 0) _ KA.out Try.underlying26 rfl HI.out ?_) | fail)
        with_reducible refine HMAY.out.mono ?_
        rintro e w2 ⟨rfl, L⟩
        have KL2 := hide (Grows.trans KL.out L)
        clear L KL KA
        go_wp2_with fail
        try rw [Exit.noGoto_ret]
        exact bodyPost_ret (by kernel_rfl) rfl ⟨by rw [HLAW.out], KL2.out⟩
      · rw [decide_eq_false hk0, Bool.false_and] at hlaw
        have HLAW := hide hlaw
        clear hlaw hmay
        go_wp2_with fail
        try rw [Exit.noGoto_ret]
        exact bodyPost_ret (by kernel_rfl) rfl ⟨by rw [HLAW.out], KL.out⟩
end Go.Proofs.Ythdanjbgbbcafaa
