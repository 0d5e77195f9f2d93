/- polys: weight. -/
import Derived.Test.YthdanjbgbbcafaaPolyI
namespace Go.Proofs.Ythdanjbgbbcafaa
open Go Go.RowKit

/-- What a weight stands below. -/
def denM (q : Nat) (ns : List Nat) (i : Nat) : Nat := prodM q 1 ((ns.eraseIdx i).map fun y => (ns.getD i 0 + q - y) % q)
theorem oneV_is {q : Nat} (hq : 1 < q) : oneV q = 1 := if_pos hq
theorem NumRow.stable (base : Nat) (t24 : TypeId) (ns : List Nat) (v : Value) (w w' : World) (h : NumRow w base t24 v ns) (hg : Grows w w') : NumRow w' base t24 v ns := h.grow hg
set_option maxRecDepth 100000 in
set_option maxHeartbeats 4000000 in
theorem weight_in (gr : Array Value) (q i bf : Nat) (e : Int) (hgr : GroupRow gr q) (he : e = 0 ∨ e = 1 ∨ e = 7) (hq : 1 < q) (A : Option Addr) (cap : Nat) (ns : List Nat) (hall : ∀ y ∈ ns, y < q) (hlen : ns.length ≤ 1000) (hi : i < ns.length) (w : World) (hns : NumsAt w A ns) (BF : Blk w bf 57 (frow gr e)) :
    Calls Try.prog 27 #[.pointer (some ⟨bf, 0, none⟩), .slice A ns.length cap, .int .i64 (i : Nat)] w (FieldEnds w bf 57 gr (invN (denM q ns i) q) (first e (noInv q (denM q ns i)))) := by
  have hbf := BF.lt
  obtain ⟨y, hy⟩ : ∃ y, ns[i]? = some y := ⟨_, List.getElem?_eq_getElem hi⟩
  have hyq := hall y (List.mem_of_getElem? hy)
  have hden : denM q ns i = prodM q 1 ((ns.eraseIdx i).map fun z => (y + q - z) % q) := by
    unfold denM
    rw [List.getD_eq_getElem?_getD, hy]
    rfl
  have hoth := fun (w' : World) (hg : Grows w w') => others_in gr q y i bf e hgr he hq hyq A cap ns hall hlen hi w' (hns.grow hg) (BF.below hg hbf)
  have hol : ((ns.eraseIdx i).map fun z => (y + q - z) % q).length ≤ 1000 := by
    rw [List.length_map]
    exact Nat.le_trans (List.length_eraseIdx_le _ _) hlen
  have hoq : ∀ x ∈ (ns.eraseIdx i).map fun z => (y + q - z) % q, x < q := fun x hx => by
    obtain ⟨z, _, rfl⟩ := List.mem_map.1 hx
    exact Nat.mod_lt _ (by omega)
  obtain ⟨hyb, b, o, eA, hlt, hrng⟩ := hns i y hy
  subst eA
  generalize ((ns.eraseIdx i).map fun z => (y + q - z) % q) = l at *
  have hgat := fun (A2 : Option Addr) (c2 : Nat) (w' : World) (hg : Grows w w') (ha : Away A2 bf l) (hn : NumsAt w' A2 l) => gather_in gr q 1 bf e hgr he hq A2 c2 l hq hoq (by omega) ha w' hn (BF.below hg hbf)
  have hof := fun (w' : World) => sof_one gr q hgr w'
  rw [oneV_is hq] at hof
  have hplt := prodM_lt hq l 1 hq
  rw [← hden] at hgat hplt
  generalize denM q ns i = d at *
  have hund := fun (w' : World) (B : Blk w' bf 57 (frow gr e)) => underF_in gr q d bf e hgr he hq hplt w' B
  generalize ns.length = n at *
  have HOTH := hide hoth
  have HGAT := hide hgat
  have HOF := hide hof
  have HUND := hide hund
  have HNS := hide hns
  have HF := hide BF
  have HR := hide hrng
  clear hoth hgat hof hund hns BF hrng hden hoq hall hy
  go_enter Try.func27, Try.ntmps27
  go_upto_region 1 with fail
  have r1 := Blk.new w 24 nought
  have hL0 : Grows w (w.alloc (.cells nought 24)) := (Below.refl _ _).alloc (Nat.le_refl _) _
  change Code.wp _ _ _ _ (w.alloc (.cells nought 24))
  generalize w.alloc (.cells nought 24) = w1 at *
  have KR := hide r1
  have KL := hide (Grows.trans hL0 (Below.drew (Below.refl _ w1)))
  clear r1 hL0
  have lg : ∀ w', Grows w1.drew w' → (Instr.loadAt 26 (.pointer (some ⟨bf, 0, none⟩))).run Try.prog w' = .ok (.agg gr) w' := fun w' hg => load_group hgr (HF.out.below (Grows.trans KL.out hg) hbf)
  have ly : ∀ w', Grows w1.drew w' → _ := fun w' hg => load_grown hlt HR.out w' (Grows.trans KL.out hg)
  refine wp_region_kinds 17 (by kernel_rfl) (by kernel_rfl) (fun F hF => ?_)
  repeat (first
    | refine kinds_move_is _ rfl (Or.inl rfl) rfl ?_
    | refine kinds_move_is _ rfl (Or.inr rfl) rfl ?_
    | refine kinds_load 10 26 rfl rfl rfl lg ?_
    | refine kinds_load 18 24 rfl rfl rfl ly ?_
    | (apply kinds_like (fun v w' => NumRow w' w.heap.size 24 v l) (NumRow.stable _ _ _) rfl
       · intro ρ wv K hw hf hK
         obtain ⟨e0, e1, e2, e3, e4, -⟩ := hf
         change ρ _ = _ at e0
         change ρ _ = _ at e1
         change ρ _ = _ at e2
         change ρ _ = _ at e3
         change ρ _ = _ at e4
         unfold gives
         go_simp
         change Calls _ _ _ _ _
         go_at_call 40
         with_reducible refine (HOTH.out _ (Grows.trans KL.out hw)).mono ?_
         rintro e w' ⟨v, rfl, hv, hb⟩
         exact ⟨_, rfl, hK _ _ hb (hv.lower (Grows.trans KL.out hw).size)⟩)
    | (apply kinds_is rfl
       · intro ρ wv K hw hf hK
         obtain ⟨e0, e1, e2, e3, -⟩ := hf
         change ρ _ = _ at e0
         change ρ _ = _ at e1
         change NumRow _ _ _ _ _ at e2
         change ρ _ = _ at e3
         obtain ⟨A2, c2, hv2, -, hn2, hf2⟩ := e2.open_
         have HN2 := hide hn2
         have HF2 := hide (show Away A2 bf l from fun b o he => Or.inr (by have := hf2 b o he; omega))
         clear hn2 hf2 e2
         unfold gives
         go_simp
         change Calls _ _ _ _ _
         go_at_call 39
         with_reducible refine (HGAT.out A2 c2 _ (Grows.trans KL.out hw) HF2.out HN2.out).mono ?_
         rintro e w' ⟨rfl, hb⟩
         exact ⟨_, rfl, hK _ hb⟩)
    | refine kinds_off rfl rfl rfl rfl ?_
    | refine kinds_off' rfl rfl rfl ?_
    | ((first | refine kinds_on rfl rfl rfl ?_ | skip)
       apply kinds_is rfl
       · intro ρ wv K hw hf hK
         first | obtain ⟨e0, e1, e2, e3, e4, e5, e6, -⟩ := hf | obtain ⟨e0, e1, e2, e3, e4, e5, -⟩ := hf | obtain ⟨e0, e1, e2, e3, e4, -⟩ := hf | obtain ⟨e0, e1, e2, e3, -⟩ := hf | obtain ⟨e0, e1, e2, -⟩ := hf | obtain ⟨e0, e1, -⟩ := hf | obtain ⟨e0, -⟩ := hf | clear hf
         (try change ρ _ = _ at e0)
         (try change ρ _ = _ at e1)
         (try change ρ _ = _ at e2)
         (try change ρ _ = _ at e3)
         unfold gives
         go_simp
         first
           | (change Calls _ _ _ _ _; (go_at_call 14; (with_reducible refine (HOF.out _).mono ?_); rintro e w' ⟨rfl, hb⟩; exact ⟨_, rfl, hK _ hb⟩))
           | ((try go_ints); (try rw [if_pos (by omega)]); exact hK _ (Grows.refl _))))
  refine kinds_nil (hF _ rfl rfl (fun ww hg => ?_))
  clear hF F
  simp only [pushSlot, finish, Act.put, List.setIfInBounds_toArray, List.set_cons_succ, List.set_cons_zero]
  simp only [List.drop_succ_cons, List.drop_zero]
  intro t20 _
  have KF2 := hide (HF.out.below (Grows.trans KL.out hg) hbf)
  have KR2 := hide (KR.out.drew.below hg KR.out.drew.lt)
  have KL2 := hide (Grows.trans KL.out hg)
  clear hg lg ly KL KR HF HR HNS HOTH HGAT HOF
  generalize invN d q = m at *
  go_wp2_with fail
  with_reducible refine (HUND.out _ KF2.out).mono ?_
  rintro x w2 ⟨rfl, hB, hF⟩
  have KB3 := hide hB
  have KF3 := hide hF
  have KR3 := hide (KR2.out.but hB (notin1 (by omega)))
  clear hB hF KR2 KF2 HUND
  go_wp2_with (first | (refine wpList_store_row rfl 24 (.tmp 6) (.tmp 24) rfl (w.heap.size) (num m) rfl rfl 24 _ (KR3.out) info4 rfl (num_one _) ?_))
  have hS := KR3.out.setRow (num m)
  exact bodyPost_ret (results_num rfl rfl hS) rfl ⟨rfl, But.shrink KL2.out (rows' := [bf, w.heap.size]) ((KB3.out.wider (by simp)).trans (but_setRow (by simp) _)) (by simp), KF3.out.setRow_far (by omega) _⟩
end Go.Proofs.Ythdanjbgbbcafaa
