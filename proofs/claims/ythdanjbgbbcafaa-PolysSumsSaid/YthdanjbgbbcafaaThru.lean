/- polys.Through: walked. -/
import Derived.Test.YthdanjbgbbcafaaWeights
namespace Go.Proofs.Ythdanjbgbbcafaa
open Go Go.RowKit

/-- A sum of polynomials, of the first j coefficients alone. -/
def adX (q : Nat) (a b : List Nat) (j : Nat) : List Nat := (List.range a.length).map fun m => if m < j then (a.getD m 0 + b.getD m 0) % q else a.getD m 0
theorem adX_len (q : Nat) (a b : List Nat) (j : Nat) : (adX q a b j).length = a.length := by simp [adX]
theorem adX_zero (q : Nat) (a b : List Nat) : adX q a b 0 = a := by
  apply List.ext_getElem (by simp [adX])
  intro i h1 h2
  simp only [adX, List.getElem_map, List.getElem_range]
  rw [if_neg (by omega), List.getD_eq_getElem?_getD, List.getElem?_eq_getElem h2]
  rfl
theorem adX_at (q : Nat) (a b : List Nat) {j : Nat} (hj : j < a.length) : (adX q a b j)[j]? = some (a.getD j 0) := by
  unfold adX
  rw [List.getElem?_map, List.getElem?_range hj]
  simp
theorem adX_step (q : Nat) (a b : List Nat) (j : Nat) : (adX q a b j).set j ((a.getD j 0 + b.getD j 0) % q) = adX q a b (j + 1) := by
  apply List.ext_getElem (by simp [adX])
  intro i h1 h2
  rw [List.getElem_set]
  simp only [adX, List.getElem_map, List.getElem_range]
  by_cases e : j = i
  · subst e
    rw [if_pos rfl, if_pos (by omega)]
  · rw [if_neg e]
    by_cases h : i < j
    · rw [if_pos h, if_pos (by omega)]
    · rw [if_neg h, if_neg (by omega)]
theorem adX_lt {q : Nat} (hq : 1 < q) {a : List Nat} (b : List Nat) (j : Nat) (ha : ∀ x ∈ a, x < q) : ∀ x ∈ adX q a b j, x < q := fun x hx => by
  unfold adX at hx
  obtain ⟨m, _, rfl⟩ := List.mem_map.1 hx
  split
  · exact Nat.mod_lt _ (by omega)
  · exact getD_lt (by omega) ha m
/-- A point's part of the polynomial, of the first k points. -/
def parM (q : Nat) (ns : List Nat) (i s : Nat) : Nat → List Nat
  | 0 => [s]
  | k + 1 => if k = i then parM q ns i s k else lonM q (ns.getD k 0) 0 (parM q ns i s k)
theorem parM_len (q : Nat) (ns : List Nat) (i s : Nat) : ∀ k, (parM q ns i s k).length = if k ≤ i then k + 1 else k
  | 0 => by simp [parM]
  | k + 1 => by
    have ih := parM_len q ns i s k
    unfold parM
    by_cases e : k = i
    · rw [if_pos e, ih, if_pos (by omega), if_neg (by omega)]
    · rw [if_neg e, lonM_len, ih]
      by_cases h : k + 1 ≤ i
      · rw [if_pos (by omega), if_pos h]
      · rw [if_neg (by omega), if_neg h]
theorem parM_lt {q : Nat} (hq : 1 < q) (ns : List Nat) (i : Nat) {s : Nat} (hs : s < q) : ∀ k, ∀ x ∈ parM q ns i s k, x < q
  | 0, x, hx => by
    simp only [parM, List.mem_cons, List.not_mem_nil, or_false] at hx
    subst hx
    exact hs
  | k + 1, x, hx => by
    unfold parM at hx
    split at hx
    · exact parM_lt hq ns i hs k x hx
    · exact lonM_lt hq _ 0 (by omega) (parM_lt hq ns i hs k) x hx
noncomputable def topM (q : Nat) (ns vs : List Nat) (i : Nat) : Nat := invN (denM q ns i) q * vs.getD i 0 % q
noncomputable def thM (q : Nat) (ns vs : List Nat) : Nat → List Nat
  | 0 => List.replicate ns.length 0
  | i + 1 => adX q (thM q ns vs i) (parM q ns i (topM q ns vs i) ns.length) ns.length
theorem thM_len (q : Nat) (ns vs : List Nat) : ∀ i, (thM q ns vs i).length = ns.length
  | 0 => by simp [thM]
  | i + 1 => by rw [thM, adX_len, thM_len q ns vs i]
theorem thM_lt {q : Nat} (hq : 1 < q) (ns vs : List Nat) : ∀ i, ∀ x ∈ thM q ns vs i, x < q
  | 0, x, hx => by
    rw [thM, List.mem_replicate] at hx
    omega
  | i + 1, x, hx => adX_lt hq _ _ (thM_lt hq ns vs i) x hx
def thOk (q : Nat) (ns vs : List Nat) : Bool := pointsB q ns && (decide (vs.length = ns.length) && mayL q vs)
noncomputable def thN (q : Nat) (ns vs : List Nat) : List Nat := if thOk q ns vs = true then (if errM q ns ns.length = 0 then thM q ns vs ns.length else []) else []
def thE (q : Nat) (ns vs : List Nat) : Int := if thOk q ns vs = true then (if errM q ns ns.length = 0 then 0 else 7) else 1
structure ThMem (w : World) (gr : Array Value) (t57 t24 : TypeId) (bf g : Nat) (e : Int) (l : List Nat) (W : World) : Prop where
  below : Below w.heap.size w W
  F : Blk W bf t57 (frow gr e)
  O : Blk W g t24 (cellsOf l).toArray
theorem ThMem.grow {w W W' : World} {gr : Array Value} {t57 t24 : TypeId} {bf g : Nat} {e : Int} {l : List Nat} (h : ThMem w gr t57 t24 bf g e l W) (hg : Grows W W') : ThMem w gr t57 t24 bf g e l W' :=
  ⟨below_trans_grows h.below hg h.below.size, h.F.below hg h.F.lt, h.O.below hg h.O.lt⟩
def Th1 (w : World) (n : Nat) (gr : Array Value) (t57 t24 : TypeId) (bf g : Nat) (es : Nat → Int) (th : Nat → List Nat) (vi : Value) (wr : World) : Prop :=
  ∃ i : Nat, i ≤ n ∧ vi = .int .i64 (i : Nat) ∧ ThMem w gr t57 t24 bf g (es i) (th i) wr
def Th2 (w : World) (n : Nat) (gr : Array Value) (t57 t24 : TypeId) (bf g N1 : Nat) (e : Int) (l : List Nat) (pr : Nat → List Nat) (vp vk : Value) (wr : World) : Prop :=
  ∃ k : Nat, k ≤ n ∧ vk = .int .i64 (k : Nat) ∧ N1 ≤ wr.heap.size ∧ ThMem w gr t57 t24 bf g e l wr ∧ NumRow wr N1 t24 vp (pr k)
def Th3 (w : World) (n : Nat) (gr : Array Value) (t57 t24 : TypeId) (bf g N1 : Nat) (e : Int) (sts : Nat → List Nat) (vp : Value) (p : List Nat) (vj : Value) (wr : World) : Prop :=
  ∃ j : Nat, j ≤ n ∧ vj = .int .i64 (j : Nat) ∧ ThMem w gr t57 t24 bf g e (sts j) wr ∧ NumRow wr N1 t24 vp p
theorem NumRow.one {w : World} {base : Nat} {t24 : TypeId} (s : Nat) (hs : s < big) (hb : base ≤ w.heap.size) : NumRow (w.alloc (.cells (num s) t24)) base t24 (.slice (some ⟨w.heap.size, 0, none⟩) 1 1) [s] := by
  have h := NumRow.of_blk (base := base) (ns := [s]) (t := t24) (g := w.heap.size) (w := w.alloc (.cells (num s) t24)) (Blk.new _ _ _) hb (fun x hx => by simp only [List.mem_cons, List.not_mem_nil, or_false] at hx; subst hx; exact hs) (by simp [maxLen])
  exact h
set_option maxRecDepth 100000 in
set_option maxHeartbeats 8000000 in
theorem through_any (gr : Array Value) (q : Nat) (hgr : GroupRow gr q) (A : Option Addr) (cap : Nat) (ns : List Nat) (hlen : ns.length ≤ 1000) (hcap : ns.length ≤ cap) (A' : Option Addr) (cap' : Nat) (vs : List Nat) (hlenv : vs.length ≤ 1000) (w : World) (hns : NumsAt w A ns) (hvs : NumsAt w A' vs) :
    Calls Try.prog 11 #[.agg gr, .slice A ns.length cap, .slice A' vs.length cap'] w (RowErr w 24 (thN q ns vs) (thE q ns vs)) := by
  have hb0 := built_field gr hgr.size
  have hi := info_group gr hgr.size
  have hpts := fun (w' : World) (h : NumsAt w' A ns) => points_any gr q hgr A cap ns (by omega) hcap w' h
  have hmayv := fun (w' : World) (h : NumsAt w' A' vs) => may_any gr q hgr A' cap' vs (by omega) w' h
  have HB0 := hide hb0
  have HI := hide hi
  have HPTS := hide hpts
  have HMAYV := hide hmayv
  have HNS := hide hns
  have HVS := hide hvs
  generalize hn : ns.length = n at *
  generalize hnv : vs.length = nv at *
  have HN := hide hn
  have HNV := hide hnv
  clear hb0 hi hpts hmayv hns hvs hn hnv
  go_enter Try.func11, Try.ntmps11
  go_upto_region 1 with fail
  have g1 := Blk.new w 26 gr
  have hL0 : Grows w (w.alloc (.cells gr 26)) := (Below.refl _ _).alloc (Nat.le_refl _) _
  change Code.wp _ _ _ _ (w.alloc (.cells gr 26))
  generalize w.alloc (.cells gr 26) = w1 at *
  have KG := hide g1
  have KL := hide hL0
  clear g1 hL0
  by_cases hm : pointsB q ns = true
  · have HM := hide hm
    clear hm
    by_cases hnn : nv = n
    · have hnn' : (nv : Int) = (n : Int) := by omega
      have HNN := hide hnn
      clear hnn
      go_wp2_with (first | (refine wpList_load_row rfl 26 _ rfl (w.heap.size) rfl 26 gr (0, 0) _ KG.out Try.underlying26 rfl HI.out ?_) | fail)
      with_reducible refine (HPTS.out _ (HNS.out.grow KL.out)).mono ?_
      rintro e w2 ⟨rfl, L⟩
      rw [HM.out]
      have KG2 := hide (KG.out.below L KG.out.lt)
      have KL2 := hide (Grows.trans KL.out L)
      clear L KG KL
      go_wp2_with (first | (refine wpList_load_row_on rfl 26 _ rfl (w.heap.size) rfl 26 gr (0, 0) _ KG2.out Try.underlying26 rfl HI.out ?_) | fail)
      with_reducible refine (HMAYV.out _ (HVS.out.grow KL2.out)).mono ?_
      rintro e w3 ⟨rfl, L⟩
      have KG3 := hide (KG2.out.below L KG2.out.lt)
      have KL3 := hide (Grows.trans KL2.out L)
      clear L KG2 KL2 HPTS HMAYV
      by_cases hmv : mayL q vs = true
      · rw [hmv]
        have hok : thOk q ns vs = true := by unfold thOk; rw [HM.out, HN.out, HNV.out, decide_eq_true HNN.out, hmv]; rfl
        have HOK := hide hok
        obtain ⟨_, hn0, hq, hall⟩ := pointsB_spec HM.out
        have hvall := (mayL_spec hmv).2
        have HALL := hide hall
        have HVALL := hide hvall
        rw [HN.out] at hn0
        clear hmv hok hall hvall HM
        go_upto_region 3 with fail
        have lg := load_grp_grows hgr KG3.out.drew
        refine wp_region_kinds 8 (by kernel_rfl) (by kernel_rfl) (fun F hF => ?_)
        repeat (first
          | refine kinds_move_is _ rfl (Or.inl rfl) rfl ?_
          | refine kinds_move_is _ rfl (Or.inr rfl) rfl ?_
          | refine kinds_load 3 26 rfl rfl rfl lg ?_
          | (apply kinds_is rfl
             · intro ρ wv K hw hf hK
               obtain ⟨e0, -⟩ := hf
               change ρ _ = _ at e0
               unfold gives
               simp only [execOp, List.map_toArray, List.map_cons, List.map_nil, e0, Sem.run_bind, build_field gr hgr.size, Result.andThen_ok, Sem.run_pure, givesUpon]
               exact hK _ (Grows.refl _))
          | (apply kinds_like (PtrRow w3.heap.size 57 (frow gr 0)) (PtrRow.grow _ _ _) rfl
             · intro ρ wv K hw hf hK
               obtain ⟨e0, -⟩ := hf
               change ρ _ = _ at e0
               unfold gives
               simp only [execOp, e0, Instr.box, newVar, Sem.run_bind, Sem.run_pure, givesUpon]
               exact hK _ _ ((Below.refl _ _).alloc (Nat.le_refl _) _) ⟨_, hw.size, rfl, Blk.new _ _ _⟩)
          | (apply kinds_like (SlRow w3.heap.size 24 n (cellsOf (List.replicate n 0)).toArray) (SlRow.grow _ _ _ _) rfl
             · intro ρ wv K hw hf hK
               obtain ⟨e0, e1, -⟩ := hf
               change ρ _ = _ at e0
               unfold gives
               simp only [execOp, e0, make_nums n (by omega), Sem.run_bind, Result.andThen_ok, Sem.run_pure, givesUpon]
               exact hK _ _ ((Below.refl _ _).alloc (Nat.le_refl _) _) ⟨_, hw.size, rfl, Blk.new _ _ _⟩)
          | refine kinds_move 33 (.like (PtrRow w3.heap.size 57 (frow gr 0))) rfl (Or.inr rfl) rfl (PtrRow.grow _ _ _) ?_
          | refine kinds_move 36 (.like (SlRow w3.heap.size 24 n (cellsOf (List.replicate n 0)).toArray)) rfl (Or.inr rfl) rfl (SlRow.grow _ _ _ _) ?_
          | refine kinds_off rfl rfl rfl rfl ?_
          | refine kinds_off' rfl rfl rfl ?_
          | ((first | refine kinds_on rfl rfl rfl ?_ | skip)
             apply kinds_is rfl
             · intro ρ wv K hw hf hK
               first | obtain ⟨e0, e1, e2, e3, e4, e5, e6, -⟩ := hf | obtain ⟨e0, e1, e2, e3, e4, e5, -⟩ := hf | obtain ⟨e0, e1, e2, e3, e4, -⟩ := hf | obtain ⟨e0, e1, e2, e3, -⟩ := hf | obtain ⟨e0, e1, e2, -⟩ := hf | obtain ⟨e0, e1, -⟩ := hf | obtain ⟨e0, -⟩ := hf | clear hf
               (try change ρ _ = _ at e0)
               (try change ρ _ = _ at e1)
               (try change ρ _ = _ at e2)
               (try change ρ _ = _ at e3)
               unfold gives
               go_simp
               (try go_ints)
               (try rw [if_pos (by omega)])
               exact hK _ (Grows.refl _)))
        refine kinds_nil (hF _ rfl rfl (fun ww hg => ?_))
        clear hF F
        simp only [pushSlot, finish, Act.put, List.setIfInBounds_toArray, List.set_cons_succ, List.set_cons_zero]
        simp only [List.drop_succ_cons, List.drop_zero]
        rintro x1 - x2 - v8 ⟨bf, hbf, rfl, BF⟩ v9 ⟨g, hg9, rfl, BG⟩
        have hbg : bf ≠ g := BF.ne_ BG (by decide)
        have hs4 := KL3.out.size
        have M0 : ThMem w gr 57 24 bf g (errM q ns 0) (thM q ns vs 0) ww := ⟨below_trans_grows KL3.out.drew hg hs4, BF, by rw [thM, HN.out]; exact BG⟩
        have hstep : ∀ i, thM q ns vs (i + 1) = adX q (thM q ns vs i) (parM q ns i (topM q ns vs i) ns.length) ns.length := fun i => rfl
        have hln := thM_len q ns vs
        have hthl := thM_lt hq ns vs
        have herr : ∀ k, errM q ns (k + 1) = first (errM q ns k) (noInv q (denM q ns k)) := fun k => rfl
        have hein := errM_in q ns
        have he7 := errM_7 q ns ns.length
        have hfin : thN q ns vs = (if errM q ns ns.length = 0 then thM q ns vs ns.length else []) ∧ thE q ns vs = (if errM q ns ns.length = 0 then 0 else 7) := ⟨by unfold thN; rw [if_pos HOK.out], by unfold thE; rw [if_pos HOK.out]⟩
        have htop : ∀ i, topM q ns vs i = invN (denM q ns i) q * vs.getD i 0 % q := fun i => rfl
        have hden := fun k => invN_le hq (denM q ns k)
        generalize errM q ns = es at *
        generalize thM q ns vs = th at *
        generalize topM q ns vs = tp at *
        rw [HN.out] at he7 hfin
        simp only [HN.out] at hstep hln
        have HSTEP := hide hstep
        have HLN := hide hln
        have HTHL := hide hthl
        have HFIN := hide hfin
        have HERR := hide herr
        have HEIN := hide hein
        have HTOP := hide htop
        have HDEN := hide hden
        have HST : Keep (Th1 w n gr 57 24 bf g es th (.int .i64 (0 : Nat)) ww) := ⟨⟨0, Nat.zero_le _, rfl, M0⟩⟩
        clear hg lg BF BG M0 hstep hln hthl hfin herr hein htop hden KG3 KL3 HB0 HI HOK
        go_wp2_with fail
        go_loopw [39] (fun vi wr => Th1 w n gr 57 24 bf g es th vi wr) (fun i _ => n - (intOf i).toNat)
        case atStart => exact HST.out
        case round =>
          clear HST
          obtain ⟨i, hi, rfl, hM⟩ := hrel
          by_cases hin : i < n
          · have hbf' := hM.F.lt
            have hg' := hM.O.lt
            have hszr := hM.below.size
            have hden := HDEN.out i
            have herr := HERR.out i
            have hek := HEIN.out i
            have hek1 := HEIN.out (i + 1)
            have hst := HSTEP.out i
            have htop := HTOP.out i
            have hal := HALL.out
            obtain ⟨v, hv⟩ : ∃ v, vs[i]? = some v := ⟨_, List.getElem?_eq_getElem (by have := HNV.out; have := HNN.out; omega)⟩
            have hvq := HVALL.out v (List.mem_of_getElem? hv)
            rw [show vs.getD i 0 = v by rw [List.getD_eq_getElem?_getD, hv]; rfl] at htop
            obtain ⟨hvb, ba, o, eA, hlt, hrng⟩ := HVS.out i v hv
            have hbase : ∀ wv, But [bf] wr.drew wv → Below w.heap.size w wv := fun wv hw => But.below (Below.drew hM.below) hw hszr (by simp; omega)
            have HW : Keep (∀ wv, But [bf] wr.drew wv → Blk wv bf 57 (frow gr (es i)) → Calls Try.prog 27 #[.pointer (some ⟨bf, 0, none⟩), .slice A n cap, .int .i64 (i : Nat)] wv (FieldEnds wv bf 57 gr (invN (denM q ns i) q) (es (i + 1)))) := ⟨fun wv hw B => by
              have h := weight_in gr q i bf (es i) hgr hek hq A cap ns hal (by rw [HN.out]; exact hlen) (by rw [HN.out]; exact hin) wv (HNS.out.grow (hbase wv hw)) B
              rw [← herr, HN.out] at h
              exact h⟩
            generalize invN (denM q ns i) q = m at *
            have HT : Keep (∀ wv, FieldAny bf 57 gr wv → Calls Try.prog 26 #[.pointer (some ⟨bf, 0, none⟩), .agg (num m), .agg (num v)] wv (NumEnds wv (tp i))) := ⟨fun wv hf => by
              obtain ⟨e', he', B⟩ := hf
              rw [htop]
              exact timesF_in gr q m v bf e' hgr he' hq hden hvq wv B⟩
            have hsq : tp i < q := by rw [htop]; exact Nat.mod_lt _ (by omega)
            have hpl := parM_len q ns i (tp i)
            have hpq := parM_lt hq ns i hsq
            have hps : ∀ k, parM q ns i (tp i) (k + 1) = if k = i then parM q ns i (tp i) k else lonM q (ns.getD k 0) 0 (parM q ns i (tp i) k) := fun k => rfl
            have hp0 : parM q ns i (tp i) 0 = [tp i] := rfl
            generalize tp i = s at *
            generalize parM q ns i s = pr at *
            have HPL := hide hpl
            have HPQ := hide hpq
            have HPS := hide hps
            have HP0 := hide hp0
            have HSTP := hide hst
            have lv : ∀ w', But [bf] wr.drew w' → _ := fun w' hg => load_butNum (rows := [bf]) (w := w) hlt hrng (notin1 (by omega)) w' ((But.of_grows (show Grows w wr.drew from Below.drew hM.below)).trans hg)
            have KM := hide hM
            subst eA
            clear hst hM hbase herr htop hal hpl hpq hps hp0 hv hrng hlt hden
            go_upto_region 7 with fail
            refine wp_region_kindsR [bf] [effKeep 4 bf 57 gr (es i) (es (i + 1)), effAny 9 bf 57 gr] (by kernel_rfl) (by kernel_rfl) (effs_keep (by decide) hek hek1 KM.out.F.drew) rfl (fun F hF => ?_)
            repeat (first
              | refine kindsR_move_is _ rfl rfl (Or.inl rfl) rfl ?_
              | refine kindsR_move_is _ rfl rfl (Or.inr rfl) rfl ?_
              | refine kindsR_load 49 24 rfl rfl rfl rfl lv ?_
              | (refine kindsR_act (v := .agg (num m)) (effKeep 4 bf 57 gr (es i) (es (i + 1))) (List.Mem.head _) rfl rfl ?_ ?_
                 · intro ρ wv K hw hG hf hK
                   obtain ⟨e0, e1, e2, e3, -⟩ := hf
                   change ρ _ = _ at e0
                   change ρ _ = _ at e1
                   change ρ _ = _ at e2
                   change ρ _ = _ at e3
                   unfold gives
                   go_simp
                   change Calls _ _ _ _ _
                   go_at_call 27
                   with_reducible refine (HW.out _ hw hG).mono ?_
                   rintro x w' ⟨rfl, hb, hF⟩
                   exact ⟨_, rfl, hK _ hb ⟨hb, hF⟩ hF⟩)
              | (refine kindsR_act (v := .agg (num s)) (effAny 9 bf 57 gr) (List.Mem.tail _ (List.Mem.head _)) rfl rfl ?_ ?_
                 · intro ρ wv K hw hG hf hK
                   obtain ⟨e0, e1, e2, e3, -⟩ := hf
                   change ρ _ = _ at e0
                   change ρ _ = _ at e1
                   change ρ _ = _ at e2
                   change ρ _ = _ at e3
                   unfold gives
                   go_simp
                   change Calls _ _ _ _ _
                   go_at_call 26
                   with_reducible refine (HT.out _ hG).mono ?_
                   rintro e w' ⟨rfl, hb⟩
                   exact ⟨_, rfl, hK _ (But.of_grows hb) hb True.intro⟩)
              | (refine kindsR_like (fun v w' => NumRow w' wr.heap.size 24 v [s]) (fun v w1 w2 h hb => h.but hb (by simp; omega)) rfl rfl ?_ ?_
                 · intro ρ wv K hw hf hK
                   obtain ⟨e0, -⟩ := hf
                   change ρ _ = _ at e0
                   unfold gives
                   simp only [execOp, List.map_toArray, List.map_cons, List.map_nil, e0, Sem.run_bind, buildSlice_num, Result.andThen_ok, Sem.run_pure, givesUpon]
                   exact hK _ _ ((Below.refl _ _).alloc (Nat.le_refl _) _) (NumRow.one s (Nat.lt_trans hsq hgr.lt) hw.size))
              | refine kindsR_move 52 (.like (fun v w' => NumRow w' wr.heap.size 24 v [s])) rfl rfl (Or.inr rfl) rfl (fun v w1 w2 h hb => h.but hb (by simp; omega)) ?_
              | (apply kindsR_is rfl rfl
                 · intro ρ wv K hw hf hK
                   first | obtain ⟨e0, e1, e2, e3, e4, e5, e6, -⟩ := hf | obtain ⟨e0, e1, e2, e3, e4, e5, -⟩ := hf | obtain ⟨e0, e1, e2, e3, e4, -⟩ := hf | obtain ⟨e0, e1, e2, e3, -⟩ := hf | obtain ⟨e0, e1, e2, -⟩ := hf | obtain ⟨e0, e1, -⟩ := hf | obtain ⟨e0, -⟩ := hf | clear hf
                   (try change ρ _ = _ at e0)
                   (try change ρ _ = _ at e1)
                   (try change ρ _ = _ at e2)
                   (try change ρ _ = _ at e3)
                   unfold gives
                   go_simp
                   (try go_ints)
                   (try rw [if_pos (by omega)])
                   exact hK _ (Grows.refl _)))
            refine kindsR_nil (hF _ rfl rfl (fun ww hg hfx => ?_))
            clear hF F
            simp only [pushSlot, finish, Act.put, List.setIfInBounds_toArray, List.set_cons_succ, List.set_cons_zero]
            rintro t52 - t11 hpr
            have hF2 : Blk ww bf 57 (frow gr (es (i + 1))) := hfx _ (List.Mem.head _)
            have KM2 := hide (show ThMem w gr 57 24 bf g (es (i + 1)) (th i) ww from ⟨But.below (Below.drew KM.out.below) hg hszr (by simp; omega), hF2, KM.out.O.drew.but hg (notin1 (Ne.symm hbg))⟩)
            have HST2 : Keep (Th2 w n gr 57 24 bf g wr.heap.size (es (i + 1)) (th i) pr t11 (.int .i64 (0 : Nat)) ww) := ⟨⟨0, Nat.zero_le _, rfl, hg.size, KM2.out, by rw [HP0.out]; exact hpr⟩⟩
            clear hF2 hg hfx lv HW HT KM KM2 hek hpr
            generalize wr.heap.size = N1 at *
            go_wp2_with fail
            go_loopw [11, 55] (fun vp vk wr => Th2 w n gr 57 24 bf g N1 (es (i + 1)) (th i) pr vp vk wr) (fun _ i _ => n - (intOf i).toNat)
            case atStart => exact HST2.out
            case round =>
              clear HST2
              obtain ⟨k, hk, rfl, hN1, hM, hP⟩ := hrel
              by_cases hkn : k < n
              · by_cases hki : k = i
                · have hki' : (k : Int) = (i : Int) := by omega
                  have hps := HPS.out k
                  rw [if_pos hki] at hps
                  have KM := hide hM
                  have KP := hide hP
                  have HPSk := hide hps
                  clear hM hP hps hki
                  go_wp2_with fail
                  go_roundw
                  case rel => exact ⟨k + 1, by omega, by go_num, hN1, KM.out, by rw [HPSk.out]; exact KP.out⟩
                  case measure => simp [intOf]; omega
                · have hki' : ¬ (k : Int) = (i : Int) := by omega
                  obtain ⟨y, hy⟩ : ∃ y, ns[k]? = some y := ⟨_, List.getElem?_eq_getElem (by have := HN.out; omega)⟩
                  have hyq := HALL.out y (List.mem_of_getElem? hy)
                  have hps := HPS.out k
                  rw [if_neg hki, show ns.getD k 0 = y by rw [List.getD_eq_getElem?_getD, hy]; rfl] at hps
                  obtain ⟨hyb, ba2, o2, eA2, hlt2, hrng2⟩ := (HNS.out.grow hM.below) k y hy
                  obtain ⟨A2, c2, rfl, -, hn2, -⟩ := hP.open_
                  have hpl := HPL.out k
                  have hpq := HPQ.out k
                  have HLON : Keep (Calls Try.prog 28 #[.pointer (some ⟨bf, 0, none⟩), .slice A2 (pr k).length c2, .agg (num y)] _ (RowEnds _ 24 (lonM q y 0 (pr k)))) := ⟨longer_in gr q y bf (es (i + 1)) hgr hek1 hq hyq A2 c2 (pr k) hpq (by rw [hpl]; split <;> omega) _ hn2 hM.F⟩
                  have hszN := hM.F.lt
                  have KM := hide hM
                  have HPSk := hide hps
                  have HR := hide hrng2
                  subst eA2
                  generalize (pr k).length = pl at *
                  clear hM hP hps hki hpl hpq hn2 hrng2 hy
                  go_wp2_with (first | (refine wpList_load_mid rfl 24 _ rfl ba2 (o2 + k * 4) rfl (num y).toList _ HR.out Try.underlying24 rfl info4 ?_) | fail)
                  with_reducible refine HLON.out.mono ?_
                  rintro x w5 ⟨v2, rfl, hv2, hb⟩
                  have KM2 := hide (KM.out.grow hb)
                  have KP2 := hide (show NumRow w5 N1 24 v2 (pr (k + 1)) by rw [HPSk.out]; exact hv2.lower hN1)
                  have hN1' := Nat.le_trans hN1 hb.size
                  clear hb hv2 KM HR HLON HPSk
                  go_wp2_with fail
                  go_roundw
                  case rel => exact ⟨_, _, _, _, _, _, _, _, _, _, _, _, _, _, _, _, ⟨k + 1, by omega, by go_num, hN1', KM2.out, KP2.out⟩, rfl⟩
                  case measure => simp [intOf]; omega
              · have hkn' : k = n := by omega
                subst hkn'
                have hpl := HPL.out k
                rw [if_neg (by omega)] at hpl
                have hpq := HPQ.out k
                obtain ⟨A2, c2, hv2, -, hn2, hf2⟩ := hP.open_
                rw [hpl] at hv2
                subst hv2
                have hl := HLN.out i
                have htl := HTHL.out i
                have hstp := HSTP.out
                have hat := fun j (hj : j < k) => adX_at q (th i) (pr k) (j := j) (by rw [hl]; exact hj)
                have hsts := adX_step q (th i) (pr k)
                have hsl := adX_len q (th i) (pr k)
                have hst0 := adX_zero q (th i) (pr k)
                have hpg := fun j => getD_lt (q := q) (i := j) (by omega) hpq
                have htg := fun j => getD_lt (q := q) (i := j) (by omega) htl
                generalize hsteq : adX q (th i) (pr k) = sts at *
                have HP := hide hP
                have HSTP2 := hide hstp
                have HAT := hide hat
                have HSTS := hide hsts
                have HSL := hide hsl
                have HPL2 := hide hpl
                have HPG := hide hpg
                have HTG := hide htg
                have HF2 := hide hf2
                have HLi := hide hl
                have HST3 : Keep (Th3 w k gr 57 24 bf g N1 (es (i + 1)) sts (.slice A2 k c2) (pr k) (.int .i64 (0 : Nat)) wr) := ⟨⟨0, Nat.zero_le _, rfl, by rw [hst0]; exact hM, hP⟩⟩
                clear hM hP hpl hpq hl htl hstp hat hsts hsl hst0 hpg htg hn2 hf2 hsteq hk hkn HSTP
                go_wp2_with fail
                go_loopw [71] (fun vj wr => Th3 w k gr 57 24 bf g N1 (es (i + 1)) sts (.slice A2 k c2) (pr k) vj wr) (fun i _ => k - (intOf i).toNat)
                case atStart => exact HST3.out
                case round =>
                  clear HST3
                  obtain ⟨j, hj, rfl, hM, hP⟩ := hrel
                  by_cases hjn : j < k
                  · have hbq := HPG.out j
                    have haq := HTG.out j
                    have hat := HAT.out j hjn
                    have hst := HSTS.out j
                    have hlj : j < (sts j).length := by rw [HSL.out, HLi.out]; exact hjn
                    obtain ⟨b, hb⟩ : ∃ b, (pr k)[j]? = some b := ⟨_, List.getElem?_eq_getElem (by rw [HPL2.out]; exact hjn)⟩
                    rw [show (pr k).getD j 0 = b by rw [List.getD_eq_getElem?_getD, hb]; rfl] at hbq hst
                    obtain ⟨A3, c3, hv3, -, hn3, hf3⟩ := hP.open_
                    rw [HPL2.out] at hv3
                    injection hv3 with hA3 _ _
                    subst hA3
                    obtain ⟨hbb, ba3, o3, eA3, hlt3, hrng3⟩ := hn3 j b hb
                    have hba3 := hf3 ba3 o3 eA3
                    generalize (th i).getD j 0 = a at *
                    have hd : But [g] wr wr.drew := But.of_grows (Below.drew (Below.refl _ wr))
                    have HPLUS : Keep (∀ w', But [g] wr.drew w' → Calls Try.prog 29 #[.pointer (some ⟨bf, 0, none⟩), .agg (num a), .agg (num b)] w' (NumEnds w' ((a + b) % q))) := ⟨fun w' hg => plusF_in gr q a b bf (es (i + 1)) hgr hek1 hq haq hbq w' (hM.F.but (hd.trans hg) (notin1 hbg))⟩
                    generalize (a + b) % q = d at *
                    have lp : ∀ w', But [g] wr.drew w' → _ := fun w' hg => load_butNum (rows := [g]) hlt3 hrng3 (notin1 (by omega)) w' (hd.trans hg)
                    have HST := hide hst
                    have HAT3 := hide hat
                    have HLJ := hide hlj
                    have KM := hide hM
                    have KP := hide hP
                    have hszr := hM.below.size
                    subst eA3
                    clear hM hP hst hat hlj hb hn3 hf3 hrng3 hlt3 hd
                    go_upto_region 17 with fail
                    refine wp_region_kindsR [g] [effNum 13 g j 24 (sts j) d] (by kernel_rfl) (by kernel_rfl) (effs_num KM.out.O.drew) rfl (fun F hF => ?_)
                    repeat (first
                      | refine kindsR_move_is _ rfl rfl (Or.inl rfl) rfl ?_
                      | refine kindsR_move_is _ rfl rfl (Or.inr rfl) rfl ?_
                      | refine kindsR_preload 79 24 (effNum 13 g j 24 (sts j) d) (List.Mem.head _) (by kernel_rfl) rfl rfl rfl rfl (fun w' hG => load_at (Blk.numAt hG HAT3.out)) ?_
                      | refine kindsR_load 83 24 rfl rfl rfl rfl lp ?_
                      | refine kindsR_num 86 85 24 g j 24 (sts j) d rfl rfl rfl rfl rfl (List.Mem.head _) (List.Mem.head _) info4 HLJ.out ?_
                      | (apply kindsR_is rfl rfl
                         · intro ρ wv K hw hf hK
                           first | obtain ⟨e0, e1, e2, e3, e4, e5, e6, -⟩ := hf | obtain ⟨e0, e1, e2, e3, e4, e5, -⟩ := hf | obtain ⟨e0, e1, e2, e3, e4, -⟩ := hf | obtain ⟨e0, e1, e2, e3, -⟩ := hf | obtain ⟨e0, e1, e2, -⟩ := hf | obtain ⟨e0, e1, -⟩ := hf | obtain ⟨e0, -⟩ := hf | clear hf
                           (try change ρ _ = _ at e0)
                           (try change ρ _ = _ at e1)
                           (try change ρ _ = _ at e2)
                           (try change ρ _ = _ at e3)
                           unfold gives
                           go_simp
                           first
                             | (change Calls _ _ _ _ _; (go_at_call 29; (with_reducible refine (HPLUS.out _ hw).mono ?_); rintro e w' ⟨rfl, hb⟩; exact ⟨_, rfl, hK _ hb⟩))
                             | ((try go_ints); (try rw [if_pos (by omega)]); exact hK _ (Grows.refl _))))
                    refine kindsR_nil (hF _ rfl rfl (fun ww hg hfx => ?_))
                    clear hF F
                    simp only [pushSlot, finish, Act.put, List.setIfInBounds_toArray, List.set_cons_succ, List.set_cons_zero]
                    have hO2 : Blk ww g 24 (cellsOf ((sts j).set j d)).toArray := hfx _ (List.Mem.head _)
                    rw [HST.out] at hO2
                    have KM2 := hide (show ThMem w gr 57 24 bf g (es (i + 1)) (sts (j + 1)) ww from ⟨But.below (Below.drew KM.out.below) hg hszr (by simp; omega), KM.out.F.drew.but hg (notin1 hbg), hO2⟩)
                    have KP2 := hide (KP.out.but ((But.of_grows (Below.drew (Below.refl _ wr))).trans hg) (by simp; omega))
                    clear hO2 hg hfx lp HPLUS KM KP HST HAT3 HLJ
                    go_wp2_with fail
                    go_roundw
                    case rel => exact ⟨j + 1, by omega, by go_num, KM2.out, KP2.out⟩
                    case measure => simp [intOf]; omega
                  · have hjn' : j = k := by omega
                    subst hjn'
                    have KM := hide hM
                    clear hM hP hj hjn
                    go_wp2_with fail
                    go_roundw
                    case rel => exact ⟨i + 1, by omega, by go_num, by rw [HSTP2.out]; exact KM.out⟩
                    case measure => simp [intOf]; omega
          · have hin' : i = n := by omega
            subst hin'
            have hc := (hM.F.cell 16).trans (frow_at hgr.size (es i))
            have hfin := HFIN.out
            have hl := HLN.out i
            have hrow := NumRow.of_blk (base := w.heap.size) hM.O (by omega) (fun x hx => Nat.lt_trans (HTHL.out i x hx) hgr.lt) (by rw [hl]; unfold maxLen; omega)
            rw [hl] at hrow
            have KRW := hide hrow
            have KB := hide hM.below
            clear hM hrow hi hin hl
            rcases he7 with h0 | h7
            · rw [h0] at hc hfin
              rw [if_pos rfl, if_pos rfl] at hfin
              have KF := hide hfin
              clear hfin h0
              go_wp2_with fail
              exact bodyPost_ret (by kernel_rfl) rfl ⟨_, by rw [KF.out.2], by rw [KF.out.1]; exact KRW.out, KB.out⟩
            · rw [h7] at hc hfin
              rw [if_neg (by decide), if_neg (by decide)] at hfin
              have KF := hide hfin
              clear hfin h7
              go_wp2_with fail
              exact bodyPost_ret (by kernel_rfl) rfl ⟨_, by rw [KF.out.2], by rw [KF.out.1]; exact NumRow.nil _ _ _, KB.out⟩
      · have hm' : mayL q vs = false := by simpa using hmv
        have hok : thOk q ns vs = false := by unfold thOk; rw [hm', Bool.and_false, Bool.and_false]
        have HNO : Keep (thN q ns vs = [] ∧ thE q ns vs = 1) := ⟨by unfold thN; rw [hok]; rfl, by unfold thE; rw [hok]; rfl⟩
        rw [hm']
        clear hm' hmv hok
        go_wp2_with fail
        exact bodyPost_ret (by kernel_rfl) rfl ⟨_, by rw [HNO.out.2], by rw [HNO.out.1]; exact NumRow.nil _ _ _, KL3.out⟩
    · have hnn' : ¬ (nv : Int) = (n : Int) := by omega
      have hok : thOk q ns vs = false := by unfold thOk; rw [HN.out, HNV.out, decide_eq_false hnn, Bool.false_and, Bool.and_false]
      have HNO : Keep (thN q ns vs = [] ∧ thE q ns vs = 1) := ⟨by unfold thN; rw [hok]; rfl, by unfold thE; rw [hok]; rfl⟩
      clear hnn hok
      go_wp2_with (first | (refine wpList_load_row rfl 26 _ rfl (w.heap.size) rfl 26 gr (0, 0) _ KG.out Try.underlying26 rfl HI.out ?_) | fail)
      with_reducible refine (HPTS.out _ (HNS.out.grow KL.out)).mono ?_
      rintro e w2 ⟨rfl, L⟩
      rw [HM.out]
      have KL2 := hide (Grows.trans KL.out L)
      clear L KG KL
      go_wp2_with fail
      exact bodyPost_ret (by kernel_rfl) rfl ⟨_, by rw [HNO.out.2], by rw [HNO.out.1]; exact NumRow.nil _ _ _, KL2.out⟩
  · have hm' : pointsB q ns = false := by simpa using hm
    have hok : thOk q ns vs = false := by unfold thOk; rw [hm', Bool.false_and]
    have HNO : Keep (thN q ns vs = [] ∧ thE q ns vs = 1) := ⟨by unfold thN; rw [hok]; rfl, by unfold thE; rw [hok]; rfl⟩
    have HM := hide hm'
    clear hm hm' hok
    go_wp2_with (first | (refine wpList_load_row rfl 26 _ rfl (w.heap.size) rfl 26 gr (0, 0) _ KG.out Try.underlying26 rfl HI.out ?_) | fail)
    with_reducible refine (HPTS.out _ (HNS.out.grow KL.out)).mono ?_
    rintro e w2 ⟨rfl, L⟩
    rw [HM.out]
    have KL2 := hide (Grows.trans KL.out L)
    clear L KG KL
    go_wp2_with fail
    exact bodyPost_ret (by kernel_rfl) rfl ⟨_, by rw [HNO.out.2], by rw [HNO.out.1]; exact NumRow.nil _ _ _, KL2.out⟩
end Go.Proofs.Ythdanjbgbbcafaa
