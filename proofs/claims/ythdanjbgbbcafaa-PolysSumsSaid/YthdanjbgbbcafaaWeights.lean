/- polys.Weights: walked. -/
import Derived.Test.YthdanjbgbbcafaaPolyK
import Derived.Test.YthdanjbgbbcafaaTypL
namespace Go.Proofs.Ythdanjbgbbcafaa
open Go Go.RowKit

structure WgMem (w : World) (x : Nat) (gr : Array Value) (t26 t57 t24 : TypeId) (bf g : Nat) (e : Int) (l : List Nat) (W : World) : Prop where
  below : Below w.heap.size w W
  G : Blk W w.heap.size t26 gr
  X : Blk W (w.heap.size + 1) t24 (num x)
  F : Blk W bf t57 (frow gr e)
  O : Blk W g t24 (cellsOf l).toArray
def WgRel (w : World) (n : Nat) (x : Nat) (gr : Array Value) (t26 t57 t24 : TypeId) (bf g : Nat) (es : Nat → Int) (sts : Nat → List Nat) (vi : Value) (wr : World) : Prop :=
  ∃ k : Nat, k ≤ n ∧ vi = .int .i64 (k : Nat) ∧ WgMem w x gr t26 t57 t24 bf g (es k) (sts k) wr
theorem pointsB_spec {q : Nat} {l : List Nat} (h : pointsB q l = true) : l.Nodup ∧ 0 < l.length ∧ 1 < q ∧ ∀ y ∈ l, y < q := by
  unfold pointsB mayL at h
  simp only [Bool.and_eq_true, decide_eq_true_eq, List.all_eq_true] at h
  exact ⟨h.1, h.2.1, h.2.2.1, h.2.2.2⟩
theorem mayL_spec {q : Nat} {l : List Nat} (h : mayL q l = true) : 1 < q ∧ ∀ y ∈ l, y < q := by
  unfold mayL at h
  simp only [Bool.and_eq_true, decide_eq_true_eq, List.all_eq_true] at h
  exact h
set_option maxRecDepth 100000 in
set_option maxHeartbeats 8000000 in
theorem weights_any (gr : Array Value) (q x : Nat) (hgr : GroupRow gr q) (hx : x < big) (A : Option Addr) (cap : Nat) (ns : List Nat) (hlen : ns.length ≤ 1000) (hcap : ns.length ≤ cap) (w : World) (hns : NumsAt w A ns) :
    Calls Try.prog 17 #[.agg gr, .slice A ns.length cap, .agg (num x)] w (RowErr w 24 (wgN q ns x) (wgE q ns x)) := by
  have hb0 := built_field gr hgr.size
  have hi := info_group gr hgr.size
  have hpts := fun (w' : World) (h : NumsAt w' A ns) => points_any gr q hgr A cap ns (by omega) hcap w' h
  have hmayx : ∀ (B : Option Addr) (w' : World), NumsAt w' B [x] → Calls Try.prog 25 #[.agg gr, .slice B 1 1] w' (BoolEnds w' (mayL q [x])) := fun B w' h => may_any gr q hgr B 1 [x] (by simp) w' h
  have HB0 := hide hb0
  have HI := hide hi
  have HPTS := hide hpts
  have HMAYX := hide hmayx
  have HNS := hide hns
  have hlen' := hlen
  generalize hn : ns.length = n at *
  have HN := hide hn
  clear hb0 hi hpts hmayx hns hn
  go_enter Try.func17, Try.ntmps17
  go_upto_region 1 with fail
  have g1 := (Blk.new w 26 gr).alloc (.cells (num x) 24)
  have x1 := Blk.new (w.alloc (.cells gr 26)) 24 (num x)
  have hL0 : Grows w ((w.alloc (.cells gr 26)).alloc (.cells (num x) 24)) := ((Below.refl _ _).alloc (Nat.le_refl _) _).alloc (by simp) _
  simp only [World.size_alloc] at x1
  change Code.wp _ _ _ _ ((w.alloc (.cells gr 26)).alloc (.cells (num x) 24))
  generalize (w.alloc (.cells gr 26)).alloc (.cells (num x) 24) = w1 at *
  have KG := hide g1
  have KX := hide x1
  have KL := hide hL0
  clear g1 x1 hL0
  by_cases hm : pointsB q ns = true
  · have HM := hide hm
    clear hm
    go_wp2_with (first | (refine wpList_load_row rfl 26 _ rfl (w.heap.size) rfl 26 gr (0, 0) _ KG.out Try.underlying26 rfl HI.out ?_) | fail)
    with_reducible refine (HPTS.out _ (HNS.out.grow KL.out)).mono ?_
    rintro e w2 ⟨rfl, L⟩
    rw [HM.out]
    have KG2 := hide (KG.out.below L KG.out.lt)
    have KX2 := hide (KX.out.below L KX.out.lt)
    have KL2 := hide (Grows.trans KL.out L)
    clear L KG KX KL
    go_wp2_with (first | (refine wpList_load_row_on rfl 26 _ rfl (w.heap.size) rfl 26 gr (0, 0) _ KG2.out Try.underlying26 rfl HI.out ?_) | (refine wpList_load_row_on rfl 24 _ rfl (w.heap.size + 1) rfl 24 (num x) (0, 0) _ KX2.out Try.underlying24 rfl info4 ?_) | (refine wpList_buildNum rfl (.tmp 17) rfl x rfl ?_) | fail)
    have hbl : Blk (w2.alloc (.cells (num x) 24)) w2.heap.size 24 (cellsOf [x]).toArray := Blk.new _ _ _
    have hna := NumsAt.of_blk hbl (fun y hy => by simp only [List.mem_cons, List.not_mem_nil, or_false] at hy; subst hy; exact hx)
    have HNA := hide hna
    have L3 : Grows w2 (w2.alloc (.cells (num x) 24)) := (Below.refl _ _).alloc (Nat.le_refl _) _
    have KL3 := hide L3
    clear hbl hna L3
    with_reducible refine (HMAYX.out _ _ HNA.out).mono ?_
    rintro e w3 ⟨rfl, L⟩
    have KG3 := hide (KG2.out.below (Grows.trans KL3.out L) KG2.out.lt)
    have KX3 := hide (KX2.out.below (Grows.trans KL3.out L) KX2.out.lt)
    have KL4 := hide (Grows.trans KL2.out (Grows.trans KL3.out L))
    clear L KG2 KX2 KL2 KL3 HNA HPTS HMAYX
    by_cases hmx : mayL q [x] = true
    · rw [hmx]
      have hok : wgOk q ns x = true := by unfold wgOk; rw [HM.out, hmx]; rfl
      have HOK := hide hok
      obtain ⟨_, hn0, hq, hall⟩ := pointsB_spec HM.out
      have hxq : x < q := (mayL_spec hmx).2 x (by simp)
      have HALL := hide hall
      rw [HN.out] at hn0
      clear hmx hok hall HM
      go_upto_region 3 with fail
      have lg := load_grp_grows hgr KG3.out.drew
      refine wp_region_kinds 8 (by kernel_rfl) (by kernel_rfl) (fun F hF => ?_)
      repeat (first
        | refine kinds_move_is _ rfl (Or.inl rfl) rfl ?_
        | refine kinds_move_is _ rfl (Or.inr rfl) rfl ?_
        | refine kinds_load 3 26 rfl rfl rfl lg ?_
        | (apply kinds_is rfl
           · intro ρ wv K hw hf hK
             obtain ⟨e0, -⟩ := hf
             change ρ _ = _ at e0
             unfold gives
             simp only [execOp, List.map_toArray, List.map_cons, List.map_nil, e0, Sem.run_bind, build_field gr hgr.size, Result.andThen_ok, Sem.run_pure, givesUpon]
             exact hK _ (Grows.refl _))
        | (apply kinds_like (PtrRow w3.heap.size 57 (frow gr 0)) (PtrRow.grow _ _ _) rfl
           · intro ρ wv K hw hf hK
             obtain ⟨e0, -⟩ := hf
             change ρ _ = _ at e0
             unfold gives
             simp only [execOp, e0, Instr.box, newVar, Sem.run_bind, Sem.run_pure, givesUpon]
             exact hK _ _ ((Below.refl _ _).alloc (Nat.le_refl _) _) ⟨_, hw.size, rfl, Blk.new _ _ _⟩)
        | (apply kinds_like (SlRow w3.heap.size 24 n (cellsOf (List.replicate n 0)).toArray) (SlRow.grow _ _ _ _) rfl
           · intro ρ wv K hw hf hK
             obtain ⟨e0, e1, -⟩ := hf
             change ρ _ = _ at e0
             unfold gives
             simp only [execOp, e0, make_nums n (by omega), Sem.run_bind, Result.andThen_ok, Sem.run_pure, givesUpon]
             exact hK _ _ ((Below.refl _ _).alloc (Nat.le_refl _) _) ⟨_, hw.size, rfl, Blk.new _ _ _⟩)
        | refine kinds_move 24 (.like (PtrRow w3.heap.size 57 (frow gr 0))) rfl (Or.inr rfl) rfl (PtrRow.grow _ _ _) ?_
        | refine kinds_move 27 (.like (SlRow w3.heap.size 24 n (cellsOf (List.replicate n 0)).toArray)) rfl (Or.inr rfl) rfl (SlRow.grow _ _ _ _) ?_
        | refine kinds_off rfl rfl rfl rfl ?_
        | refine kinds_off' rfl rfl rfl ?_
        | ((first | refine kinds_on rfl rfl rfl ?_ | skip)
           apply kinds_is rfl
           · intro ρ wv K hw hf hK
             first | obtain ⟨e0, e1, e2, e3, e4, e5, e6, -⟩ := hf | obtain ⟨e0, e1, e2, e3, e4, e5, -⟩ := hf | obtain ⟨e0, e1, e2, e3, e4, -⟩ := hf | obtain ⟨e0, e1, e2, e3, -⟩ := hf | obtain ⟨e0, e1, e2, -⟩ := hf | obtain ⟨e0, e1, -⟩ := hf | obtain ⟨e0, -⟩ := hf | clear hf
             (try change ρ _ = _ at e0)
             (try change ρ _ = _ at e1)
             (try change ρ _ = _ at e2)
             (try change ρ _ = _ at e3)
             unfold gives
             go_simp
             (try go_ints)
             (try rw [if_pos (by omega)])
             exact hK _ (Grows.refl _)))
      refine kinds_nil (hF _ rfl rfl (fun ww hg => ?_))
      clear hF F
      simp only [pushSlot, finish, Act.put, List.setIfInBounds_toArray, List.set_cons_succ, List.set_cons_zero]
      simp only [List.drop_succ_cons, List.drop_zero]
      rintro x1 - x2 - v8 ⟨bf, hbf, rfl, BF⟩ v9 ⟨g, hg9, rfl, BG⟩
      have hbg : bf ≠ g := BF.ne_ BG (by decide)
      have hs3 := KX3.out.lt
      have hs4 := KL4.out.size
      have M0 : WgMem w x gr 26 57 24 bf g (errM q ns 0) (wgX q ns x 0) ww := ⟨below_trans_grows KL4.out.drew hg hs4, KG3.out.drew.below hg KG3.out.drew.lt, KX3.out.drew.below hg KX3.out.drew.lt, BF, by rw [wgX_zero, HN.out]; exact BG⟩
      have hstep := wgX_step q ns x
      have hln := wgX_len q ns x
      have hall' := wgX_all q ns x
      have herr : ∀ k, errM q ns (k + 1) = first (errM q ns k) (noInv q (denM q ns k)) := fun k => rfl
      have hein := errM_in q ns
      have he7 := errM_7 q ns ns.length
      have hfin : wgN q ns x = (if errM q ns ns.length = 0 then wgM q ns x else []) ∧ wgE q ns x = (if errM q ns ns.length = 0 then 0 else 7) := ⟨by unfold wgN; rw [if_pos HOK.out], by unfold wgE; rw [if_pos HOK.out]⟩
      have hwlt : ∀ y ∈ wgM q ns x, y < big := fun y hy => by
        unfold wgM at hy
        obtain ⟨i, _, rfl⟩ := List.mem_map.1 hy
        exact Nat.lt_trans (wtM_lt hq ns x i) hgr.lt
      have hwl : (wgM q ns x).length = ns.length := by simp [wgM]
      have hwt : ∀ k, wtM q ns x k = prodM q (invN (denM q ns k) q) ((ns.eraseIdx k).map fun y => (x + q - y) % q) := fun k => rfl
      have hden := fun k => invN_le hq (denM q ns k)
      generalize errM q ns = es at *
      generalize wgX q ns x = sts at *
      generalize wtM q ns x = wt at *
      generalize wgM q ns x = fin at *
      rw [HN.out] at he7 hfin hall' hln hwl
      have HSTEP := hide hstep
      have HLN := hide hln
      have HFIN := hide hfin
      have HALL' := hide hall'
      have HERR := hide herr
      have HEIN := hide hein
      have HWT := hide hwt
      have HDEN := hide hden
      have HWLT := hide hwlt
      have HWL := hide hwl
      have HST : Keep (WgRel w n x gr 26 57 24 bf g es sts (.int .i64 (0 : Nat)) ww) := ⟨⟨0, Nat.zero_le _, rfl, M0⟩⟩
      clear hg lg BF BG M0 hstep hln hfin hall' herr hein hwt hden hwlt hwl KG3 KX3 KL4 HB0 HI HOK
      go_wp2_with fail
      go_loopw [30] (fun vi wr => WgRel w n x gr 26 57 24 bf g es sts vi wr) (fun i _ => n - (intOf i).toNat)
      case atStart => exact HST.out
      case round =>
        clear HST
        obtain ⟨k, hk, rfl, hM⟩ := hrel
        by_cases hkn : k < n
        · have hbf' := hM.F.lt
          have hg' := hM.O.lt
          have hszr := hM.below.size
          have hden := HDEN.out k
          have herr := HERR.out k
          have hwt := HWT.out k
          have hek := HEIN.out k
          have hek1 := HEIN.out (k + 1)
          have hst := HSTEP.out k
          have hlk : k < (sts k).length := by rw [HLN.out]; exact hkn
          have hal := HALL.out
          have hbase : ∀ wv, But [bf, g] wr.drew wv → Below w.heap.size w wv := fun wv hw => But.below (Below.drew hM.below) hw hszr (by simp; omega)
          have HW : Keep (∀ wv, But [bf, g] wr.drew wv → Blk wv bf 57 (frow gr (es k)) → Calls Try.prog 27 #[.pointer (some ⟨bf, 0, none⟩), .slice A n cap, .int .i64 (k : Nat)] wv (FieldEnds wv bf 57 gr (invN (denM q ns k) q) (es (k + 1)))) := ⟨fun wv hw B => by
            have h := weight_in gr q k bf (es k) hgr hek hq A cap ns hal (by rw [HN.out]; exact hlen) (by rw [HN.out]; exact hkn) wv (HNS.out.grow (hbase wv hw)) B
            rw [← herr, HN.out] at h
            exact h⟩
          have HO : Keep (∀ wv, But [bf, g] wr.drew wv → FieldAny bf 57 gr wv → Calls Try.prog 40 #[.pointer (some ⟨bf, 0, none⟩), .slice A n cap, .int .i64 (k : Nat), .agg (num x)] wv (RowEnds wv 24 ((ns.eraseIdx k).map fun y => (x + q - y) % q))) := ⟨fun wv hw hf => by
            obtain ⟨e', he', B⟩ := hf
            have h := others_in gr q x k bf e' hgr he' hq hxq A cap ns hal (by rw [HN.out]; exact hlen) (by rw [HN.out]; exact hkn) wv (HNS.out.grow (hbase wv hw)) B
            rw [HN.out] at h
            exact h⟩
          have hoq : ∀ y ∈ (ns.eraseIdx k).map (fun y => (x + q - y) % q), y < q := fun y hy => by
            obtain ⟨z, _, rfl⟩ := List.mem_map.1 hy
            exact Nat.mod_lt _ (by omega)
          have hol : ((ns.eraseIdx k).map fun y => (x + q - y) % q).length ≤ 1000 := by
            rw [List.length_map]
            exact Nat.le_trans (List.length_eraseIdx_le _ _) (by rw [HN.out]; exact hlen)
          generalize ((ns.eraseIdx k).map fun y => (x + q - y) % q) = l at *
          generalize invN (denM q ns k) q = m at *
          have HG : Keep (∀ (A2 : Option Addr) (c2 : Nat) (wv : World), FieldAny bf 57 gr wv → Away A2 bf l → NumsAt wv A2 l → Calls Try.prog 39 #[.agg (num m), .slice A2 l.length c2, .func (.func 26) #[.pointer (some ⟨bf, 0, none⟩)] #[]] wv (NumEnds wv (wt k))) := ⟨fun A2 c2 wv hf ha hn2 => by
            obtain ⟨e', he', B⟩ := hf
            rw [hwt]
            exact gather_in gr q m bf e' hgr he' hq A2 c2 l hden hoq (by omega) ha wv hn2 B⟩
          generalize wt k = d at *
          have HSTP := hide hst
          have HLK := hide hlk
          have lx := load_butN (rows := [bf, g]) (Blk.drew hM.X) (notin2 (by omega) (by omega))
          have KM := hide hM
          clear hst hlk hM hbase herr hwt hoq hol hden hal
          go_upto_region 7 with fail
          refine wp_region_kindsR [bf, g] [effKeep 5 bf 57 gr (es k) (es (k + 1)), effAny 10 bf 57 gr, effAny 13 bf 57 gr, effNum 15 g k 24 (sts k) d] (by kernel_rfl) (by kernel_rfl) (effs_weights (by decide) (by decide) (by decide) (by decide) (by decide) (by decide) hbg hek hek1 KM.out.F.drew KM.out.O.drew) rfl (fun F hF => ?_)
          repeat (first
            | refine kindsR_move_is _ rfl rfl (Or.inl rfl) rfl ?_
            | refine kindsR_move_is _ rfl rfl (Or.inr rfl) rfl ?_
            | refine kindsR_load 5 24 rfl rfl rfl rfl lx ?_
            | (refine kindsR_act (v := .agg (num m)) (effKeep 5 bf 57 gr (es k) (es (k + 1))) (List.Mem.head _) rfl rfl ?_ ?_
               · intro ρ wv K hw hG hf hK
                 obtain ⟨e0, e1, e2, e3, -⟩ := hf
                 change ρ _ = _ at e0
                 change ρ _ = _ at e1
                 change ρ _ = _ at e2
                 change ρ _ = _ at e3
                 unfold gives
                 go_simp
                 change Calls _ _ _ _ _
                 go_at_call 27
                 with_reducible refine (HW.out _ hw hG).mono ?_
                 rintro x w' ⟨rfl, hb, hF⟩
                 exact ⟨_, rfl, hK _ (hb.wider (by simp)) ⟨hb, hF⟩ hF⟩)
            | (refine kindsR_actL (fun v w' => NumRow w' wr.heap.size 24 v l) (fun v w1 w2 h hb => h.but hb (by simp; omega)) (effAny 10 bf 57 gr) (List.Mem.tail _ (List.Mem.head _)) rfl rfl ?_ ?_
               · intro ρ wv K hw hG hf hK
                 obtain ⟨e0, e1, e2, e3, e4, -⟩ := hf
                 change ρ _ = _ at e0
                 change ρ _ = _ at e1
                 change ρ _ = _ at e2
                 change ρ _ = _ at e3
                 change ρ _ = _ at e4
                 have hsz := hw.size
                 unfold gives
                 go_simp
                 change Calls _ _ _ _ _
                 go_at_call 40
                 with_reducible refine (HO.out _ hw hG).mono ?_
                 rintro x w' ⟨v, rfl, hv, hb⟩
                 exact ⟨_, rfl, hK _ _ (But.of_grows hb) hb True.intro (hv.lower hsz)⟩)
            | (refine kindsR_act (v := .agg (num d)) (effAny 13 bf 57 gr) (List.Mem.tail _ (List.Mem.tail _ (List.Mem.head _))) rfl rfl ?_ ?_
               · intro ρ wv K hw hG hf hK
                 obtain ⟨e0, e1, e2, e3, -⟩ := hf
                 change ρ _ = _ at e0
                 change ρ _ = _ at e1
                 change NumRow _ _ _ _ _ at e2
                 change ρ _ = _ at e3
                 obtain ⟨A2, c2, hv2, -, hn2, hf2⟩ := e2.open_
                 have HN2 := hide hn2
                 have HF2 := hide (show Away A2 bf l from fun b o he => Or.inr (by have := hf2 b o he; omega))
                 clear hn2 hf2 e2
                 unfold gives
                 go_simp
                 change Calls _ _ _ _ _
                 go_at_call 39
                 with_reducible refine (HG.out A2 c2 _ hG HF2.out HN2.out).mono ?_
                 rintro e w' ⟨rfl, hb⟩
                 exact ⟨_, rfl, hK _ (But.of_grows hb) hb True.intro⟩)
            | refine kindsR_num 47 46 24 g k 24 (sts k) d rfl rfl rfl rfl rfl (List.Mem.tail _ (List.Mem.tail _ (List.Mem.tail _ (List.Mem.head _)))) (List.Mem.tail _ (List.Mem.head _)) info4 HLK.out ?_
            | (apply kindsR_is rfl rfl
               · intro ρ wv K hw hf hK
                 first | obtain ⟨e0, e1, e2, e3, e4, e5, e6, -⟩ := hf | obtain ⟨e0, e1, e2, e3, e4, e5, -⟩ := hf | obtain ⟨e0, e1, e2, e3, e4, -⟩ := hf | obtain ⟨e0, e1, e2, e3, -⟩ := hf | obtain ⟨e0, e1, e2, -⟩ := hf | obtain ⟨e0, e1, -⟩ := hf | obtain ⟨e0, -⟩ := hf | clear hf
                 (try change ρ _ = _ at e0)
                 (try change ρ _ = _ at e1)
                 (try change ρ _ = _ at e2)
                 (try change ρ _ = _ at e3)
                 unfold gives
                 go_simp
                 (try go_ints)
                 (try rw [if_pos (by omega)])
                 exact hK _ (Grows.refl _)))
          refine kindsR_nil (hF _ rfl rfl (fun ww hg hfx => ?_))
          clear hF F
          simp only [pushSlot, finish, Act.put, List.setIfInBounds_toArray, List.set_cons_succ, List.set_cons_zero]
          intro t43 _
          have hF2 : Blk ww bf 57 (frow gr (es (k + 1))) := hfx _ (List.Mem.head _)
          have hO2 : Blk ww g 24 (cellsOf ((sts k).set k d)).toArray := hfx _ (List.Mem.tail _ (List.Mem.tail _ (List.Mem.tail _ (List.Mem.head _))))
          rw [HSTP.out] at hO2
          have KM2 := hide (show WgMem w x gr 26 57 24 bf g (es (k + 1)) (sts (k + 1)) ww from ⟨But.below (Below.drew KM.out.below) hg hszr (by simp; omega), KM.out.G.drew.but hg (notin2 (by omega) (by omega)), KM.out.X.drew.but hg (notin2 (by omega) (by omega)), hF2, hO2⟩)
          clear hF2 hO2 hg hfx lx HW HO HG HLK HSTP KM hek hek1
          go_wp2_with fail
          go_roundw
          case rel => exact ⟨k + 1, by omega, by go_num, KM2.out⟩
          case measure => simp [intOf]; omega
        · have hkn' : k = n := by omega
          subst hkn'
          have hc := (hM.F.cell 16).trans (frow_at hgr.size (es k))
          have hfin := HFIN.out
          have hO := hM.O
          rw [HALL'.out] at hO
          have hrow := NumRow.of_blk (base := w.heap.size) hO (by omega) HWLT.out (by rw [HWL.out]; unfold maxLen; omega)
          rw [HWL.out] at hrow
          have KRW := hide hrow
          have KB := hide hM.below
          clear hM hO hrow hk hkn
          rcases he7 with h0 | h7
          · rw [h0] at hc hfin
            rw [if_pos rfl, if_pos rfl] at hfin
            have KF := hide hfin
            clear hfin h0
            go_wp2_with fail
            exact bodyPost_ret (by kernel_rfl) rfl ⟨_, by rw [KF.out.2], by rw [KF.out.1]; exact KRW.out, KB.out⟩
          · rw [h7] at hc hfin
            rw [if_neg (by decide), if_neg (by decide)] at hfin
            have KF := hide hfin
            clear hfin h7
            go_wp2_with fail
            exact bodyPost_ret (by kernel_rfl) rfl ⟨_, by rw [KF.out.2], by rw [KF.out.1]; exact NumRow.nil _ _ _, KB.out⟩
    · have hm' : mayL q [x] = false := by simpa using hmx
      have hok : wgOk q ns x = false := by unfold wgOk; rw [hm', Bool.and_false]
      have HNO : Keep (wgN q ns x = [] ∧ wgE q ns x = 1) := ⟨by unfold wgN; rw [hok]; rfl, by unfold wgE; rw [hok]; rfl⟩
      rw [hm']
      clear hm' hmx hok
      go_wp2_with fail
      exact bodyPost_ret (by kernel_rfl) rfl ⟨_, by rw [HNO.out.2], by rw [HNO.out.1]; exact NumRow.nil _ _ _, KL4.out⟩
  · have hm' : pointsB q ns = false := by simpa using hm
    have hok : wgOk q ns x = false := by unfold wgOk; rw [hm', Bool.false_and]
    have HNO : Keep (wgN q ns x = [] ∧ wgE q ns x = 1) := ⟨by unfold wgN; rw [hok]; rfl, by unfold wgE; rw [hok]; rfl⟩
    have HM := hide hm'
    clear hm hm' hok
    go_wp2_with (first | (refine wpList_load_row rfl 26 _ rfl (w.heap.size) rfl 26 gr (0, 0) _ KG.out Try.underlying26 rfl HI.out ?_) | fail)
    with_reducible refine (HPTS.out _ (HNS.out.grow KL.out)).mono ?_
    rintro e w2 ⟨rfl, L⟩
    rw [HM.out]
    have KL2 := hide (Grows.trans KL.out L)
    clear L KG KX KL
    go_wp2_with fail
    exact bodyPost_ret (by kernel_rfl) rfl ⟨_, by rw [HNO.out.2], by rw [HNO.out.1]; exact NumRow.nil _ _ _, KL2.out⟩
end Go.Proofs.Ythdanjbgbbcafaa
