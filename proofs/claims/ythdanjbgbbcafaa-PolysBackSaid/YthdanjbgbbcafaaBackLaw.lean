/- PolysBack: walked. -/
import Derived.Test.YthdanjbgbbcafaaThruLaw
namespace Go.Proofs.Ythdanjbgbbcafaa
open Go Go.RowKit

theorem NumsAt.reads {w : World} {A : Option Addr} {ns : List Nat} (h : NumsAt w A ns) : Reads w w.heap.size 4 A ns.length (cellsOf ns) := by
  refine ⟨cellsOf_length ns, fun hn => ?_⟩
  obtain ⟨x, hx⟩ : ∃ x, ns[0]? = some x := ⟨_, List.getElem?_eq_getElem hn⟩
  obtain ⟨_, b, o, e, hlt, _⟩ := h 0 x hx
  refine ⟨_, e, hlt, fun j u hu => ?_⟩
  have hj : j < ns.length * 4 := by
    have := (List.getElem?_eq_some_iff.1 hu).1
    rwa [cellsOf_length] at this
  obtain ⟨y, hy⟩ : ∃ y, ns[j / 4]? = some y := ⟨_, List.getElem?_eq_getElem (by omega)⟩
  obtain ⟨_, b', o', e', _, hr⟩ := h (j / 4) y hy
  rw [e] at e'
  injection e' with e'
  injection e' with e1 e2
  subst e1 e2
  obtain ⟨v, hv⟩ : ∃ v, (num y).toList[j % 4]? = some v := ⟨_, List.getElem?_eq_getElem (by rw [Array.length_toList, num_size]; omega)⟩
  have hc := cellsOf_at hy hv
  rw [show j / 4 * 4 + j % 4 = j by omega, hu] at hc
  have hrr := hr (j % 4) v hv
  rw [show o + j / 4 * 4 + j % 4 = o + j by omega] at hrr
  rw [Addr.add_mid, hrr, hc]
theorem atE_in (q : Nat) (p : List Nat) (x : Nat) : (atE q p x = 0 ∧ atN q p x = atV q p x ∧ atOk q p x = true) ∨ atE q p x = 1 := by
  unfold atE atN
  by_cases h : atOk q p x = true
  · rw [if_pos h, if_pos h]
    exact .inl ⟨rfl, rfl, h⟩
  · rw [if_neg h]
    exact .inr rfl
theorem atOk_spec {q : Nat} {p : List Nat} {x : Nat} (h : atOk q p x = true) : 1 < q ∧ (∀ y ∈ p, y < q) ∧ x < q := by
  unfold atOk at h
  rw [Bool.and_eq_true] at h
  exact ⟨(mayL_spec h.1).1, (mayL_spec h.1).2, (mayL_spec h.2).2 x (by simp)⟩
/-- Told by its values. -/
theorem back_law {q : Nat} {ps xs vs : List Nat} (hq : 1 < q) (hp : ∀ y ∈ ps, y < q) (hx : ∀ y ∈ xs, y < q) (hl : ps.length ≤ xs.length) (hv : vs = xs.map (atV q ps)) (her : errM q xs xs.length = 0) :
    thM q xs vs xs.length = ps ++ List.replicate (xs.length - ps.length) 0 := by
  have hinv := errM_zero.1 her
  refine one_poly (q := q) (xs := ints xs) (by rw [thM_len, List.length_append, List.length_replicate]; omega) (by rw [thM_len]; simp [ints]) (pts_units hq hx hinv) (thM_lt hq xs vs _) (fun c hc => ?_) (fun x hxm => ?_)
  · rcases List.mem_append.1 hc with hc | hc
    · exact hp c hc
    · rw [List.mem_replicate] at hc
      omega
  · obtain ⟨i, hi, rfl⟩ := List.getElem_of_mem hxm
    have hi' : i < xs.length := by simpa [ints] using hi
    have h1 := thru_cg (vs := vs) hq hx hinv hi'
    have e : (ints xs)[i] = ((xs.getD i 0 : Nat) : Int) := by
      rw [List.getD_eq_getElem?_getD, List.getElem?_eq_getElem hi']
      simp [ints]
    rw [e]
    refine h1.trans ?_
    rw [evN_append, zeros_ev, hv, List.getD_eq_getElem?_getD, List.getD_eq_getElem?_getD, List.getElem?_map, List.getElem?_eq_getElem hi']
    exact (atV_cg q ps xs[i]).trans (Cg.of_eq (by simp))
def BkRel (w : World) (gr : Array Value) (t26 t24 : TypeId) (n : Nat) (sts : Nat → List Nat) (ok : Nat → Prop) (v7 vi : Value) (wr : World) : Prop :=
  ∃ k : Nat, k ≤ n ∧ vi = .int .i64 (k : Nat) ∧ LwMem w gr t26 wr ∧ NumRow wr (w.heap.size + 1) t24 v7 (sts k) ∧ ok k
def lenOf : Value → Nat
  | .slice _ n _ => n
  | _ => 0
def PadRel (w w3 : World) (t24 : TypeId) (n m : Nat) (sts : Nat → List Nat) (v13 : Value) (wr : World) : Prop :=
  ∃ j : Nat, m ≤ j ∧ j ≤ n ∧ Grows w wr ∧ Grows w3 wr ∧ NumRow wr w3.heap.size t24 v13 (sts j)
set_option maxRecDepth 100000 in
set_option maxHeartbeats 8000000 in
theorem polysBack_any (gr : Array Value) (q : Nat) (hgr : GroupRow gr q) (A : Option Addr) (c : Nat) (ps : List Nat) (B : Option Addr) (d : Nat) (xs : List Nat) (hd : xs.length ≤ d) (w : World) (hps : NumsAt w A ps) (hxs : NumsAt w B xs) :
    Calls Try.prog 4 #[.agg gr, .slice A ps.length c, .slice B xs.length d] w (BoolEnds w true) := by
  have hi := info_group gr hgr.size
  have HI := hide hi
  have HPS := hide hps
  have HXS := hide hxs
  generalize hm : ps.length = m at *
  generalize hn : xs.length = n at *
  have HM := hide hm
  have HN := hide hn
  clear hi hps hxs hm hn
  go_enter Try.func4, Try.ntmps4
  go_upto_region 1 with fail
  have M := LwMem.start w gr 26
  change Code.wp _ _ _ _ (w.alloc (.cells gr 26))
  generalize w.alloc (.cells gr 26) = w1 at *
  have KM := hide M
  clear M
  go_wp2_with fail
  with_reducible refine (alive10_any _).mono ?_
  rintro e w2 ⟨rfl, L⟩
  have KM2 := hide (KM.out.grow L)
  clear L KM
  by_cases h20 : m ≤ 20 ∧ n ≤ 20 ∧ m ≤ n
  · obtain ⟨h1, h2, h3⟩ := h20
    have hnm : decide (n < m) = false := decide_eq_false (by omega)
    have hst0 : (xs.take 0).map (atV q ps) = [] := rfl
    have hstep : ∀ (k x : Nat), xs[k]? = some x → (xs.take (k + 1)).map (atV q ps) = (xs.take k).map (atV q ps) ++ [atV q ps x] := fun k x h => by rw [List.take_add_one, h, List.map_append]; rfl
    have hend : (xs.take n).map (atV q ps) = xs.map (atV q ps) := by rw [← HN.out, List.take_length]
    have hsl : ∀ k, ((xs.take k).map (atV q ps)).length ≤ n := fun k => by rw [List.length_map, List.length_take, HN.out]; omega
    obtain ⟨sts, hsts⟩ : ∃ sts : Nat → List Nat, sts = fun k => (xs.take k).map (atV q ps) := ⟨_, rfl⟩
    have he : ∀ k, (xs.take k).map (atV q ps) = sts k := fun k => by rw [hsts]
    simp only [he] at hst0 hstep hend hsl
    clear hsts he
    have HSTEP := hide hstep
    have HEND := hide hend
    have HSL := hide hsl
    have HST : Keep (BkRel w gr 26 24 n sts (fun k => ∀ (j x : Nat), j < k → xs[j]? = some x → atOk q ps x = true) (.slice none 0 0) (.int .i64 (0 : Nat)) w2) := ⟨⟨0, Nat.zero_le _, rfl, KM2.out, by rw [hst0]; exact NumRow.nil _ _ _, fun j _ h => absurd h (Nat.not_lt_zero j)⟩⟩
    clear hst0 hstep hend hsl
    go_wp2_with fail
    go_loopw [7, 8] (fun v7 vi wr => BkRel w gr 26 24 n sts (fun k => ∀ (j x : Nat), j < k → xs[j]? = some x → atOk q ps x = true) v7 vi wr) (fun _ i _ => n - (intOf i).toNat)
    case atStart => exact HST.out
    case round =>
      clear HST KM2
      obtain ⟨k, hk, rfl, hM, hR, hO⟩ := hrel
      have KM := hide hM
      have KR := hide hR
      have KO := hide hO
      clear hM hR hO
      by_cases hkn : k < n
      · obtain ⟨x, hx⟩ : ∃ x, xs[k]? = some x := ⟨_, List.getElem?_eq_getElem (by have := HN.out; omega)⟩
        obtain ⟨hxb, b, o, eB, hlt, hrng⟩ := (HXS.out.grow (show Grows w wr from KM.out.below)) k x hx
        have HA : Keep (∀ w', Grows wr.drew w' → Calls Try.prog 12 #[.agg gr, .slice A m c, .agg (num x)] w' (MayEnds w' (atN q ps x) (atE q ps x))) := ⟨fun w' hg => by
          have h := at_any gr q x hgr hxb A c ps (by rw [HM.out]; omega) w' (HPS.out.grow (Grows.trans (show Grows w wr from KM.out.below) (Grows.trans (Below.drew (Below.refl _ wr)) hg)))
          rw [HM.out] at h
          exact h⟩
        have lg := load_grp_grows hgr KM.out.G.drew
        have lx : ∀ w', Grows wr.drew w' → _ := fun w' hg => load_grown hlt hrng w' (Grows.trans (Below.drew (Below.refl _ wr)) hg)
        have HX := hide hx
        have hcase := atE_in q ps x
        subst eB
        generalize hv : atN q ps x = v at *
        generalize atE q ps x = er at *
        clear hx hrng
        go_upto_region 7 with fail
        refine wp_region_kindsF [⟨10, 11, 24, nought, num v⟩] (by kernel_rfl) (by kernel_rfl) (fun F hF => ?_)
        repeat (first
          | refine kindsF_move_is _ rfl rfl (Or.inl rfl) rfl ?_
          | refine kindsF_move_is _ rfl rfl (Or.inr rfl) rfl ?_
          | refine kindsF_load 3 26 rfl rfl rfl rfl lg ?_
          | refine kindsF_load 45 24 rfl rfl rfl rfl lx ?_
          | refine kindsF_alloc 24 11 nought (num v) rfl rfl (List.Mem.head _) alloc_num ?_
          | refine kindsF_store 9 48 24 10 nought (num v) rfl rfl rfl rfl rfl (List.Mem.head _) (store_num v) ?_
          | (apply kindsF_is rfl rfl
             · intro ρ wv K hw hf hK
               first | obtain ⟨e0, e1, e2, e3, e4, e5, e6, -⟩ := hf | obtain ⟨e0, e1, e2, e3, e4, e5, -⟩ := hf | obtain ⟨e0, e1, e2, e3, e4, -⟩ := hf | obtain ⟨e0, e1, e2, e3, -⟩ := hf | obtain ⟨e0, e1, e2, -⟩ := hf | obtain ⟨e0, e1, -⟩ := hf | obtain ⟨e0, -⟩ := hf | clear hf
               (try change ρ _ = _ at e0)
               (try change ρ _ = _ at e1)
               (try change ρ _ = _ at e2)
               (try change ρ _ = _ at e3)
               unfold gives
               go_simp
               first
                 | (change Calls _ _ _ _ _; (go_at_call 12; (with_reducible refine (HA.out _ hw).mono ?_); rintro e w' ⟨rfl, hb⟩; exact ⟨_, rfl, hK _ hb⟩))
                 | ((try go_ints); (try rw [if_pos (by omega)]); exact hK _ (Grows.refl _))))
        refine kindsF_nil (hF _ rfl rfl (fun ww γ hg hfr hun => ?_))
        clear hF F
        simp only [pushSlot, finish, Act.put, List.setIfInBounds_toArray, List.set_cons_succ, List.set_cons_zero]
        obtain ⟨⟨l10, B10⟩, -⟩ := hfr
        change Blk ww (γ 10) _ (num v) at B10
        intro x10 _ ht
        obtain ⟨t1, -⟩ := ht
        change x10 = .pointer (some ⟨γ 10, 0, none⟩) at t1
        subst t1
        have hgg : Grows wr ww := Grows.trans (Below.drew (Below.refl _ wr)) hg
        have KM2 := hide (KM.out.grow hgg)
        have KR2 := hide (KR.out.grow hgg)
        have KB := hide B10
        generalize γ 10 = g10 at *
        clear hg hun l10 B10 lg lx hgg KM KR HA
        clear γ
        rcases hcase with ⟨rfl, hav, hok⟩ | rfl
        · have hvq : v < q := by rw [hav]; exact atV_lt (by have := (atOk_spec hok).1; omega) _ _
          have hst := HSTEP.out k x HX.out
          rw [← hav] at hst
          have HSTP := hide hst
          have KO2 : Keep (∀ (j y : Nat), j < k + 1 → xs[j]? = some y → atOk q ps y = true) := ⟨fun j y hj hy => by
            by_cases e : j = k
            · subst e
              rw [HX.out] at hy
              injection hy with hy
              rw [← hy]
              exact hok
            · exact KO.out j y (by omega) hy⟩
          have hln := HSL.out k
          have hsz := KM2.out.G.lt
          have hszb := KM2.out.below.size
          have L1 : Grows ww (ww.alloc (.cells (num v) 24)) := (Below.refl _ _).alloc (Nat.le_refl _) _
          have HOWN := hide (KR2.out.grow L1).own
          have HRD : Keep (Reads (ww.alloc (.cells (num v) 24)) (ww.heap.size + 1) 4 (some ⟨ww.heap.size, 0, none⟩) 1 (num v).toList) := ⟨by rw [Array.length_toList, num_size], fun _ => ⟨_, rfl, by simp, fun j u hu => by
            rw [show (⟨ww.heap.size, 0, none⟩ : Addr).add j = ⟨ww.heap.size, j, none⟩ by unfold Addr.add; split <;> simp_all, (Blk.new ww 24 (num v)).cell]
            simpa using hu⟩⟩
          have KM3 := hide (KM2.out.grow L1)
          obtain ⟨i0, hi0, hi1, hi2, hi3⟩ := info_parts info_num
          have HI0 := hide (And.intro hi0 (And.intro hi1 (And.intro hi2 hi3)))
          have HVQ := hide hvq
          have HOK := hide hok
          clear L1 hi0 hi1 hi2 hi3 hst hav hok hv hvq
          go_wp2_with (first | (refine wpList_load_row rfl 24 _ rfl g10 rfl 24 (num v) (0, 0) _ KB.out Try.underlying24 rfl info4 ?_) | (refine wpList_buildNum rfl (.tmp 53) rfl v rfl ?_) | (at_builtin; refine wpList_append_any _ rfl (.tmp 52) (.tmp 54) 27 rfl (w.heap.size + 1) 24 i0 (.agg nought) 4 32 Try.underlying27 HI0.out.1 HI0.out.2.1 HI0.out.2.2.1 HI0.out.2.2.2 rfl (by decide) _ (sts k).length (cellsOf (sts k)) rfl HOWN.out (ww.heap.size + 1) _ 1 1 (num v).toList rfl HRD.out (num_cells_one v) (by unfold maxLen; omega) (by omega) (by simp; omega) ?_) | fail)
          intro v' w' hown hgrow _
          have hrow : ∀ g, Value.ownBlock _ = some g → w.heap.size + 1 ≤ g := fun g hg => (HOWN.out.lt g hg).1
          have KR3 := hide (NumRow.more hown KR2.out.lt (Nat.lt_trans HVQ.out hgr.lt) HSTP.out)
          have KM4 := hide (show LwMem w gr 26 w' from ⟨below_grown KM3.out.below hgrow (fun g hg => by have := hrow g hg; omega) KM3.out.below.size, KM3.out.G.grown hgrow (fun e => by have := hrow _ e.symm; omega)⟩)
          clear hown hgrow hrow HOWN HRD KM2 KM3 KR2 KB HI0 HSTP KO
          go_wp2_with fail
          go_roundw
          case rel => first | exact ⟨k + 1, by omega, by go_num, KM4.out, KR3.out, KO2.out⟩ | ((repeat apply Exists.intro); exact ⟨⟨k + 1, by omega, by go_num, KM4.out, KR3.out, KO2.out⟩, rfl⟩)
          case measure => simp [intOf]; omega
        · clear hv
          go_wp2_with fail
          try rw [Exit.noGoto_ret]
          exact bodyPost_ret (by kernel_rfl) rfl ⟨rfl, KM2.out.below⟩
      · have hkn' : k = n := by omega
        subst hkn'
        have hlv : (sts k).length = k := by rw [HEND.out, List.length_map, HN.out]
        obtain ⟨A7, c7, hv7, -, hn7, -⟩ := KR.out.open_
        rw [hlv] at hv7
        subst hv7
        have HTHR : Keep (∀ w', Grows wr w' → Calls Try.prog 11 #[.agg gr, .slice B k d, .slice A7 k c7] w' (RowErr w' 24 (thN q xs (sts k)) (thE q xs (sts k)))) := ⟨fun w' hg => by
          have h := through_any gr q hgr B d xs (by rw [HN.out]; omega) (by rw [HN.out]; exact hd) A7 c7 (sts k) (by rw [hlv]; omega) w' (HXS.out.grow (Grows.trans (show Grows w wr from KM.out.below) hg)) (hn7.grow hg)
          rw [HN.out, hlv] at h
          exact h⟩
        have HLV := hide hlv
        clear hlv hn7 hkn hk
        go_wp2_with (first | (refine wpList_load_row rfl 26 _ rfl (w.heap.size) rfl 26 gr (0, 0) _ KM.out.G Try.underlying26 rfl HI.out ?_) | fail)
        with_reducible refine (HTHR.out _ (Grows.refl _)).mono ?_
        rintro e w3 ⟨v11, rfl, hv11, L⟩
        have KM3 := hide (KM.out.grow L)
        clear L KM HTHR KR
        rcases thE_in q xs (sts k) with ⟨hE, hN, hok, her⟩ | ⟨hE, hN⟩ | ⟨hE, hN⟩
        · rw [hE]
          have hok' := hok
          unfold thOk at hok'
          simp only [Bool.and_eq_true, decide_eq_true_eq] at hok'
          obtain ⟨hpt, hlen, hmv⟩ := hok'
          obtain ⟨_, hn0, hq, hall⟩ := pointsB_spec hpt
          obtain ⟨x0, hx0⟩ : ∃ x, xs[0]? = some x := ⟨_, List.getElem?_eq_getElem hn0⟩
          have hpq := (atOk_spec (KO.out 0 x0 (by rw [HN.out] at hn0; exact hn0) hx0)).2.1
          have hlaw := back_law hq hpq hall (by rw [HM.out, HN.out]; exact h3) HEND.out her
          rw [hN, hlaw] at hv11
          obtain ⟨A11, c11, hv11', -, hn11, -⟩ := hv11.open_
          have hll : (ps ++ List.replicate (xs.length - ps.length) 0).length = k := by rw [List.length_append, List.length_replicate, HM.out, HN.out]; omega
          rw [hll] at hv11'
          subst hv11'
          rw [HN.out, HM.out] at hn11 hll
          have HN11 := hide hn11
          have HRD := hide ((HPS.out.grow (show Grows w w3 from KM3.out.below)).reads)
          have HLL := hide hll
          have hpb : ∀ y ∈ ps, y < big := fun y hy => Nat.lt_trans (hpq y hy) hgr.lt
          have HPB := hide hpb
          obtain ⟨i0, hi0, hi1, hi2, hi3⟩ := info_parts info_num
          have HI0 := hide (And.intro hi0 (And.intro hi1 (And.intro hi2 hi3)))
          rw [HM.out] at HRD
          have hszb := KM3.out.below.size
          clear hE hN hok her hpt hn0 hx0 hpq hlaw hv11 hn11 hmv hlen hall hll hpb hi0 hi1 hi2 hi3 KO
          go_wp2_with (first | (at_builtin; refine wpList_append_any _ rfl (.const (.slice none 0 0)) (.tmp 76) 27 rfl w3.heap.size 24 i0 (.agg nought) 4 32 Try.underlying27 HI0.out.1 HI0.out.2.1 HI0.out.2.2.1 HI0.out.2.2.2 rfl (by decide) (.slice none 0 0) 0 [] rfl (World.ownsRow_nil _ _ _ _) w3.heap.size A m c (cellsOf ps) rfl HRD.out (cellsOf_one ps) (by unfold maxLen; omega) (by omega) (by omega) ?_) | fail)
          intro v13 w4 hown hgrow _
          have hR13 : NumRow w4 w3.heap.size 24 v13 ps := ⟨by rw [HM.out]; simpa using hown, HPB.out⟩
          have L4 : Grows w3 w4 := ⟨hgrow.os, hgrow.tape, hgrow.output, hgrow.size, fun k hk => hgrow.block k hk (by simp [Value.ownBlock])⟩
          have HST : Keep (PadRel w w3 24 k m (fun j => ps ++ List.replicate (j - m) 0) v13 w4) := ⟨⟨m, Nat.le_refl _, h3, below_trans_grows KM3.out.below L4 hszb, L4, by show NumRow w4 w3.heap.size 24 v13 (ps ++ List.replicate (m - m) 0); rw [Nat.sub_self, List.replicate_zero, List.append_nil]; exact hR13⟩⟩
          have hstl : ∀ j, m ≤ j → (ps ++ List.replicate (j - m) 0).length = j := fun j hj => by rw [List.length_append, List.length_replicate, HM.out]; omega
          have hstp : ∀ j, m ≤ j → ps ++ List.replicate (j + 1 - m) 0 = (ps ++ List.replicate (j - m) 0) ++ [0] := fun j hj => by rw [show j + 1 - m = j - m + 1 by omega, List.replicate_succ', List.append_assoc]
          have HN11' := HN11
          generalize hsteq : (fun j => ps ++ List.replicate (j - m) 0) = pad at *
          have hpe : ∀ j, ps ++ List.replicate (j - m) 0 = pad j := fun j => by rw [← hsteq]
          rw [hpe] at HN11
          simp only [hpe] at hstl hstp
          have HSTL := hide hstl
          have HSTP := hide hstp
          clear hown hgrow hR13 L4 HN11' HRD hstl hstp hpe hsteq HLL
          go_wp2_with fail
          go_loopw [13] (fun v13 wr => PadRel w w3 24 k m pad v13 wr) (fun v _ => k - lenOf v)
          case atStart => exact HST.out
          case round =>
            clear HST
            obtain ⟨j, hmj, hjk, hL, hL3, hR⟩ := hrel
            have hlj := HSTL.out j hmj
            obtain ⟨A13, c13, hv13, -, hn13, -⟩ := hR.open_
            rw [hlj] at hv13
            subst hv13
            have KL := hide hL
            have KL3 := hide hL3
            have KR := hide hR
            have KN := hide hn13
            have hlt3 := hL3.size
            clear hL hL3 hR hn13
            by_cases hjn : j < k
            · have L1 : Grows wr (wr.alloc (.cells (num 0) 24)) := (Below.refl _ _).alloc (Nat.le_refl _) _
              have HOWN := hide (KR.out.grow L1).own
              rw [hlj] at HOWN
              have HRD : Keep (Reads (wr.alloc (.cells (num 0) 24)) (wr.heap.size + 1) 4 (some ⟨wr.heap.size, 0, none⟩) 1 (num 0).toList) := ⟨by rw [Array.length_toList, num_size], fun _ => ⟨_, rfl, by simp, fun j u hu => by
                rw [show (⟨wr.heap.size, 0, none⟩ : Addr).add j = ⟨wr.heap.size, j, none⟩ by unfold Addr.add; split <;> simp_all, (Blk.new wr 24 (num 0)).cell]
                simpa using hu⟩⟩
              have KL1 := hide (Grows.trans KL.out L1)
              have KL31 := hide (Grows.trans KL3.out L1)
              have HSTPj := hide (HSTP.out j hmj)
              have h0 : (.agg #[.int .u64 0, .int .u64 0, .int .u64 0, .int .u64 0] : Value) = .agg (num 0) := by rw [num_zero]; rfl
              have H0 := hide h0
              clear L1 h0 hlj
              go_wp2_with (first | (refine wpList_buildNum rfl (.tmp 84) rfl 0 H0.out ?_) | (at_builtin; refine wpList_append_any _ rfl (.tmp 83) (.tmp 85) 27 rfl w3.heap.size 24 i0 (.agg nought) 4 32 Try.underlying27 HI0.out.1 HI0.out.2.1 HI0.out.2.2.1 HI0.out.2.2.2 rfl (by decide) _ j (cellsOf (pad j)) rfl HOWN.out (wr.heap.size + 1) _ 1 1 (num 0).toList rfl HRD.out (num_cells_one 0) (by unfold maxLen; omega) (by omega) (by simp; omega) ?_) | fail)
              intro v' w' hown hgrow _
              have hrow : ∀ g, Value.ownBlock _ = some g → w3.heap.size ≤ g := fun g hg => (HOWN.out.lt g hg).1
              have hl2 := HSTL.out (j + 1) (by omega)
              have KR3 := hide (NumRow.more (ns := pad j) (by rw [HSTL.out j hmj]; exact hown) KR.out.lt big_pos HSTPj.out)
              have KL4 := hide (below_grown KL1.out hgrow (fun g hg => by have := hrow g hg; omega) KL1.out.size)
              have KL34 := hide (below_grown KL31.out hgrow hrow KL31.out.size)
              obtain ⟨A14, c14, hv14, -, -, -⟩ := KR3.out.open_
              rw [hl2] at hv14
              subst hv14
              clear hown hgrow hrow HOWN HRD KL1 KL31 KL KL3 KR KN HSTPj hl2
              go_wp2_with fail
              go_roundw
              case rel => first | exact ⟨j + 1, by omega, by omega, KL4.out, KL34.out, KR3.out⟩ | ((repeat apply Exists.intro); exact ⟨⟨j + 1, by omega, by omega, KL4.out, KL34.out, KR3.out⟩, rfl⟩)
              case measure => simp [lenOf]; omega
            · have hjn' : j = k := by omega
              subst hjn'
              have hs := sameNums_any A11 A13 c11 c13 (pad j) (pad j) (by rw [hlj]; omega) wr (HN11.out.grow KL3.out) KN.out
              rw [decide_eq_true rfl, hlj] at hs
              have HS := hide hs
              clear hs hlj KN KR
              go_wp2_with fail
              with_reducible refine HS.out.mono ?_
              rintro e w9 ⟨rfl, L⟩
              have KL9 := hide (Grows.trans KL.out L)
              clear L HS KL KL3
              go_wp2_with fail
              exact bodyPost_ret (by kernel_rfl) rfl ⟨rfl, KL9.out⟩
        · rw [hE]
          clear hE hN hv11
          by_cases hn0 : (k : Int) = 0
          · go_wp2_with fail
            exact bodyPost_ret (by kernel_rfl) rfl ⟨rfl, KM3.out.below⟩
          · go_wp2_with fail
            exact bodyPost_ret (by kernel_rfl) rfl ⟨rfl, KM3.out.below⟩
        · rw [hE]
          clear hE hN hv11
          by_cases hn0 : (k : Int) = 0
          · go_wp2_with fail
            exact bodyPost_ret (by kernel_rfl) rfl ⟨rfl, KM3.out.below⟩
          · go_wp2_with fail
            exact bodyPost_ret (by kernel_rfl) rfl ⟨rfl, KM3.out.below⟩
  · by_cases h1 : m ≤ 20
    · by_cases h2 : n ≤ 20
      · have h3 : ¬ m ≤ n := fun h => h20 ⟨h1, h2, h⟩
        have h3' : n < m := by omega
        clear h20 h3
        go_wp2_with fail
        with_reducible refine (alive10_any _).mono ?_
        rintro e w3 ⟨rfl, L⟩
        have KM3 := hide (KM2.out.grow L)
        clear L KM2
        go_wp2_with fail
        exact bodyPost_ret (by kernel_rfl) rfl ⟨rfl, KM3.out.below⟩
      · clear h20
        go_wp2_with fail
        with_reducible refine (alive10_any _).mono ?_
        rintro e w3 ⟨rfl, L⟩
        have KM3 := hide (KM2.out.grow L)
        clear L KM2
        go_wp2_with fail
        exact bodyPost_ret (by kernel_rfl) rfl ⟨rfl, KM3.out.below⟩
    · clear h20
      go_wp2_with fail
      with_reducible refine (alive10_any _).mono ?_
      rintro e w3 ⟨rfl, L⟩
      have KM3 := hide (KM2.out.grow L)
      clear L KM2
      go_wp2_with fail
      exact bodyPost_ret (by kernel_rfl) rfl ⟨rfl, KM3.out.below⟩
set_option maxRecDepth 100000 in
theorem polysBack_law {H : Type} (enc : TypeId × Value → H) (W : World) (base : Nat) (v0 v1 v2 : Value) {d0 d1 d2 : DataW H} {p0 p1 p2 : List MemPlace} {X Y : Prop}
    (hv0 : Value.okWide Try.prog W .any base 26 v0) (hv1 : Value.okWide Try.prog W .any base 27 v1) (hv2 : Value.okWide Try.prog W .any base 27 v2)
    (h0 : DataW.Trod enc Try.prog W 0 (fun _ => true) true 26 v0 d0 p0) (h1 : DataW.Trod enc Try.prog W 0 (fun _ => true) true 27 v1 d1 p1) (h2 : DataW.Trod enc Try.prog W 0 (fun _ => true) true 27 v2 d2 p2) (_ : X) (_ : Y) :
    Calls Try.prog 4 #[v0, v1, v2] W (BoolEnds W true) := by
  obtain ⟨gr, q, hgr, rfl⟩ := grp_arg hv0 h0
  obtain ⟨A, c, ps, rfl, _, _, hps⟩ := nums_arg hv1 h1
  obtain ⟨B, d, xs, rfl, hd, _, hxs⟩ := nums_arg hv2 h2
  exact polysBack_any gr q hgr A c ps B d xs hd W hps hxs
end Go.Proofs.Ythdanjbgbbcafaa
