/- PolysThrough: walked. -/
import Derived.Test.YthdanjbgbbcafaaTenB
import Derived.Test.YthdanjbgbbcafaaLagB
import Derived.Test.YthdanjbgbbcafaaIn10
namespace Go.Proofs.Ythdanjbgbbcafaa
open Go Go.RowKit

structure LwMem (w : World) (gr : Array Value) (t26 : TypeId) (W : World) : Prop where
  below : Below w.heap.size w W
  G : Blk W w.heap.size t26 gr
theorem LwMem.grow {w W W' : World} {gr : Array Value} {t26 : TypeId} (h : LwMem w gr t26 W) (hg : Grows W W') : LwMem w gr t26 W' := ⟨below_trans_grows h.below hg h.below.size, h.G.below hg h.G.lt⟩
theorem LwMem.start (w : World) (gr : Array Value) (t26 : TypeId) : LwMem w gr t26 (w.alloc (.cells gr t26)) := ⟨(Below.refl _ _).alloc (Nat.le_refl _) _, Blk.new w _ _⟩
def LwRel (w w3 : World) (gr : Array Value) (t26 : TypeId) (n : Nat) (vi : Value) (wr : World) : Prop := ∃ k : Nat, k ≤ n ∧ vi = .int .i64 (k : Nat) ∧ LwMem w gr t26 wr ∧ Grows w3 wr
theorem thE_in (q : Nat) (ns vs : List Nat) : (thE q ns vs = 0 ∧ thN q ns vs = thM q ns vs ns.length ∧ thOk q ns vs = true ∧ errM q ns ns.length = 0) ∨ (thE q ns vs = 1 ∧ thN q ns vs = []) ∨ (thE q ns vs = 7 ∧ thN q ns vs = []) := by
  unfold thE thN
  by_cases h : thOk q ns vs = true
  · rw [if_pos h, if_pos h]
    by_cases h' : errM q ns ns.length = 0
    · rw [if_pos h', if_pos h']
      exact .inl ⟨rfl, rfl, h, h'⟩
    · rw [if_neg h', if_neg h']
      exact .inr (.inr ⟨rfl, rfl⟩)
  · rw [if_neg h, if_neg h]
    exact .inr (.inl ⟨rfl, rfl⟩)
theorem atOk_of {q : Nat} (hq : 1 < q) {p : List Nat} {x : Nat} (hp : ∀ y ∈ p, y < q) (hx : x < q) : atN q p x = atV q p x ∧ atE q p x = 0 := by
  have h : atOk q p x = true := by
    unfold atOk mayL
    simp only [Bool.and_eq_true, decide_eq_true_eq, List.all_eq_true, List.mem_cons, List.not_mem_nil, or_false, forall_eq]
    exact ⟨⟨hq, hp⟩, hq, hx⟩
  unfold atN atE
  rw [if_pos h, if_pos h]
  exact ⟨rfl, rfl⟩
set_option maxRecDepth 100000 in
set_option maxHeartbeats 8000000 in
theorem polysThrough_any (gr : Array Value) (q : Nat) (hgr : GroupRow gr q) (A : Option Addr) (c : Nat) (ns : List Nat) (hc : ns.length ≤ c) (B : Option Addr) (d : Nat) (vs : List Nat) (_ : vs.length ≤ d) (w : World) (hns : NumsAt w A ns) (hvs : NumsAt w B vs) :
    Calls Try.prog 3 #[.agg gr, .slice A ns.length c, .slice B vs.length d] w (BoolEnds w true) := by
  have hi := info_group gr hgr.size
  have HI := hide hi
  have HNS := hide hns
  have HVS := hide hvs
  generalize hn : ns.length = n at *
  generalize hnv : vs.length = nv at *
  have HN := hide hn
  have HNV := hide hnv
  clear hi hns hvs hn hnv
  go_enter Try.func3, Try.ntmps3
  go_upto_region 1 with fail
  have M := LwMem.start w gr 26
  change Code.wp _ _ _ _ (w.alloc (.cells gr 26))
  generalize w.alloc (.cells gr 26) = w1 at *
  have KM := hide M
  clear M
  go_wp2_with fail
  with_reducible refine (alive10_any _).mono ?_
  rintro e w2 ⟨rfl, L⟩
  have KM2 := hide (KM.out.grow L)
  clear L KM
  by_cases h20 : n ≤ 20 ∧ nv ≤ 20
  · obtain ⟨h1, h2⟩ := h20
    have hthr := fun (w' : World) (h : NumsAt w' A ns) (h' : NumsAt w' B vs) => through_any gr q hgr A c ns (by rw [HN.out]; omega) (by rw [HN.out]; exact hc) B d vs (by rw [HNV.out]; omega) w' h h'
    rw [HN.out, HNV.out] at hthr
    have HTHR := hide hthr
    clear hthr
    go_wp2_with (first | (refine wpList_load_row rfl 26 _ rfl (w.heap.size) rfl 26 gr (0, 0) _ KM2.out.G Try.underlying26 rfl HI.out ?_) | fail)
    have HNS2 := hide (HNS.out.grow (show Grows w w2 from KM2.out.below))
    have HVS2 := hide (HVS.out.grow (show Grows w w2 from KM2.out.below))
    with_reducible refine (HTHR.out _ HNS2.out HVS2.out).mono ?_
    rintro e w3 ⟨v7, rfl, hv7, L⟩
    have KM3 := hide (KM2.out.grow L)
    clear L KM2 HTHR HNS2 HVS2
    rcases thE_in q ns vs with ⟨hE, hN, hok, her⟩ | ⟨hE, hN⟩ | ⟨hE, hN⟩
    · rw [hE]
      have hok' := hok
      unfold thOk at hok'
      simp only [Bool.and_eq_true, decide_eq_true_eq] at hok'
      obtain ⟨hpt, hlen, hmv⟩ := hok'
      obtain ⟨_, hn0, hq, hall⟩ := pointsB_spec hpt
      have hvall := (mayL_spec hmv).2
      rw [HN.out, HNV.out] at hlen
      subst hlen
      have hthl := thM_lt hq ns vs ns.length
      have hthlen := thM_len q ns vs ns.length
      have hat := fun (i x v : Nat) (hx : ns[i]? = some x) (hv : vs[i]? = some v) => thru_at hq hall hvall (errM_zero.1 her) hx hv
      rw [hN] at hv7
      rw [HN.out] at hthl hthlen hat hv7
      generalize thM q ns vs nv = p at *
      obtain ⟨A7, c7, hv7', -, hn7, -⟩ := hv7.open_
      rw [hthlen] at hv7'
      subst hv7'
      have HAT : Keep (∀ (i x v : Nat), ns[i]? = some x → vs[i]? = some v → ∀ w', Grows w3 w' → Calls Try.prog 12 #[.agg gr, .slice A7 nv c7, .agg (num x)] w' (MayEnds w' v 0)) := ⟨fun i x v hx hv w' hg => by
        have hxq := hall x (List.mem_of_getElem? hx)
        have h := at_any gr q x hgr (Nat.lt_trans hxq hgr.lt) A7 c7 p (by rw [hthlen]; omega) w' (hn7.grow hg)
        rw [(atOk_of hq hthl hxq).1, (atOk_of hq hthl hxq).2, hat i x v hx hv, hthlen] at h
        exact h⟩
      have HVALL : Keep (∀ y ∈ vs, y < big) := ⟨fun y hy => Nat.lt_trans (hvall y hy) hgr.lt⟩
      have HST : Keep (LwRel w w3 gr 26 nv (.int .i64 (0 : Nat)) w3) := ⟨⟨0, Nat.zero_le _, rfl, KM3.out, Grows.refl w3⟩⟩
      have HN7 := hide hn7
      clear hE hN hok her hpt hn0 hall hvall hthl hthlen hat hv7 hn7 hmv
      go_wp2_with fail
      go_loopw [9] (fun vi wr => LwRel w w3 gr 26 nv vi wr) (fun i _ => nv - (intOf i).toNat)
      case atStart => exact HST.out
      case round =>
        clear HST
        obtain ⟨k, hk, rfl, hM, hL⟩ := hrel
        have KM := hide hM
        have KL := hide hL
        clear hM hL
        by_cases hkn : k < nv
        · obtain ⟨x, hx⟩ : ∃ x, ns[k]? = some x := ⟨_, List.getElem?_eq_getElem (by have := HN.out; omega)⟩
          obtain ⟨v, hv⟩ : ∃ v, vs[k]? = some v := ⟨_, List.getElem?_eq_getElem (by have := HNV.out; omega)⟩
          have hvb := HVALL.out v (List.mem_of_getElem? hv)
          obtain ⟨hxb, b, o, eA, hlt, hrng⟩ := (HNS.out.grow (show Grows w wr from KM.out.below)) k x hx
          obtain ⟨_, b', o', eB, hlt', hrng'⟩ := (HVS.out.grow (show Grows w wr from KM.out.below)) k v hv
          have HA : Keep (∀ w', Grows wr.drew w' → Calls Try.prog 12 #[.agg gr, .slice A7 nv c7, .agg (num x)] w' (MayEnds w' v 0)) := ⟨fun w' hg => HAT.out k x v hx hv w' (Grows.trans KL.out (Grows.trans (Below.drew (Below.refl _ wr)) hg))⟩
          have lg := load_grp_grows hgr KM.out.G.drew
          have lx : ∀ w', Grows wr.drew w' → _ := fun w' hg => load_grown hlt hrng w' (Grows.trans (Below.drew (Below.refl _ wr)) hg)
          have HR' := hide hrng'
          subst eA eB
          clear hx hv hrng hrng'
          go_upto_region 11 with fail
          refine wp_region_kindsF [⟨10, 11, 24, nought, num v⟩] (by kernel_rfl) (by kernel_rfl) (fun F hF => ?_)
          repeat (first
            | refine kindsF_move_is _ rfl rfl (Or.inl rfl) rfl ?_
            | refine kindsF_move_is _ rfl rfl (Or.inr rfl) rfl ?_
            | refine kindsF_load 3 26 rfl rfl rfl rfl lg ?_
            | refine kindsF_load 68 24 rfl rfl rfl rfl lx ?_
            | refine kindsF_alloc 24 11 nought (num v) rfl rfl (List.Mem.head _) alloc_num ?_
            | refine kindsF_store 10 71 24 10 nought (num v) rfl rfl rfl rfl rfl (List.Mem.head _) (store_num v) ?_
            | (apply kindsF_is rfl rfl
               · intro ρ wv K hw hf hK
                 first | obtain ⟨e0, e1, e2, e3, e4, e5, e6, -⟩ := hf | obtain ⟨e0, e1, e2, e3, e4, e5, -⟩ := hf | obtain ⟨e0, e1, e2, e3, e4, -⟩ := hf | obtain ⟨e0, e1, e2, e3, -⟩ := hf | obtain ⟨e0, e1, e2, -⟩ := hf | obtain ⟨e0, e1, -⟩ := hf | obtain ⟨e0, -⟩ := hf | clear hf
                 (try change ρ _ = _ at e0)
                 (try change ρ _ = _ at e1)
                 (try change ρ _ = _ at e2)
                 (try change ρ _ = _ at e3)
                 unfold gives
                 go_simp
                 first
                   | (change Calls _ _ _ _ _; (go_at_call 12; (with_reducible refine (HA.out _ hw).mono ?_); rintro e w' ⟨rfl, hb⟩; exact ⟨_, rfl, hK _ hb⟩))
                   | ((try go_ints); (try rw [if_pos (by omega)]); exact hK _ (Grows.refl _))))
          refine kindsF_nil (hF _ rfl rfl (fun ww γ hg hfr hun => ?_))
          clear hF F
          simp only [pushSlot, finish, Act.put, List.setIfInBounds_toArray, List.set_cons_succ, List.set_cons_zero]
          obtain ⟨⟨l10, B10⟩, -⟩ := hfr
          change Blk ww (γ 10) _ (num v) at B10
          intro x10 _ ht
          obtain ⟨t1, -⟩ := ht
          change x10 = .pointer (some ⟨γ 10, 0, none⟩) at t1
          subst t1
          have hgg : Grows wr ww := Grows.trans (Below.drew (Below.refl _ wr)) hg
          have KM2 := hide (KM.out.grow hgg)
          have KL2 := hide (Grows.trans KL.out hgg)
          have hd : Grows ww ww.drew := Below.drew (Below.refl _ ww)
          have lv := load_growsN B10.drew
          have lv' : ∀ w', Grows ww.drew w' → _ := fun w' hg => load_grown hlt' HR'.out w' (Grows.trans hgg (Grows.trans hd hg))
          have hne := num_neq v v hvb hvb
          rw [decide_eq_true rfl] at hne
          generalize γ 10 = g10 at *
          clear hg hun l10 B10 lg lx hgg KM KL HA
          clear γ
          go_upto_region 12 with fail
          refine wp_region_kinds 10 (by kernel_rfl) (by kernel_rfl) (fun F hF => ?_)
          repeat (first
            | refine kinds_move_is _ rfl (Or.inl rfl) rfl ?_
            | refine kinds_move_is _ rfl (Or.inr rfl) rfl ?_
            | (refine kinds_on rfl rfl rfl ?_; refine kinds_load 10 24 rfl rfl rfl lv ?_)
            | (refine kinds_on rfl rfl rfl ?_; refine kinds_load 79 24 rfl rfl rfl lv' ?_)
            | refine kinds_off rfl rfl rfl rfl ?_
            | refine kinds_off' rfl rfl rfl ?_
            | ((first | refine kinds_on rfl rfl rfl ?_ | skip)
               apply kinds_is rfl
               · intro ρ wv K hw hf hK
                 first | obtain ⟨e0, e1, e2, e3, e4, e5, e6, -⟩ := hf | obtain ⟨e0, e1, e2, e3, e4, e5, -⟩ := hf | obtain ⟨e0, e1, e2, e3, e4, -⟩ := hf | obtain ⟨e0, e1, e2, e3, -⟩ := hf | obtain ⟨e0, e1, e2, -⟩ := hf | obtain ⟨e0, e1, -⟩ := hf | obtain ⟨e0, -⟩ := hf | clear hf
                 (try change ρ _ = _ at e0)
                 (try change ρ _ = _ at e1)
                 (try change ρ _ = _ at e2)
                 (try change ρ _ = _ at e3)
                 unfold gives
                 go_simp
                 (try go_ints)
                 (try rw [if_pos (by omega)])
                 exact hK _ (Grows.refl _)))
          refine kinds_nil (hF _ rfl rfl (fun ww hg => ?_))
          clear hF F
          simp only [pushSlot, finish, Act.put, List.setIfInBounds_toArray, List.set_cons_succ, List.set_cons_zero]
          simp only [List.drop_succ_cons, List.drop_zero]
          have KM3 := hide (KM2.out.grow (Grows.trans hd hg))
          have KL3 := hide (Grows.trans KL2.out (Grows.trans hd hg))
          clear hg hd lv lv' hne KM2 KL2 HR' hlt hlt'
          go_wp2_with fail
          go_roundw
          case rel => exact ⟨k + 1, by omega, by go_num, KM3.out, KL3.out⟩
          case measure => simp [intOf]; omega
        · have hkn' : k = nv := by omega
          subst hkn'
          go_wp2_with fail
          exact bodyPost_ret (by kernel_rfl) rfl ⟨rfl, KM.out.below⟩
    · rw [hE]
      rw [hN] at hv7
      obtain ⟨A7, c7, hv7', -, -, -⟩ := hv7.open_
      change v7 = .slice A7 0 c7 at hv7'
      subst hv7'
      clear hE hN hv7
      go_wp2_with fail
      exact bodyPost_ret (by kernel_rfl) rfl ⟨rfl, KM3.out.below⟩
    · rw [hE]
      rw [hN] at hv7
      obtain ⟨A7, c7, hv7', -, -, -⟩ := hv7.open_
      change v7 = .slice A7 0 c7 at hv7'
      subst hv7'
      clear hE hN hv7
      go_wp2_with fail
      exact bodyPost_ret (by kernel_rfl) rfl ⟨rfl, KM3.out.below⟩
  · by_cases h1 : n ≤ 20
    · have h2 : ¬ nv ≤ 20 := fun h => h20 ⟨h1, h⟩
      clear h20
      go_wp2_with fail
      with_reducible refine (alive10_any _).mono ?_
      rintro e w3 ⟨rfl, L⟩
      have KM3 := hide (KM2.out.grow L)
      clear L KM2
      go_wp2_with fail
      exact bodyPost_ret (by kernel_rfl) rfl ⟨rfl, KM3.out.below⟩
    · clear h20
      go_wp2_with fail
      with_reducible refine (alive10_any _).mono ?_
      rintro e w3 ⟨rfl, L⟩
      have KM3 := hide (KM2.out.grow L)
      clear L KM2
      go_wp2_with fail
      exact bodyPost_ret (by kernel_rfl) rfl ⟨rfl, KM3.out.below⟩
set_option maxRecDepth 100000 in
theorem polysThrough_law {H : Type} (enc : TypeId × Value → H) (W : World) (base : Nat) (v0 v1 v2 : Value) {d0 d1 d2 : DataW H} {p0 p1 p2 : List MemPlace} {X Y : Prop}
    (hv0 : Value.okWide Try.prog W .any base 26 v0) (hv1 : Value.okWide Try.prog W .any base 27 v1) (hv2 : Value.okWide Try.prog W .any base 27 v2)
    (h0 : DataW.Trod enc Try.prog W 0 (fun _ => true) true 26 v0 d0 p0) (h1 : DataW.Trod enc Try.prog W 0 (fun _ => true) true 27 v1 d1 p1) (h2 : DataW.Trod enc Try.prog W 0 (fun _ => true) true 27 v2 d2 p2) (_ : X) (_ : Y) :
    Calls Try.prog 3 #[v0, v1, v2] W (BoolEnds W true) := by
  obtain ⟨gr, q, hgr, rfl⟩ := grp_arg hv0 h0
  obtain ⟨A, c, ns, rfl, hc, _, hns⟩ := nums_arg hv1 h1
  obtain ⟨B, d, vs, rfl, hd, _, hvs⟩ := nums_arg hv2 h2
  exact polysThrough_any gr q hgr A c ns hc B d vs hd W hns hvs
end Go.Proofs.Ythdanjbgbbcafaa
