/- PolysSums: walked (printed by gen_sums.py). -/
import Derived.Test.YthdanjbgbbcafaaTenB
import Derived.Test.YthdanjbgbbcafaaSumPure
import Derived.Test.YthdanjbgbbcafaaApp
namespace Go.Proofs.Ythdanjbgbbcafaa
open Go Go.RowKit

def SumsRel (wp : World) (n q x : Nat) (t24 : TypeId) (SM MN : List Nat) (v11 v12 vi : Value) (wr : World) : Prop :=
  ∃ k : Nat, k ≤ n ∧ vi = .int .i64 (k : Nat) ∧ Grows wp wr ∧ Blk wr wp.heap.size t24 (num (x ^ k % q)) ∧ NumRow wr (wp.heap.size + 1) t24 v11 (SM.take k) ∧ NumRow wr (wp.heap.size + 1) t24 v12 (MN.take k) ∧ ∀ g, v11.ownBlock = some g → v12.ownBlock ≠ some g
set_option maxRecDepth 100000 in
set_option maxHeartbeats 8000000 in
theorem polysSums_any (gr : Array Value) (q : Nat) (hgr : GroupRow gr q) (A : Option Addr) (c : Nat) (ns : List Nat) (B : Option Addr) (d : Nat) (vs : List Nat) (x m : Nat) (hz0 : x < big) (hz1 : m < big) (w : World) (hns : NumsAt w A ns) (hvs : NumsAt w B vs) :
    Calls Try.prog 5 #[.agg gr, .agg #[.slice A ns.length c, .slice B vs.length d], .agg (cellsOf [x, m]).toArray] w (BoolEnds w true) := by
  have hi := info_group gr hgr.size
  have HI := hide hi
  have HNS := hide hns
  have HVS := hide hvs
  generalize hn : ns.length = n at *
  generalize hnv : vs.length = nv at *
  have HN := hide hn
  have HNV := hide hnv
  clear hi hns hvs hn hnv
  go_enter Try.func5, Try.ntmps5
  go_upto_region 1 with fail
  have B0 := ((Blk.new w 26 gr).alloc (.cells #[.slice A n c, .slice B nv d] 36)).alloc (.cells (cellsOf [x, m]).toArray 37)
  have B1 := (Blk.new (w.alloc (.cells gr 26)) 36 #[.slice A n c, .slice B nv d]).alloc (.cells (cellsOf [x, m]).toArray 37)
  have B2 := Blk.new ((w.alloc (.cells gr 26)).alloc (.cells #[.slice A n c, .slice B nv d] 36)) 37 (cellsOf [x, m]).toArray
  have hL0 : Grows w (((w.alloc (.cells gr 26)).alloc (.cells #[.slice A n c, .slice B nv d] 36)).alloc (.cells (cellsOf [x, m]).toArray 37)) := (((Below.refl _ _).alloc (Nat.le_refl _) _).alloc (by simp) _).alloc (by simp; omega) _
  simp only [World.size_alloc] at B1 B2
  change Code.wp _ _ _ _ (((w.alloc (.cells gr 26)).alloc (.cells #[.slice A n c, .slice B nv d] 36)).alloc (.cells (cellsOf [x, m]).toArray 37))
  generalize ((w.alloc (.cells gr 26)).alloc (.cells #[.slice A n c, .slice B nv d] 36)).alloc (.cells (cellsOf [x, m]).toArray 37) = w0 at *
  have KH0 := hide ((((Held.nil w0).cons B2).cons B1).cons B0)
  have KB0 := hide (show Below w.heap.size w w0 from hL0)
  clear B0 B1 B2 hL0
  go_wp2_with fail
  with_reducible refine (alive10_any _).mono ?_
  rintro e w1 ⟨rfl, L⟩
  have KH1 := hide (KH0.out.grow L)
  have KB1 := hide (below_trans_grows KB0.out L KB0.out.size)
  clear L KH0 KB0
  have hc0 : w1.cell? ⟨w.heap.size + 1, 0, none⟩ = some (.slice A n c) := (KH1.out.at_ 1 rfl).cell 0
  have hc1 : w1.cell? ⟨w.heap.size + 1, 1, none⟩ = some (.slice B nv d) := (KH1.out.at_ 1 rfl).cell 1
  by_cases h20 : n ≤ 20
  · by_cases hnv : n = nv
    · subst hnv
      have HATA : Keep (∀ w', Below w.heap.size w w' → Calls Try.prog 12 #[.agg gr, .slice A n c, .agg (num x)] w' (MayEnds w' (atN q ns x) (atE q ns x))) := ⟨fun w' hg => by
        have h := at_any gr q x hgr hz0 A c ns (by rw [HN.out]; omega) w' (HNS.out.grow hg)
        rw [HN.out] at h
        exact h⟩
      have HATB : Keep (∀ w', Below w.heap.size w w' → Calls Try.prog 12 #[.agg gr, .slice B n d, .agg (num x)] w' (MayEnds w' (atN q vs x) (atE q vs x))) := ⟨fun w' hg => by
        have h := at_any gr q x hgr hz0 B d vs (by rw [HNV.out]; omega) w' (HVS.out.grow hg)
        rw [HNV.out] at h
        exact h⟩
      go_wp2_with (first | (refine wpList_load_row rfl 26 _ rfl (w.heap.size) rfl 26 gr (0, 0) _ (KH1.out.at_ 0 rfl) Try.underlying26 rfl HI.out ?_) | (refine wpList_load_mid rfl 24 _ rfl (w.heap.size + 1 + 1) 0 rfl (num x).toList _ (Blk.numAt (KH1.out.at_ 2 rfl) (i := 0) rfl) Try.underlying24 rfl info4 ?_) | fail)
      with_reducible refine (HATA.out _ KB1.out).mono ?_
      rintro e w2 ⟨rfl, L⟩
      have KH2 := hide (KH1.out.grow L)
      have KB2 := hide (below_trans_grows KB1.out L KB1.out.size)
      clear L KH1 KB1
      go_upto_region 4 with (first | (refine wpList_store_row rfl 24 (.tmp 7) (.tmp 58) rfl (w2.heap.size) (num (atN q ns x)) rfl rfl 24 _ (Blk.new w2 _ nought) info4 rfl (num_one _) ?_) | fail)
      obtain ⟨R0, L0⟩ := num_box w2 24 (num (atN q ns x))
      change Code.wp _ _ _ _ ((w2.alloc (.cells nought 24)).setRow w2.heap.size (num (atN q ns x)))
      generalize (w2.alloc (.cells nought 24)).setRow w2.heap.size (num (atN q ns x)) = w3 at *
      have KH3 := hide (KH2.out.grow L0)
      have KB3 := hide (below_trans_grows KB2.out L0 KB2.out.size)
      clear L0 KH2 KB2
      have KH3 := hide (KH3.out.cons R0)
      generalize w2.heap.size = g7 at *
      clear R0
      generalize haN : atN q ns x = an at *
      clear HATA hc0 hc1
      have hc0 : w3.cell? ⟨w.heap.size + 1, 0, none⟩ = some (.slice A n c) := (KH3.out.at_ 2 rfl).cell 0
      have hc1 : w3.cell? ⟨w.heap.size + 1, 1, none⟩ = some (.slice B n d) := (KH3.out.at_ 2 rfl).cell 1
      go_wp2_with (first | (refine wpList_load_row rfl 26 _ rfl (w.heap.size) rfl 26 gr (0, 0) _ (KH3.out.at_ 1 rfl) Try.underlying26 rfl HI.out ?_) | (refine wpList_load_mid rfl 24 _ rfl (w.heap.size + 1 + 1) 0 rfl (num x).toList _ (Blk.numAt (KH3.out.at_ 3 rfl) (i := 0) rfl) Try.underlying24 rfl info4 ?_) | fail)
      with_reducible refine (HATB.out _ KB3.out).mono ?_
      rintro e w4 ⟨rfl, L⟩
      have KH4 := hide (KH3.out.grow L)
      have KB4 := hide (below_trans_grows KB3.out L KB3.out.size)
      clear L KH3 KB3
      go_upto_region 5 with (first | (refine wpList_store_row rfl 24 (.tmp 9) (.tmp 67) rfl (w4.heap.size) (num (atN q vs x)) rfl rfl 24 _ (Blk.new w4 _ nought) info4 rfl (num_one _) ?_) | fail)
      obtain ⟨R0, L0⟩ := num_box w4 24 (num (atN q vs x))
      change Code.wp _ _ _ _ ((w4.alloc (.cells nought 24)).setRow w4.heap.size (num (atN q vs x)))
      generalize (w4.alloc (.cells nought 24)).setRow w4.heap.size (num (atN q vs x)) = w5 at *
      have KH5 := hide (KH4.out.grow L0)
      have KB5 := hide (below_trans_grows KB4.out L0 KB4.out.size)
      clear L0 KH4 KB4
      have KH5 := hide (KH5.out.cons R0)
      generalize w4.heap.size = g9 at *
      clear R0
      generalize hbN : atN q vs x = bn at *
      clear HATB hc0 hc1
      rcases atE_in q ns x with ⟨hE, hN1, hok⟩ | hE
      · rcases atE_in q vs x with ⟨hF, hN2, hok2⟩ | hF
        · rw [hE, hF]
          obtain ⟨hq, hall, hxq⟩ := atOk_spec hok
          obtain ⟨_, hallv, _⟩ := atOk_spec hok2
          rw [hN1] at haN
          rw [hN2] at hbN
          have hanq : an < q := by rw [← haN]; exact atV_below hq _ _
          have hbnq : bn < q := by rw [← hbN]; exact atV_below hq _ _
          have hqb := hgr.lt
          have hsum := sum_law (x := x) hq (ns := ns) (vs := vs) (by rw [HN.out, HNV.out]) hxq
          have hscale := scale_law (m := m) (x := x) hq (ns := ns) hxq
          have hmore := fun hm : m < q => more_law hq hall hxq hm
          have hnone := fun hm : ¬ m < q => more_none (q := q) (m := m) (x := x) (ns := ns) hm
          rw [haN, hbN] at hsum
          rw [haN] at hscale hmore
          rw [HN.out] at hmore
          obtain ⟨p1, hp1⟩ : ∃ p, p = ns ++ [m] := ⟨_, rfl⟩
          rw [← hp1] at hmore hnone
          have hp1l : p1.length ≤ 1000 := by rw [hp1, List.length_append, HN.out]; simp; omega
          have HP1 := hide hp1
          have HSUM := hide hsum
          have HSCALE := hide hscale
          have HMORE := hide hmore
          have HNONE := hide hnone
          have HALL := hide hall
          have HALLV := hide hallv
          clear hE hF hN1 hN2 hok hok2 hsum hscale hmore hnone hall hallv haN hbN hp1
          go_wp2_with (first | (refine wpList_load_row rfl 26 _ rfl (w.heap.size) rfl 26 gr (0, 0) _ (KH5.out.at_ 2 rfl) Try.underlying26 rfl HI.out ?_) | fail)
          with_reducible refine (sof_high gr q hgr hq _).mono ?_
          rintro e wp ⟨rfl, L⟩
          have KH6 := hide (KH5.out.grow L)
          have KB6 := hide (below_trans_grows KB5.out L KB5.out.size)
          clear L KH5 KB5
          go_upto_region 9 with (first | (refine wpList_store_row rfl 24 (.tmp 13) (.tmp 82) rfl (wp.heap.size) (num 1) rfl rfl 24 _ (Blk.new wp _ nought) info4 rfl (num_one _) ?_) | fail)
          obtain ⟨R0, L0⟩ := num_box wp 24 (num 1)
          change Code.wp _ _ _ _ ((wp.alloc (.cells nought 24)).setRow wp.heap.size (num 1))
          generalize (wp.alloc (.cells nought 24)).setRow wp.heap.size (num 1) = ws at *
          have hszp := KB6.out.size
          have KSZ : Keep (∀ w' : World, Grows wp w' → wp.heap.size ≤ w'.heap.size) := ⟨fun w' h => h.size⟩
          obtain ⟨SM, hSM⟩ : ∃ l, l = List.zipWith (fun u v => (u + v) % q) ns vs := ⟨_, rfl⟩
          obtain ⟨MN, hMN⟩ : ∃ l, l = ns.map (fun c => mulV q c m) := ⟨_, rfl⟩
          have hSl : SM.length = n := by rw [hSM, List.length_zipWith, HN.out, HNV.out]; omega
          have hMl : MN.length = n := by rw [hMN, List.length_map, HN.out]
          have hSi : ∀ (k y z : Nat), ns[k]? = some y → vs[k]? = some z → SM.take (k + 1) = SM.take k ++ [(y + z) % q] := fun k y z h1 h2 => by
            have e : SM[k]? = some ((y + z) % q) := by rw [hSM, List.getElem?_zipWith, h1, h2]
            rw [List.take_add_one, e]; rfl
          have hMi : ∀ (k y : Nat), ns[k]? = some y → MN.take (k + 1) = MN.take k ++ [mulV q y m] := fun k y h1 => by
            have e : MN[k]? = some (mulV q y m) := by rw [hMN, List.getElem?_map, h1]; rfl
            rw [List.take_add_one, e]; rfl
          have hMq : m < q → MN = ns.map (fun c => c * m % q) := fun hm => by
            rw [hMN]
            apply List.map_congr_left
            intro c hc
            exact if_pos (mayB_spec.2 ⟨hq, HALL.out c hc, hm⟩)
          have HSUM' : Keep (atN q SM x = (an + bn) % q ∧ atE q SM x = 0) := ⟨by rw [hSM]; exact HSUM.out⟩
          have HSCALE' : Keep (m < q → atN q MN x = an * m % q ∧ atE q MN x = 0) := ⟨fun hm => by rw [hMq hm]; exact HSCALE.out⟩
          have HSI := hide hSi
          have HMI := hide hMi
          have HSL := hide hSl
          have HML := hide hMl
          clear hSi hMi hMq hSM hMN hSl hMl HSUM HSCALE
          have HST : Keep (SumsRel wp n q x 24 SM MN (.slice none 0 0) (.slice none 0 0) (.int .i64 (0 : Nat)) ws) := ⟨⟨0, Nat.zero_le _, rfl, L0, by rw [Nat.pow_zero, Nat.mod_eq_of_lt hq]; exact R0, NumRow.nil _ _ _, NumRow.nil _ _ _, fun g h => by cases h⟩⟩
          clear R0 L0
          go_wp2_with fail
          go_loopw [11, 12, 14] (fun v11 v12 vi wr => SumsRel wp n q x 24 SM MN v11 v12 vi wr) (fun _ _ i _ => n - (intOf i).toNat)
          case atStart => exact HST.out
          case round =>
            clear HST
            obtain ⟨k, hk, rfl, hL, hB13, hR11, hR12, hap⟩ := hrel
            have KL20 := hide hL
            have KH20 := hide ((KH6.out.grow hL).cons hB13)
            have KB20 := hide (below_trans_grows KB6.out hL hszp)
            have KR11_20 := hide hR11
            have KR12_20 := hide hR12
            have KR11_20' := hide hR11
            have HAP := hide hap
            have hszr := hL.size
            have hpkq : x ^ k % q < q := Nat.mod_lt _ (by omega)
            have hpn : mulV q (x ^ k % q) x = x ^ (k + 1) % q := by
              rw [← pow_next]
              exact if_pos (mayB_spec.2 ⟨hq, hpkq, hxq⟩)
            have HPN := hide hpn
            have hb13 := (KH20.out.at_ 0 rfl).lt
            clear hL hR11 hR12 hap hB13 hpn
            have hc0 : wr.cell? ⟨w.heap.size + 1, 0, none⟩ = some (.slice A n c) := (KH20.out.at_ 4 rfl).cell 0
            have hc1 : wr.cell? ⟨w.heap.size + 1, 1, none⟩ = some (.slice B n d) := (KH20.out.at_ 4 rfl).cell 1
            by_cases hkn : k < n
            · skip
              obtain ⟨y, hy⟩ : ∃ y, ns[k]? = some y := ⟨_, List.getElem?_eq_getElem (by have := HN.out; omega)⟩
              obtain ⟨yv, hyv⟩ : ∃ y, vs[k]? = some y := ⟨_, List.getElem?_eq_getElem (by have := HNV.out; omega)⟩
              have hyq := HALL.out y (List.mem_of_getElem? hy)
              have hyvq := HALLV.out yv (List.mem_of_getElem? hyv)
              have hSk := HSI.out k y yv hy hyv
              have hMk := HMI.out k y hy
              obtain ⟨hyb, b, o, eA, hlt, hrng⟩ := (HNS.out.grow (show Grows w wr from KB20.out)) k y hy
              obtain ⟨hyvb, b', o', eB, hlt', hrng'⟩ := (HVS.out.grow (show Grows w wr from KB20.out)) k yv hyv
              have hd1q : (y + yv) % q < q := Nat.mod_lt _ (by omega)
              have hd2b : mulV q y m < big := mulV_lt hqb _ _
              have hadd := fun w' => sadd_any gr q y yv hgr hyb hyvb w'
              have hmul := fun w' => smul_any gr q y m hgr hyb hz1 w'
              rw [mayE_zero.2 ⟨hq, hyq, hyvq⟩, show addV q y yv = (y + yv) % q from if_pos (mayB_spec.2 ⟨hq, hyq, hyvq⟩)] at hadd
              have hmay := mayE_two y m q
              have hmayq : mayE y m q = 0 → m < q := fun h => (mayE_zero.1 h).2.2
              generalize (y + yv) % q = d1 at *
              generalize mulV q y m = d2 at *
              generalize mayE y m q = e2 at *
              have HADD := hide hadd
              have HMUL := hide hmul
              have HSK := hide hSk
              have HMK := hide hMk
              have HR := hide hrng
              have HR' := hide hrng'
              have hSl := HSL.out
              have hMl := HML.out
              have hStk : (SM.take k).length = k := by rw [List.length_take]; omega
              have hMtk : (MN.take k).length = k := by rw [List.length_take]; omega
              subst eA eB
              clear hadd hmul hSk hMk hy hyv hrng hrng'
              go_upto_region 12 with fail
              clear hc0 hc1
              have lg := load_grp_grows hgr (KH20.out.at_ 3 rfl).drew
              have la0 := load_slc (v := .slice (some ⟨b, o, none⟩) n c) (KH20.out.at_ 4 rfl).drew (k := 0) rfl
              have la1 := load_slc (v := .slice (some ⟨b', o', none⟩) n d) (KH20.out.at_ 4 rfl).drew (k := 1) rfl
              have ly : ∀ w', Grows wr.drew w' → _ := fun w' hg => load_grown (w := wr) hlt HR.out w' (Grows.trans (Below.drew (Below.refl _ wr)) hg)
              have lz : ∀ w', Grows wr.drew w' → _ := fun w' hg => load_grown (w := wr) hlt' HR'.out w' (Grows.trans (Below.drew (Below.refl _ wr)) hg)
              refine wp_region_kindsF [⟨15, 16, 24, nought, num d1⟩] (by kernel_rfl) (by kernel_rfl) (fun F hF => ?_)
              repeat (first
                | refine kindsF_move_is _ rfl rfl (Or.inl rfl) rfl ?_
                | refine kindsF_move_is _ rfl rfl (Or.inr rfl) rfl ?_
                | refine kindsF_load 3 26 rfl rfl rfl rfl lg ?_
                | refine kindsF_load 92 27 rfl rfl rfl rfl la0 ?_
                | refine kindsF_load 95 24 rfl rfl rfl rfl ly ?_
                | refine kindsF_load 97 27 rfl rfl rfl rfl la1 ?_
                | refine kindsF_load 100 24 rfl rfl rfl rfl lz ?_
                | refine kindsF_alloc 24 16 nought (num d1) rfl rfl (List.Mem.head _) alloc_num ?_
                | refine kindsF_store 15 103 24 15 nought (num d1) rfl rfl rfl rfl rfl (List.Mem.head _) (store_num d1) ?_
                | (apply kindsF_is rfl rfl
                   · intro ρ wv K hw hf hK
                     first | obtain ⟨e0, e1, e2, e3, e4, e5, e6, -⟩ := hf | obtain ⟨e0, e1, e2, e3, e4, e5, -⟩ := hf | obtain ⟨e0, e1, e2, e3, e4, -⟩ := hf | obtain ⟨e0, e1, e2, e3, -⟩ := hf | obtain ⟨e0, e1, e2, -⟩ := hf | obtain ⟨e0, e1, -⟩ := hf | obtain ⟨e0, -⟩ := hf | clear hf
                     (try change ρ _ = _ at e0)
                     (try change ρ _ = _ at e1)
                     (try change ρ _ = _ at e2)
                     (try change ρ _ = _ at e3)
                     unfold gives
                     go_simp
                     first
                       | (change Calls _ _ _ _ _; (go_at_call 15; (with_reducible refine (HADD.out _).mono ?_); rintro e w' ⟨rfl, hb⟩; exact ⟨_, rfl, hK _ hb⟩))
                       | ((try go_ints); (try rw [if_pos (by omega)]); exact hK _ (Grows.refl _))))
              refine kindsF_nil (hF _ rfl rfl (fun ww γ hg hfr hun => ?_))
              clear hF F
              simp only [pushSlot, finish, Act.put, List.setIfInBounds_toArray, List.set_cons_succ, List.set_cons_zero]
              obtain ⟨⟨l1, B1⟩, -⟩ := hfr
              change Blk ww (γ 15) _ (num d1) at B1
              intro x1 _ ht
              obtain ⟨t1, -⟩ := ht
              change x1 = .pointer (some ⟨γ 15, 0, none⟩) at t1
              subst t1
              have hgg : Grows wr ww := Grows.trans (Below.drew (Below.refl _ wr)) hg
              have hge15 : wr.heap.size ≤ γ 15 := l1
              have KLA := hide hgg
              clear hg hun l1 lg la0 la1 ly lz
              generalize γ 15 = g15 at *
              clear γ
              generalize ww = w21 at *
              have KH21 := hide (KH20.out.grow hgg)
              have KB21 := hide (below_trans_grows KB20.out hgg KB20.out.size)
              have KR11_21 := hide (KR11_20.out.grow hgg)
              have KR12_21 := hide (KR12_20.out.grow hgg)
              clear hgg KH20 KB20 KR11_20 KR12_20
              have KH21 := hide (KH21.out.cons B1)
              clear B1
              go_upto_region 13 with fail
              have lg := load_grp_grows hgr (KH21.out.at_ 4 rfl).drew
              have la0 := load_slc (v := .slice (some ⟨b, o, none⟩) n c) (KH21.out.at_ 5 rfl).drew (k := 0) rfl
              have ly : ∀ w', Grows w21.drew w' → _ := fun w' hg => load_grown (w := wr) hlt HR.out w' (Grows.trans (Grows.trans KLA.out (Below.drew (Below.refl _ _))) hg)
              have lz : ∀ w', Grows w21.drew w' → _ := fun w' hg => load_grown (w := w21) (KH21.out.at_ 6 rfl).lt (Blk.numAt (KH21.out.at_ 6 rfl) (i := 1) rfl) w' (Grows.trans (Below.drew (Below.refl _ w21)) hg)
              refine wp_region_kindsF [⟨12, 13, 24, nought, num d2⟩] (by kernel_rfl) (by kernel_rfl) (fun F hF => ?_)
              repeat (first
                | refine kindsF_move_is _ rfl rfl (Or.inl rfl) rfl ?_
                | refine kindsF_move_is _ rfl rfl (Or.inr rfl) rfl ?_
                | refine kindsF_load 3 26 rfl rfl rfl rfl lg ?_
                | refine kindsF_load 107 27 rfl rfl rfl rfl la0 ?_
                | refine kindsF_load 110 24 rfl rfl rfl rfl ly ?_
                | refine kindsF_load 112 24 rfl rfl rfl rfl lz ?_
                | refine kindsF_alloc 24 13 nought (num d2) rfl rfl (List.Mem.head _) alloc_num ?_
                | refine kindsF_store 17 115 24 12 nought (num d2) rfl rfl rfl rfl rfl (List.Mem.head _) (store_num d2) ?_
                | (apply kindsF_is rfl rfl
                   · intro ρ wv K hw hf hK
                     first | obtain ⟨e0, e1, e2, e3, e4, e5, e6, -⟩ := hf | obtain ⟨e0, e1, e2, e3, e4, e5, -⟩ := hf | obtain ⟨e0, e1, e2, e3, e4, -⟩ := hf | obtain ⟨e0, e1, e2, e3, -⟩ := hf | obtain ⟨e0, e1, e2, -⟩ := hf | obtain ⟨e0, e1, -⟩ := hf | obtain ⟨e0, -⟩ := hf | clear hf
                     (try change ρ _ = _ at e0)
                     (try change ρ _ = _ at e1)
                     (try change ρ _ = _ at e2)
                     (try change ρ _ = _ at e3)
                     unfold gives
                     go_simp
                     first
                       | (change Calls _ _ _ _ _; (go_at_call 16; (with_reducible refine (HMUL.out _).mono ?_); rintro e w' ⟨rfl, hb⟩; exact ⟨_, rfl, hK _ hb⟩))
                       | ((try go_ints); (try rw [if_pos (by omega)]); exact hK _ (Grows.refl _))))
              refine kindsF_nil (hF _ rfl rfl (fun ww γ hg hfr hun => ?_))
              clear hF F
              simp only [pushSlot, finish, Act.put, List.setIfInBounds_toArray, List.set_cons_succ, List.set_cons_zero]
              obtain ⟨⟨l1, B1⟩, -⟩ := hfr
              change Blk ww (γ 12) _ (num d2) at B1
              intro x1 _ ht
              obtain ⟨t1, -⟩ := ht
              change x1 = .pointer (some ⟨γ 12, 0, none⟩) at t1
              subst t1
              have hgg : Grows w21 ww := Grows.trans (Below.drew (Below.refl _ w21)) hg
              have hge17 : wr.heap.size ≤ γ 12 := Nat.le_trans KLA.out.size l1
              have KLB := hide (Grows.trans KLA.out hgg)
              clear KLA
              clear hg hun l1 lg la0 ly lz
              generalize γ 12 = g17 at *
              clear γ
              generalize ww = w22 at *
              have KH22 := hide (KH21.out.grow hgg)
              have KB22 := hide (below_trans_grows KB21.out hgg KB21.out.size)
              have KR11_22 := hide (KR11_21.out.grow hgg)
              have KR12_22 := hide (KR12_21.out.grow hgg)
              clear hgg KH21 KB21 KR11_21 KR12_21
              have KH22 := hide (KH22.out.cons B1)
              clear B1
              rcases hmay with hH | hH
              · skip
                have hmq := hmayq hH
                rw [hH]
                clear hH hmayq
                have L1 : Grows w22 (w22.alloc (.cells (num d1) 24)) := (Below.refl _ _).alloc (Nat.le_refl _) _
                have HOWN := hide (KR11_22.out.grow L1).own
                have HRD := hide (new_reads w22 24 d1)
                have KH22' := hide (KH22.out.grow L1)
                have KR12_22' := hide (KR12_22.out.grow L1)
                have KLC := hide (Grows.trans KL20.out (Grows.trans KLB.out L1))
                have hbase : wp.heap.size + 1 ≤ (w22.alloc (.cells (num d1) 24)).heap.size := by have := (Grows.trans KLB.out L1).size; omega
                obtain ⟨i0, hi0, hi1, hi2, hi3⟩ := info_parts info_num
                have HI0 := hide (And.intro hi0 (And.intro hi1 (And.intro hi2 hi3)))
                clear L1 hi0 hi1 hi2 hi3
                go_wp2_with (first | (refine wpList_load_row rfl 24 _ rfl (g15) rfl 24 (num d1) (0, 0) _ (KH22.out.at_ 1 rfl) Try.underlying24 rfl info4 ?_) | (refine wpList_buildNum rfl (.tmp 130) rfl d1 rfl ?_) | (at_builtin; refine wpList_append_any _ rfl (.tmp 129) (.tmp 131) 27 rfl (wp.heap.size + 1) 24 i0 (.agg nought) 4 32 Try.underlying27 HI0.out.1 HI0.out.2.1 HI0.out.2.2.1 HI0.out.2.2.2 rfl (by decide) _ (SM.take k).length (cellsOf (SM.take k)) rfl HOWN.out (w22.heap.size + 1) _ 1 1 (num d1).toList rfl HRD.out (num_cells_one d1) (by unfold maxLen; omega) (by omega) hbase ?_) | fail)
                intro v11' w30 hown hgrow hat
                have hrow : ∀ g, Value.ownBlock _ = some g → wp.heap.size + 1 ≤ g := fun g hg => (HOWN.out.lt g hg).1
                have KR11_30 := hide (NumRow.more (ns := SM.take k) (by first | exact hown | (rw [hStk]; exact hown)) KR11_22.out.lt (Nat.lt_trans hd1q hqb) HSK.out)
                have KL30 := hide (below_grown KLC.out hgrow (fun g hg => by have := hrow g hg; omega) KLC.out.size)
                have KR12_30 := hide (row_kept KR12_22'.out hgrow HAP.out)
                have HAP' := hide (apart_kept KR12_22'.out HAP.out hat (by simp))
                have BD2 := hide ((KH22'.out.at_ 0 rfl).grown hgrow (fun e => by have := (KR11_20'.out.own.lt g17 e.symm).2; omega))
                have B13 := hide ((KH22'.out.at_ 2 rfl).grown hgrow (fun e => by have := hrow _ e.symm; omega))
                have hb30 : wp.heap.size + 1 ≤ w30.heap.size := B13.out.lt
                clear hown hgrow hat hrow HOWN HRD KLC KH22' KR12_22' KR11_22 KR12_22 HAP KH22 hbase
                have L2 : Grows w30 (w30.alloc (.cells (num d2) 24)) := (Below.refl _ _).alloc (Nat.le_refl _) _
                have HOWN := hide (KR12_30.out.grow L2).own
                have HRD := hide (new_reads w30 24 d2)
                have KR11_31 := hide (KR11_30.out.grow L2)
                have KR12_31 := hide (KR12_30.out.grow L2)
                have B13' := hide (B13.out.below L2 B13.out.lt)
                have KLC := hide (Grows.trans KL30.out L2)
                have hbase : wp.heap.size + 1 ≤ (w30.alloc (.cells (num d2) 24)).heap.size := by have := L2.size; omega
                clear L2
                go_wp2_with (first | (refine wpList_load_row rfl 24 _ rfl g17 rfl 24 (num d2) (0, 0) _ BD2.out Try.underlying24 rfl info4 ?_) | (refine wpList_buildNum rfl (.tmp 134) rfl d2 rfl ?_) | (at_builtin; refine wpList_append_any _ rfl (.tmp 133) (.tmp 135) 27 rfl (wp.heap.size + 1) 24 i0 (.agg nought) 4 32 Try.underlying27 HI0.out.1 HI0.out.2.1 HI0.out.2.2.1 HI0.out.2.2.2 rfl (by decide) _ (MN.take k).length (cellsOf (MN.take k)) rfl HOWN.out (w30.heap.size + 1) _ 1 1 (num d2).toList rfl HRD.out (num_cells_one d2) (by unfold maxLen; omega) (by omega) hbase ?_) | fail)
                intro v12' w40 hown hgrow hat
                have hrow : ∀ g, Value.ownBlock _ = some g → wp.heap.size + 1 ≤ g := fun g hg => (HOWN.out.lt g hg).1
                have KR12_40 := hide (NumRow.more (ns := MN.take k) (by first | exact hown | (rw [hMtk]; exact hown)) KR12_31.out.lt hd2b HMK.out)
                have KL40 := hide (below_grown KLC.out hgrow (fun g hg => by have := hrow g hg; omega) KLC.out.size)
                have KR11_40 := hide (row_kept KR11_31.out hgrow (fun g hg h => HAP'.out g h hg))
                have HAP'' : Keep (∀ g, v11'.ownBlock = some g → v12'.ownBlock ≠ some g) := ⟨fun g h1 h2 => (apart_kept (v := u12) KR11_31.out (fun g hg h => HAP'.out g h hg) hat (by simp)) g h2 h1⟩
                have B40 := hide (B13'.out.grown hgrow (fun e => by have := hrow _ e.symm; omega))
                have KH40 := hide ((KH6.out.grow KL40.out).cons B40.out)
                have KB40 := hide (below_trans_grows KB6.out KL40.out hszp)
                clear hown hgrow hat hrow HOWN HRD KLC KR11_31 KR12_31 KR11_30 KR12_30 HAP' BD2 HI0 KL30 B13 B13' hbase
                have hpow := fun w' => smul_any gr q (x ^ k % q) x hgr (Nat.lt_trans hpkq hqb) hz0 w'
                rw [HPN.out] at hpow
                have HPOW := hide hpow
                clear hpow
                go_wp2_with (first | (refine wpList_load_row rfl 26 _ rfl (w.heap.size) rfl 26 gr (0, 0) _ (KH40.out.at_ 3 rfl) Try.underlying26 rfl HI.out ?_) | (refine wpList_load_row rfl 24 _ rfl (wp.heap.size) rfl 24 (num (x ^ k % q)) (0, 0) _ (KH40.out.at_ 0 rfl) Try.underlying24 rfl info4 ?_) | (refine wpList_load_mid rfl 24 _ rfl (w.heap.size + 1 + 1) 0 rfl (num x).toList _ (Blk.numAt (KH40.out.at_ 5 rfl) (i := 0) rfl) Try.underlying24 rfl info4 ?_) | fail)
                with_reducible refine (HPOW.out _).mono ?_
                rintro e w41 ⟨rfl, L⟩
                have KR11_41 := hide ((KR11_40.out.grow L).setRow (Nat.lt_succ_self wp.heap.size) (num (x ^ (k + 1) % q)))
                have KR12_41 := hide ((KR12_40.out.grow L).setRow (Nat.lt_succ_self wp.heap.size) (num (x ^ (k + 1) % q)))
                have B41 := hide (B40.out.below L B40.out.lt)
                have B42 := hide (B41.out.setRow (num (x ^ (k + 1) % q)))
                have KL41 := hide (below_setRow (Grows.trans KL40.out L) (Nat.le_refl wp.heap.size) (num (x ^ (k + 1) % q)))
                clear L KR11_40 KR12_40 B40 KL40 KH40 KB40
                go_wp2_with (first | (refine wpList_store_row rfl 24 (.tmp 13) (.tmp 143) rfl (wp.heap.size) (num (x ^ (k + 1) % q)) rfl rfl 24 _ B41.out info4 rfl (num_one _) ?_) | fail)
                go_roundw
                case rel => first | exact ⟨k + 1, by omega, by go_num, KL41.out, B42.out, KR11_41.out, KR12_41.out, HAP''.out⟩ | ((repeat apply Exists.intro); exact ⟨⟨k + 1, by omega, by go_num, KL41.out, B42.out, KR11_41.out, KR12_41.out, HAP''.out⟩, rfl⟩)
                case measure => simp [intOf]; omega
              · rw [hH]
                clear hH hmayq
                go_wp2_with fail
                exact bodyPost_ret (by kernel_rfl) rfl ⟨rfl, KB22.out⟩
            · have hkn' : k = n := by omega
              subst hkn'
              have hSl := HSL.out
              have hMl := HML.out
              have e1 : SM.take k = SM := List.take_of_length_le (by omega)
              have e2 : MN.take k = MN := List.take_of_length_le (by omega)
              obtain ⟨A11, c11, hv11, hc11, hn11, -⟩ := KR11_20.out.open_
              obtain ⟨A12, c12, hv12, hc12, hn12, -⟩ := KR12_20.out.open_
              rw [e1, hSl] at hv11 hc11
              rw [e2, hMl] at hv12 hc12
              rw [e1] at hn11
              rw [e2] at hn12
              subst hv11 hv12
              have HN12_20 := hide hn12
              have HSA : Keep (∀ w', Grows wr w' → Calls Try.prog 12 #[.agg gr, .slice A11 k c11, .agg (num x)] w' (MayEnds w' ((an + bn) % q) 0)) := ⟨fun w' hg => by
                have h := at_any gr q x hgr hz0 A11 c11 SM (by omega) w' (hn11.grow hg)
                rw [hSl, HSUM'.out.1, HSUM'.out.2] at h
                exact h⟩
              have HMA : Keep (m < q → ∀ w', NumsAt w' A12 MN → Calls Try.prog 12 #[.agg gr, .slice A12 k c12, .agg (num x)] w' (MayEnds w' (an * m % q) 0)) := ⟨fun hm w' hg => by
                have h := at_any gr q x hgr hz0 A12 c12 MN (by omega) w' hg
                rw [hMl, (HSCALE'.out hm).1, (HSCALE'.out hm).2] at h
                exact h⟩
              have HADDS : Keep (∀ w', Calls Try.prog 15 #[.agg gr, .agg (num an), .agg (num bn)] w' (MayEnds w' ((an + bn) % q) 0)) := ⟨fun w' => by
                have h := sadd_any gr q an bn hgr (Nat.lt_trans hanq hqb) (Nat.lt_trans hbnq hqb) w'
                rw [mayE_zero.2 ⟨hq, hanq, hbnq⟩, show addV q an bn = (an + bn) % q from if_pos (mayB_spec.2 ⟨hq, hanq, hbnq⟩)] at h
                exact h⟩
              have hsvb : (an + bn) % q < big := Nat.lt_trans (Nat.mod_lt _ (by omega)) hqb
              generalize (an + bn) % q = sv at *
              clear hn11 hn12 e1 e2 KR11_20 KR12_20 HAP HPN
              go_wp2_with (first | (refine wpList_load_row rfl 26 _ rfl (w.heap.size) rfl 26 gr (0, 0) _ (KH20.out.at_ 3 rfl) Try.underlying26 rfl HI.out ?_) | (refine wpList_load_mid rfl 24 _ rfl (w.heap.size + 1 + 1) 0 rfl (num x).toList _ (Blk.numAt (KH20.out.at_ 5 rfl) (i := 0) rfl) Try.underlying24 rfl info4 ?_) | fail)
              with_reducible refine (HSA.out _ (Grows.refl _)).mono ?_
              rintro e w21 ⟨rfl, L⟩
              have KH21 := hide (KH20.out.grow L)
              have KB21 := hide (below_trans_grows KB20.out L KB20.out.size)
              have HN12_21 := hide (HN12_20.out.grow L)
              clear L KH20 KB20 HN12_20
              go_upto_region 20 with (first | (refine wpList_store_row rfl 24 (.tmp 19) (.tmp 151) rfl (w21.heap.size) (num sv) rfl rfl 24 _ (Blk.new w21 _ nought) info4 rfl (num_one _) ?_) | fail)
              obtain ⟨R0, L0⟩ := num_box w21 24 (num sv)
              change Code.wp _ _ _ _ ((w21.alloc (.cells nought 24)).setRow w21.heap.size (num sv))
              generalize (w21.alloc (.cells nought 24)).setRow w21.heap.size (num sv) = w22 at *
              have KH22 := hide (KH21.out.grow L0)
              have KB22 := hide (below_trans_grows KB21.out L0 KB21.out.size)
              have HN12_22 := hide (HN12_21.out.grow L0)
              clear L0 KH21 KB21 HN12_21
              have KH22 := hide (KH22.out.cons R0)
              generalize w21.heap.size = g19 at *
              clear R0
              clear hc0 hc1
              go_wp2_with (first | (refine wpList_load_row rfl 26 _ rfl (w.heap.size) rfl 26 gr (0, 0) _ (KH22.out.at_ 4 rfl) Try.underlying26 rfl HI.out ?_) | (refine wpList_load_row rfl 24 _ rfl (g7) rfl 24 (num an) (0, 0) _ (KH22.out.at_ 3 rfl) Try.underlying24 rfl info4 ?_) | (refine wpList_load_row rfl 24 _ rfl (g9) rfl 24 (num bn) (0, 0) _ (KH22.out.at_ 2 rfl) Try.underlying24 rfl info4 ?_) | fail)
              with_reducible refine (HADDS.out _).mono ?_
              rintro e w23 ⟨rfl, L⟩
              have KH23 := hide (KH22.out.grow L)
              have KB23 := hide (below_trans_grows KB22.out L KB22.out.size)
              have HN12_23 := hide (HN12_22.out.grow L)
              clear L KH22 KB22 HN12_22
              go_upto_region 21 with (first | (refine wpList_store_row rfl 24 (.tmp 21) (.tmp 158) rfl (w23.heap.size) (num sv) rfl rfl 24 _ (Blk.new w23 _ nought) info4 rfl (num_one _) ?_) | fail)
              obtain ⟨R0, L0⟩ := num_box w23 24 (num sv)
              change Code.wp _ _ _ _ ((w23.alloc (.cells nought 24)).setRow w23.heap.size (num sv))
              generalize (w23.alloc (.cells nought 24)).setRow w23.heap.size (num sv) = w24 at *
              have KH24 := hide (KH23.out.grow L0)
              have KB24 := hide (below_trans_grows KB23.out L0 KB23.out.size)
              have HN12_24 := hide (HN12_23.out.grow L0)
              clear L0 KH23 KB23 HN12_23
              have KH24 := hide (KH24.out.cons R0)
              generalize w23.heap.size = g21 at *
              clear R0
              have hne := num_neq sv sv hsvb hsvb
              rw [decide_eq_true rfl] at hne
              clear HSA HADDS
              have HMORE' := hide HMORE.out
              have hpk : x ^ k % q < q := Nat.mod_lt _ (by omega)
              generalize hpe : x ^ k % q = pk at *
              go_upto_region 23 with (first | (refine wpList_load_row_on rfl 24 _ rfl (g19) rfl 24 (num sv) (0, 0) _ (KH24.out.at_ 1 rfl) Try.underlying24 rfl info4 ?_) | (refine wpList_load_row_on rfl 24 _ rfl (g21) rfl 24 (num sv) (0, 0) _ (KH24.out.at_ 0 rfl) Try.underlying24 rfl info4 ?_) | fail)
              clear hne
              have lg := load_grp_grows hgr (KH24.out.at_ 5 rfl).drew
              have l0 := load_slc (v := .slice A k c) (KH24.out.at_ 6 rfl).drew (k := 0) rfl
              have lm : ∀ w', Grows w24.drew w' → _ := fun w' hg => load_grown (w := w24) (KH24.out.at_ 7 rfl).lt (Blk.numAt (KH24.out.at_ 7 rfl) (i := 1) rfl) w' (Grows.trans (Below.drew (Below.refl _ w24)) hg)
              have lx : ∀ w', Grows w24.drew w' → _ := fun w' hg => load_grown (w := w24) (KH24.out.at_ 7 rfl).lt (Blk.numAt (KH24.out.at_ 7 rfl) (i := 0) rfl) w' (Grows.trans (Below.drew (Below.refl _ w24)) hg)
              have hNSd : Keep (∀ w', Grows w24.drew w' → NumsAt w' A ns) := ⟨fun w' hg => HNS.out.grow (below_trans_grows KB24.out (Grows.trans (Below.drew (Below.refl _ w24)) hg) KB24.out.size)⟩
              have HAP1 : Keep (∀ w' A' c', NumsAt w' A' p1 → Calls Try.prog 12 #[.agg gr, .slice A' p1.length c', .agg (num x)] w' (MayEnds w' (atN q p1 x) (atE q p1 x))) := ⟨fun w' A' c' h => at_any gr q x hgr hz0 A' c' p1 hp1l w' h⟩
              generalize hdv : atN q p1 x = dv at *
              generalize hde : atE q p1 x = de at *
              refine wp_region_kindsE [⟨14, 15, 24, nought, num dv⟩] [7] ⟨rfl, True.intro⟩ (by kernel_rfl) (by kernel_rfl) (fun F hF => ?_)
              repeat (first
                | refine kindsE_move_is _ rfl rfl (Or.inl rfl) rfl ?_
                | refine kindsE_move_is _ rfl rfl (Or.inr rfl) rfl ?_
                | refine kindsE_load 3 26 rfl rfl rfl rfl lg ?_
                | refine kindsE_load 173 27 rfl rfl rfl rfl l0 ?_
                | refine kindsE_load 176 24 rfl rfl rfl rfl lm ?_
                | refine kindsE_load 180 24 rfl rfl rfl rfl lx ?_
                | refine kindsE_alloc 24 15 nought (num dv) rfl rfl (List.Mem.head _) alloc_num ?_
                | refine kindsE_store 23 183 24 14 nought (num dv) rfl rfl rfl rfl rfl (List.Mem.head _) (store_num dv) ?_
                | refine kindsE_like (fun v w' => RowNE w24.drew.heap.size 24 ns v w') (fun _ _ _ => RowNE.grow _ _ _ _ _ _) rfl rfl (by kernel_rfl) (fun ρ wv K hw hf hK => gives_append_nil _ _ (.tmp 174) rfl A c ns hf.1 ((show ρ (.tmp 174) = Value.slice A k c from hf.2.1).trans (by rw [HN.out])) (hNSd.out _ hw) (by rw [HN.out]; omega) hw.size hK) ?_
                | refine kindsE_like (fun v w' => OneNum 24 m v w') (fun _ _ _ => OneNum.grow _ _ _ _ _) rfl rfl (by kernel_rfl) (fun ρ wv K hw hf hK => gives_build (.tmp 177) rfl m hf.1 hK) ?_
                | refine kindsE_wild (fun v w' => NumRow w' w24.drew.heap.size 24 v p1) (fun _ _ _ h hg => h.grow hg) rfl rfl (List.Mem.head _) (by kernel_rfl) (fun ρ wv K hw hf hK => gives_append_one _ w24.drew (.tmp 175) (.tmp 178) rfl ns m rfl rfl hf.1 hf.2.1 hz1 (by rw [HN.out]; omega) hw.size (fun f hf => by rw [List.mem_singleton] at hf; subst hf; rfl) (fun v w' h1 h2 => hK v w' h1 (HP1.out ▸ h2))) ?_
                | (apply kindsE_is rfl rfl (by kernel_rfl)
                   · intro ρ wv K hw hf hK
                     obtain ⟨e0, e1, e2, e3, -⟩ := hf
                     change ρ _ = _ at e0
                     change ρ _ = _ at e1
                     change NumRow wv _ _ (ρ (.tmp 179)) p1 at e2
                     change ρ _ = _ at e3
                     obtain ⟨A', c', hv', -, hn', -⟩ := e2.open_
                     unfold gives
                     go_simp
                     change Calls _ _ _ _ _
                     go_at_call 12
                     (with_reducible refine (HAP1.out _ A' c' hn').mono ?_)
                     rintro e w' ⟨rfl, hb⟩
                     exact ⟨_, rfl, hK _ hb⟩)
                | (apply kindsE_isL rfl rfl
                   · intro ρ wv K hw hf hK
                     first | obtain ⟨e0, e1, e2, e3, e4, e5, e6, -⟩ := hf | obtain ⟨e0, e1, e2, e3, e4, e5, -⟩ := hf | obtain ⟨e0, e1, e2, e3, e4, -⟩ := hf | obtain ⟨e0, e1, e2, e3, -⟩ := hf | obtain ⟨e0, e1, e2, -⟩ := hf | obtain ⟨e0, e1, -⟩ := hf | obtain ⟨e0, -⟩ := hf | clear hf
                     (try change ρ _ = _ at e0)
                     (try change ρ _ = _ at e1)
                     (try change ρ _ = _ at e2)
                     (try change ρ _ = _ at e3)
                     unfold gives
                     go_simp
                     (try go_ints)
                     (try rw [if_pos (by omega)])
                     exact hK _ (Grows.refl _)))
              refine kindsE_nil (hF _ rfl rfl (fun ww γ hg hfr hun => ?_))
              clear hF F
              simp only [pushSlot, fadeU, Slot.fade, List.map_cons, List.map_nil, finish, Act.put, List.setIfInBounds_toArray, List.set_cons_succ, List.set_cons_zero]
              obtain ⟨⟨l1, B1⟩, -⟩ := hfr
              change Blk ww (γ 14) _ (num dv) at B1
              intro x175 _ x178 _ x179 _ x1 _ ht
              obtain ⟨t1, -⟩ := ht
              change x1 = .pointer (some ⟨γ 14, 0, none⟩) at t1
              subst t1
              have hgg : Grows w24 ww := Grows.trans (Below.drew (Below.refl _ w24)) hg
              clear hg hun l1 lg l0 lm lx hNSd HAP1
              generalize γ 14 = g23 at *
              clear γ
              generalize ww = w25 at *
              have KH25 := hide (KH24.out.grow hgg)
              have KB25 := hide (below_trans_grows KB24.out hgg KB24.out.size)
              have HN12_25 := hide (HN12_24.out.grow hgg)
              clear hgg KH24 KB24 HN12_24
              have KH25 := hide (KH25.out.cons B1)
              clear B1
              have hpkb : pk < big := Nat.lt_trans hpk hqb
              have hlb : mulV q m pk < big := mulV_lt hqb _ _
              have HMP : Keep (∀ w', Calls Try.prog 16 #[.agg gr, .agg (num m), .agg (num pk)] w' (MayEnds w' (mulV q m pk) (mayE m pk q))) := ⟨fun w' => smul_any gr q m pk hgr hz1 hpkb w'⟩
              have hmay := mayE_two m pk q
              have hmayq : mayE m pk q = 0 → m < q := fun h => (mayE_zero.1 h).2.1
              have hmayn : mayE m pk q = 1 → ¬ m < q := fun h hm => by rw [mayE_zero.2 ⟨hq, hm, hpk⟩] at h; cases h
              have hlv : m < q → mulV q m pk = m * pk % q := fun hm => if_pos (mayB_spec.2 ⟨hq, hm, hpk⟩)
              generalize mulV q m pk = lv at *
              generalize mayE m pk q = e2 at *
              go_wp2_with (first | (refine wpList_load_row rfl 26 _ rfl (w.heap.size) rfl 26 gr (0, 0) _ (KH25.out.at_ 6 rfl) Try.underlying26 rfl HI.out ?_) | (refine wpList_load_row rfl 24 _ rfl (wp.heap.size) rfl 24 (num pk) (0, 0) _ (KH25.out.at_ 3 rfl) Try.underlying24 rfl info4 ?_) | (refine wpList_load_mid rfl 24 _ rfl (w.heap.size + 1 + 1) 4 rfl (num m).toList _ (Blk.numAt (KH25.out.at_ 8 rfl) (i := 1) rfl) Try.underlying24 rfl info4 ?_) | fail)
              with_reducible refine (HMP.out _).mono ?_
              rintro e w26 ⟨rfl, L⟩
              have KH26 := hide (KH25.out.grow L)
              have KB26 := hide (below_trans_grows KB25.out L KB25.out.size)
              have HN12_26 := hide (HN12_25.out.grow L)
              clear L KH25 KB25 HN12_25
              go_upto_region 25 with (first | (refine wpList_store_row rfl 24 (.tmp 25) (.tmp 191) rfl (w26.heap.size) (num lv) rfl rfl 24 _ (Blk.new w26 _ nought) info4 rfl (num_one _) ?_) | fail)
              obtain ⟨R0, L0⟩ := num_box w26 24 (num lv)
              change Code.wp _ _ _ _ ((w26.alloc (.cells nought 24)).setRow w26.heap.size (num lv))
              generalize (w26.alloc (.cells nought 24)).setRow w26.heap.size (num lv) = w27 at *
              have KH27 := hide (KH26.out.grow L0)
              have KB27 := hide (below_trans_grows KB26.out L0 KB26.out.size)
              have HN12_27 := hide (HN12_26.out.grow L0)
              clear L0 KH26 KB26 HN12_26
              have KH27 := hide (KH27.out.cons R0)
              generalize w26.heap.size = g25 at *
              clear R0
              rcases hmay with hH | hH
              · skip
                have hm := hmayq hH
                rw [hH]
                have hlq : lv < q := by rw [hlv hm]; exact Nat.mod_lt _ (by omega)
                have hd2 : dv = (an + lv) % q := by rw [hlv hm]; exact (HMORE'.out hm).1
                have hde2 : de = 0 := (HMORE'.out hm).2
                subst hde2
                have hdvb : dv < big := by rw [hd2]; exact Nat.lt_trans (Nat.mod_lt _ (by omega)) hqb
                have HGR : Keep (∀ w', Calls Try.prog 15 #[.agg gr, .agg (num an), .agg (num lv)] w' (MayEnds w' dv 0)) := ⟨fun w' => by
                  have h := sadd_any gr q an lv hgr (Nat.lt_trans hanq hqb) (Nat.lt_trans hlq hqb) w'
                  rw [mayE_zero.2 ⟨hq, hanq, hlq⟩, show addV q an lv = (an + lv) % q from if_pos (mayB_spec.2 ⟨hq, hanq, hlq⟩), ← hd2] at h
                  exact h⟩
                have HMA' := hide (HMA.out hm)
                have htvb : an * m % q < big := Nat.lt_trans (Nat.mod_lt _ (by omega)) hqb
                have HAM : Keep (∀ w', Calls Try.prog 16 #[.agg gr, .agg (num an), .agg (num m)] w' (MayEnds w' (an * m % q) 0)) := ⟨fun w' => by
                  have h := smul_any gr q an m hgr (Nat.lt_trans hanq hqb) hz1 w'
                  rw [mayE_zero.2 ⟨hq, hanq, hm⟩, show mulV q an m = an * m % q from if_pos (mayB_spec.2 ⟨hq, hanq, hm⟩)] at h
                  exact h⟩
                generalize an * m % q = tv at *
                clear hH hd2 hlv hmayq hmayn HMP HMORE'
                go_wp2_with (first | (refine wpList_load_row rfl 26 _ rfl (w.heap.size) rfl 26 gr (0, 0) _ (KH27.out.at_ 7 rfl) Try.underlying26 rfl HI.out ?_) | (refine wpList_load_row rfl 24 _ rfl (g7) rfl 24 (num an) (0, 0) _ (KH27.out.at_ 6 rfl) Try.underlying24 rfl info4 ?_) | (refine wpList_load_row rfl 24 _ rfl (g25) rfl 24 (num lv) (0, 0) _ (KH27.out.at_ 0 rfl) Try.underlying24 rfl info4 ?_) | fail)
                with_reducible refine (HGR.out _).mono ?_
                rintro e w28 ⟨rfl, L⟩
                have KH28 := hide (KH27.out.grow L)
                have KB28 := hide (below_trans_grows KB27.out L KB27.out.size)
                have HN12_28 := hide (HN12_27.out.grow L)
                clear L KH27 KB27 HN12_27
                go_upto_region 28 with (first | (refine wpList_store_row rfl 24 (.tmp 27) (.tmp 202) rfl (w28.heap.size) (num dv) rfl rfl 24 _ (Blk.new w28 _ nought) info4 rfl (num_one _) ?_) | fail)
                obtain ⟨R0, L0⟩ := num_box w28 24 (num dv)
                change Code.wp _ _ _ _ ((w28.alloc (.cells nought 24)).setRow w28.heap.size (num dv))
                generalize (w28.alloc (.cells nought 24)).setRow w28.heap.size (num dv) = w29 at *
                have KH29 := hide (KH28.out.grow L0)
                have KB29 := hide (below_trans_grows KB28.out L0 KB28.out.size)
                have HN12_29 := hide (HN12_28.out.grow L0)
                clear L0 KH28 KB28 HN12_28
                have KH29 := hide (KH29.out.cons R0)
                generalize w28.heap.size = g27 at *
                clear R0
                go_wp2_with (first | (refine wpList_load_row rfl 26 _ rfl (w.heap.size) rfl 26 gr (0, 0) _ (KH29.out.at_ 8 rfl) Try.underlying26 rfl HI.out ?_) | (refine wpList_load_mid rfl 24 _ rfl (w.heap.size + 1 + 1) 0 rfl (num x).toList _ (Blk.numAt (KH29.out.at_ 10 rfl) (i := 0) rfl) Try.underlying24 rfl info4 ?_) | fail)
                with_reducible refine (HMA'.out _ HN12_29.out).mono ?_
                rintro e w30 ⟨rfl, L⟩
                have KH30 := hide (KH29.out.grow L)
                have KB30 := hide (below_trans_grows KB29.out L KB29.out.size)
                have HN12_30 := hide (HN12_29.out.grow L)
                clear L KH29 KB29 HN12_29
                go_upto_region 29 with (first | (refine wpList_store_row rfl 24 (.tmp 29) (.tmp 210) rfl (w30.heap.size) (num tv) rfl rfl 24 _ (Blk.new w30 _ nought) info4 rfl (num_one _) ?_) | fail)
                obtain ⟨R0, L0⟩ := num_box w30 24 (num tv)
                change Code.wp _ _ _ _ ((w30.alloc (.cells nought 24)).setRow w30.heap.size (num tv))
                generalize (w30.alloc (.cells nought 24)).setRow w30.heap.size (num tv) = w31 at *
                have KH31 := hide (KH30.out.grow L0)
                have KB31 := hide (below_trans_grows KB30.out L0 KB30.out.size)
                have HN12_31 := hide (HN12_30.out.grow L0)
                clear L0 KH30 KB30 HN12_30
                have KH31 := hide (KH31.out.cons R0)
                generalize w30.heap.size = g29 at *
                clear R0
                go_wp2_with (first | (refine wpList_load_row rfl 26 _ rfl (w.heap.size) rfl 26 gr (0, 0) _ (KH31.out.at_ 9 rfl) Try.underlying26 rfl HI.out ?_) | (refine wpList_load_row rfl 24 _ rfl (g7) rfl 24 (num an) (0, 0) _ (KH31.out.at_ 8 rfl) Try.underlying24 rfl info4 ?_) | (refine wpList_load_mid rfl 24 _ rfl (w.heap.size + 1 + 1) 4 rfl (num m).toList _ (Blk.numAt (KH31.out.at_ 11 rfl) (i := 1) rfl) Try.underlying24 rfl info4 ?_) | fail)
                with_reducible refine (HAM.out _).mono ?_
                rintro e w32 ⟨rfl, L⟩
                have KH32 := hide (KH31.out.grow L)
                have KB32 := hide (below_trans_grows KB31.out L KB31.out.size)
                have HN12_32 := hide (HN12_31.out.grow L)
                clear L KH31 KB31 HN12_31
                go_upto_region 30 with (first | (refine wpList_store_row rfl 24 (.tmp 31) (.tmp 218) rfl (w32.heap.size) (num tv) rfl rfl 24 _ (Blk.new w32 _ nought) info4 rfl (num_one _) ?_) | fail)
                obtain ⟨R0, L0⟩ := num_box w32 24 (num tv)
                change Code.wp _ _ _ _ ((w32.alloc (.cells nought 24)).setRow w32.heap.size (num tv))
                generalize (w32.alloc (.cells nought 24)).setRow w32.heap.size (num tv) = w33 at *
                have KH33 := hide (KH32.out.grow L0)
                have KB33 := hide (below_trans_grows KB32.out L0 KB32.out.size)
                have HN12_33 := hide (HN12_32.out.grow L0)
                clear L0 KH32 KB32 HN12_32
                have KH33 := hide (KH33.out.cons R0)
                generalize w32.heap.size = g31 at *
                clear R0
                have heq1 := num_eql dv dv hdvb hdvb
                have heq2 := num_eql tv tv htvb htvb
                rw [decide_eq_true rfl] at heq1 heq2
                go_wp2_with (first | (refine wpList_load_row_on rfl 24 _ rfl (g23) rfl 24 (num dv) (0, 0) _ (KH33.out.at_ 4 rfl) Try.underlying24 rfl info4 ?_) | (refine wpList_load_row_on rfl 24 _ rfl (g27) rfl 24 (num dv) (0, 0) _ (KH33.out.at_ 2 rfl) Try.underlying24 rfl info4 ?_) | (refine wpList_load_row_on rfl 24 _ rfl (g29) rfl 24 (num tv) (0, 0) _ (KH33.out.at_ 1 rfl) Try.underlying24 rfl info4 ?_) | (refine wpList_load_row_on rfl 24 _ rfl (g31) rfl 24 (num tv) (0, 0) _ (KH33.out.at_ 0 rfl) Try.underlying24 rfl info4 ?_) | fail)
                exact bodyPost_ret (by kernel_rfl) rfl ⟨rfl, KB33.out⟩
              · have hde2 : de = 1 := HNONE.out (hmayn hH)
                rw [hH]
                subst hde2
                go_wp2_with fail
                exact bodyPost_ret (by kernel_rfl) rfl ⟨rfl, KB27.out⟩
        · rw [hE, hF]
          clear hE hF
          go_wp2_with fail
          exact bodyPost_ret (by kernel_rfl) rfl ⟨rfl, KB5.out⟩
      · rcases atE_in q vs x with ⟨hF, _, _⟩ | hF
        · rw [hE, hF]
          clear hE hF
          go_wp2_with fail
          exact bodyPost_ret (by kernel_rfl) rfl ⟨rfl, KB5.out⟩
        · rw [hE, hF]
          clear hE hF
          go_wp2_with fail
          exact bodyPost_ret (by kernel_rfl) rfl ⟨rfl, KB5.out⟩
    · skip
      have hnv1 : ¬ (n : Int) = (nv : Int) := by omega
      have hnv2 : ((n : Int) != (nv : Int)) = true := bne_iff_ne.2 hnv1
      have hnv3 : (decide ((20 : Int) < (n : Int)) || (n : Int) != (nv : Int)) = true := by rw [hnv2, Bool.or_true]
      go_wp2_with fail
      with_reducible refine (alive10_any _).mono ?_
      rintro e w2 ⟨rfl, L⟩
      have KB2 := hide (below_trans_grows KB1.out L KB1.out.size)
      clear L
      go_wp2_with fail
      exact bodyPost_ret (by kernel_rfl) rfl ⟨rfl, KB2.out⟩
  · skip
    go_wp2_with fail
    with_reducible refine (alive10_any _).mono ?_
    rintro e w2 ⟨rfl, L⟩
    have KB2 := hide (below_trans_grows KB1.out L KB1.out.size)
    clear L
    go_wp2_with fail
    exact bodyPost_ret (by kernel_rfl) rfl ⟨rfl, KB2.out⟩
set_option maxRecDepth 100000 in
theorem polysSums_law {H : Type} (enc : TypeId × Value → H) (W : World) (base : Nat) (v0 v1 v2 : Value) {d0 d1 d2 : DataW H} {p0 p1 p2 : List MemPlace} {X Y : Prop}
    (hv0 : Value.okWide Try.prog W .any base 26 v0) (hv1 : Value.okWide Try.prog W .any base 36 v1) (hv2 : Value.okWide Try.prog W .any base 37 v2)
    (h0 : DataW.Trod enc Try.prog W 0 (fun _ => true) true 26 v0 d0 p0) (h1 : DataW.Trod enc Try.prog W 0 (fun _ => true) true 36 v1 d1 p1) (h2 : DataW.Trod enc Try.prog W 0 (fun _ => true) true 37 v2 d2 p2) (_ : X) (_ : Y) :
    Calls Try.prog 5 #[v0, v1, v2] W (BoolEnds W true) := by
  obtain ⟨gr, q, hgr, rfl⟩ := grp_arg hv0 h0
  obtain ⟨A, c, ns, B, d, vs, rfl, hns, hvs⟩ := two_arg Try.underlying36 (by kernel_rfl) hv1 h1
  obtain ⟨zs, hl, hz, rfl⟩ := arr_arg Try.underlying37 (by kernel_rfl) hv2 h2
  match zs, hl with
  | [x, m], _ => exact polysSums_any gr q hgr A c ns B d vs x m (hz x (by simp)) (hz m (by simp)) W hns hvs
end Go.Proofs.Ythdanjbgbbcafaa
