/- PolysMoved: walked (printed by gen_moved.py). -/
import Derived.Test.YthdanjbgbbcafaaTenB
import Derived.Test.YthdanjbgbbcafaaMovPure
import Derived.Test.YthdanjbgbbcafaaIn10
namespace Go.Proofs.Ythdanjbgbbcafaa
open Go Go.RowKit

theorem wgE_in (q : Nat) (ns : List Nat) (x : Nat) : wgE q ns x = 0 ∨ wgE q ns x = 1 ∨ wgE q ns x = 7 := by
  unfold wgE
  split
  · split <;> simp
  · simp
theorem invE_in (q a : Nat) : invE q a = 0 ∨ invE q a = 1 ∨ invE q a = 7 := by
  unfold invE
  split
  · split <;> simp
  · simp
theorem wgE_zero {q : Nat} {ns : List Nat} {x : Nat} (h : wgE q ns x = 0) : wgOk q ns x = true ∧ wgN q ns x = wgM q ns x ∧ errM q ns ns.length = 0 := by
  unfold wgE at h
  by_cases h1 : wgOk q ns x = true
  · rw [if_pos h1] at h
    by_cases h2 : errM q ns ns.length = 0
    · refine ⟨h1, ?_, h2⟩
      unfold wgN
      rw [if_pos h1, if_pos h2]
    · rw [if_neg h2] at h
      omega
  · rw [if_neg h1] at h
    omega
theorem invE_zero {q a : Nat} (h : invE q a = 0) : a < q ∧ Nat.gcd a q = 1 := by
  unfold invE at h
  by_cases h1 : mayB a a q = true
  · rw [if_pos h1] at h
    by_cases h2 : Nat.gcd a q = 1
    · exact ⟨(mayB_spec.1 h1).2.1, h2⟩
    · rw [if_neg h2] at h
      omega
  · rw [if_neg h1] at h
    omega
theorem NumRow.kept {w w' : World} {base : Nat} {t : TypeId} {v : Value} {ns : List Nat} {row : Option Nat} (h : NumRow w base t v ns) (hg : w.grownBy w' row) (hne : ∀ g, row = some g → v.ownBlock ≠ some g) : NumRow w' base t v ns :=
  ⟨h.own.kept hg (by
    cases hv : v.ownBlock with
    | none => exact .inl rfl
    | some g =>
      refine .inr (fun e => ?_)
      exact hne g e.symm hv), h.lt⟩
theorem apart_more {w : World} {base : Nat} {t : TypeId} {v v' v2 : Value} {ns : List Nat} (h : NumRow w base t v2 ns) (ha : ∀ g, v.ownBlock = some g → v2.ownBlock ≠ some g) {H : Nat} (hv : v'.ownBlock = v.ownBlock ∨ v'.ownBlock = some H) (hH : w.heap.size ≤ H) : ∀ g, v'.ownBlock = some g → v2.ownBlock ≠ some g := fun g hg h2 => by
  rcases hv with hv | hv
  · exact ha g (hv.symm.trans hg) h2
  · rw [hv] at hg
    injection hg with hg
    have := (h.own.lt g h2).2
    omega
def MovRel (wl : World) (n : Nat) (t24 : TypeId) (mv mn : Nat → List Nat) (v15 v16 vi : Value) (wr : World) : Prop :=
  ∃ k : Nat, k ≤ n ∧ vi = .int .i64 (k : Nat) ∧ Grows wl wr ∧ NumRow wr wl.heap.size t24 v15 (mv k) ∧ NumRow wr wl.heap.size t24 v16 (mn k) ∧ ∀ g, v15.ownBlock = some g → v16.ownBlock ≠ some g
theorem reads_new (w : World) (t24 : TypeId) (v : Nat) : Reads (w.alloc (.cells (num v) t24)) (w.heap.size + 1) 4 (some ⟨w.heap.size, 0, none⟩) 1 (num v).toList :=
  ⟨by rw [Array.length_toList, num_size], fun _ => ⟨_, rfl, by simp, fun j u hu => by
    rw [show (⟨w.heap.size, 0, none⟩ : Addr).add j = ⟨w.heap.size, j, none⟩ by unfold Addr.add; split <;> simp_all, (Blk.new w t24 (num v)).cell]
    simpa using hu⟩⟩
theorem mayE_01 (a b q : Nat) : mayE a b q = 0 ∨ mayE a b q = 1 := by
  unfold mayE
  split <;> simp
set_option maxRecDepth 100000 in
set_option maxHeartbeats 8000000 in
theorem polysMoved_any (gr : Array Value) (q : Nat) (hgr : GroupRow gr q) (A : Option Addr) (c : Nat) (ns : List Nat) (hc : ns.length ≤ c) (x s u : Nat) (hz0 : x < big) (hz1 : s < big) (hz2 : u < big) (w : World) (hns : NumsAt w A ns) :
    Calls Try.prog 6 #[.agg gr, .slice A ns.length c, .agg (cellsOf [x, s, u]).toArray] w (BoolEnds w true) := by
  have hi := info_group gr hgr.size
  have HI := hide hi
  have HNS := hide hns
  generalize hn : ns.length = n at *
  have HN := hide hn
  clear hi hns hn
  go_enter Try.func6, Try.ntmps6
  go_upto_region 1 with fail
  have B0 := (Blk.new w 26 gr).alloc (.cells (cellsOf [x, s, u]).toArray 41)
  have B1 := Blk.new (w.alloc (.cells gr 26)) 41 (cellsOf [x, s, u]).toArray
  have hL0 : Grows w ((w.alloc (.cells gr 26)).alloc (.cells (cellsOf [x, s, u]).toArray 41)) := ((Below.refl _ _).alloc (Nat.le_refl _) _).alloc (by simp) _
  simp only [World.size_alloc] at B1
  change Code.wp _ _ _ _ ((w.alloc (.cells gr 26)).alloc (.cells (cellsOf [x, s, u]).toArray 41))
  generalize (w.alloc (.cells gr 26)).alloc (.cells (cellsOf [x, s, u]).toArray 41) = w0 at *
  have KH0 := hide (((Held.nil w0).cons B1).cons B0)
  have KB0 := hide (show Below w.heap.size w w0 from hL0)
  clear B0 B1 hL0
  go_wp2_with fail
  with_reducible refine (alive10_any _).mono ?_
  rintro e w1 ⟨rfl, L⟩
  have KH1 := hide (KH0.out.grow L)
  have KB1 := hide (below_trans_grows KB0.out L KB0.out.size)
  clear L KH0 KB0
  by_cases h20 : n ≤ 20
  · skip
    have HWG : Keep (∀ w', Below w.heap.size w w' → Calls Try.prog 17 #[.agg gr, .slice A n c, .agg (num x)] w' (RowErr w' 24 (wgN q ns x) (wgE q ns x))) := ⟨fun w' hg => by
      have h := weights_any gr q x hgr hz0 A c ns (by rw [HN.out]; omega) (by rw [HN.out]; exact hc) w' (HNS.out.grow hg)
      rw [HN.out] at h
      exact h⟩
    go_wp2_with (first | (refine wpList_load_row rfl 26 _ rfl (w.heap.size) rfl 26 gr (0, 0) _ (KH1.out.at_ 0 rfl) Try.underlying26 rfl HI.out ?_) | (refine wpList_load_mid rfl 24 _ rfl (w.heap.size + 1) 0 rfl (num x).toList _ (Blk.numAt (KH1.out.at_ 1 rfl) (i := 0) rfl) Try.underlying24 rfl info4 ?_) | fail)
    with_reducible refine (HWG.out _ KB1.out).mono ?_
    rintro e w2 ⟨v7, rfl, hv7, L⟩
    have KR7_2 := hide (hv7.lower KB1.out.size)
    clear hv7
    have KH2 := hide (KH1.out.grow L)
    have KB2 := hide (below_trans_grows KB1.out L KB1.out.size)
    clear L KH1 KB1
    go_wp2_with (first | (refine wpList_load_row rfl 26 _ rfl (w.heap.size) rfl 26 gr (0, 0) _ (KH2.out.at_ 0 rfl) Try.underlying26 rfl HI.out ?_) | (refine wpList_load_mid rfl 24 _ rfl (w.heap.size + 1) 8 rfl (num u).toList _ (Blk.numAt (KH2.out.at_ 1 rfl) (i := 2) rfl) Try.underlying24 rfl info4 ?_) | fail)
    with_reducible refine (sinv_any gr q u hgr hz2 _).mono ?_
    rintro e w3 ⟨rfl, L⟩
    have KH3 := hide (KH2.out.grow L)
    have KB3 := hide (below_trans_grows KB2.out L KB2.out.size)
    have KR7_3 := hide (KR7_2.out.grow L)
    clear L KH2 KB2 KR7_2
    go_upto_region 5 with (first | (refine wpList_store_row rfl 24 (.tmp 9) (.tmp 47) rfl (w3.heap.size) (num (invV q u)) rfl rfl 24 _ (Blk.new w3 _ nought) info4 rfl (num_one _) ?_) | fail)
    obtain ⟨R0, L0⟩ := num_box w3 24 (num (invV q u))
    change Code.wp _ _ _ _ ((w3.alloc (.cells nought 24)).setRow w3.heap.size (num (invV q u)))
    generalize (w3.alloc (.cells nought 24)).setRow w3.heap.size (num (invV q u)) = w4 at *
    have KH4 := hide (KH3.out.grow L0)
    have KB4 := hide (below_trans_grows KB3.out L0 KB3.out.size)
    have KR7_4 := hide (KR7_3.out.grow L0)
    clear L0 KH3 KB3 KR7_3
    have KH4 := hide (KH4.out.cons R0)
    generalize w3.heap.size = g9 at *
    clear R0
    generalize invV q u = ui at *
    go_wp2_with (first | (refine wpList_load_row rfl 26 _ rfl (w.heap.size) rfl 26 gr (0, 0) _ (KH4.out.at_ 1 rfl) Try.underlying26 rfl HI.out ?_) | (refine wpList_load_mid rfl 24 _ rfl (w.heap.size + 1) 0 rfl (num x).toList _ (Blk.numAt (KH4.out.at_ 2 rfl) (i := 0) rfl) Try.underlying24 rfl info4 ?_) | (refine wpList_load_mid rfl 24 _ rfl (w.heap.size + 1) 4 rfl (num s).toList _ (Blk.numAt (KH4.out.at_ 2 rfl) (i := 1) rfl) Try.underlying24 rfl info4 ?_) | fail)
    with_reducible refine (sadd_any gr q x s hgr hz0 hz1 _).mono ?_
    rintro e w5 ⟨rfl, L⟩
    have KH5 := hide (KH4.out.grow L)
    have KB5 := hide (below_trans_grows KB4.out L KB4.out.size)
    have KR7_5 := hide (KR7_4.out.grow L)
    clear L KH4 KB4 KR7_4
    go_upto_region 6 with (first | (refine wpList_store_row rfl 24 (.tmp 11) (.tmp 56) rfl (w5.heap.size) (num (addV q x s)) rfl rfl 24 _ (Blk.new w5 _ nought) info4 rfl (num_one _) ?_) | fail)
    obtain ⟨R0, L0⟩ := num_box w5 24 (num (addV q x s))
    change Code.wp _ _ _ _ ((w5.alloc (.cells nought 24)).setRow w5.heap.size (num (addV q x s)))
    generalize (w5.alloc (.cells nought 24)).setRow w5.heap.size (num (addV q x s)) = w6 at *
    have KH6 := hide (KH5.out.grow L0)
    have KB6 := hide (below_trans_grows KB5.out L0 KB5.out.size)
    have KR7_6 := hide (KR7_5.out.grow L0)
    clear L0 KH5 KB5 KR7_5
    have KH6 := hide (KH6.out.cons R0)
    generalize w5.heap.size = g11 at *
    clear R0
    generalize hpl : addV q x s = pl at *
    rcases wgE_in q ns x with hE | hE | hE
    · rcases invE_in q u with hF | hF | hF
      · rcases mayE_01 x s q with hH | hH
        · rw [hE, hF, hH]
          obtain ⟨hwok, hwn, her⟩ := wgE_zero hE
          obtain ⟨hpt, hmx⟩ := Bool.and_eq_true_iff.1 hwok
          obtain ⟨hnd, hn0, hq, hall⟩ := pointsB_spec hpt
          have hxq : x < q := (mayL_spec hmx).2 x (by simp)
          obtain ⟨huq, hug⟩ := invE_zero hF
          have hsq : s < q := (mayE_zero.1 hH).2.2
          have hpl' : pl = (x + s) % q := by rw [← hpl]; exact if_pos (mayB_spec.2 ⟨hq, hxq, hsq⟩)
          have hmov := moved_law (s := s) (x := x) hq hnd hn0 hall her
          have hman := many_law (u := u) (x := x) hq hnd hn0 hall huq hug her
          rw [← hpl'] at hmov
          rw [hwn] at KR7_6
          have hwl : (wgM q ns x).length = n := by unfold wgM; rw [List.length_map, List.length_range, HN.out]
          obtain ⟨A7, c7, hv7, -, hn7, -⟩ := KR7_6.out.open_
          rw [hwl] at hv7
          subst hv7
          have hmul := smul_any gr q x u hgr hz0 hz2
          rw [mayE_zero.2 ⟨hq, hxq, huq⟩, show mulV q x u = x * u % q from if_pos (mayB_spec.2 ⟨hq, hxq, huq⟩)] at hmul
          generalize hth : x * u % q = th at *
          have HMUL := hide hmul
          have HN7_6 := hide hn7
          have HMOV := hide hmov
          have HMAN := hide hman
          have HALL := hide hall
          have hpl0 := hpl
          have hthq : th < q := by rw [← hth]; exact Nat.mod_lt _ (by omega)
          clear hE hF hH hpl hwok hwn her hpt hmx hnd hpl' hmov hman hmul hn7 KR7_6 HWG hth
          have HFL : Keep ((wgM q ns x).length = n) := ⟨hwl⟩
          clear hwl
          generalize wgM q ns x = fin at *
          go_wp2_with (first | (refine wpList_load_row rfl 26 _ rfl (w.heap.size) rfl 26 gr (0, 0) _ (KH6.out.at_ 2 rfl) Try.underlying26 rfl HI.out ?_) | (refine wpList_load_mid rfl 24 _ rfl (w.heap.size + 1) 0 rfl (num x).toList _ (Blk.numAt (KH6.out.at_ 3 rfl) (i := 0) rfl) Try.underlying24 rfl info4 ?_) | (refine wpList_load_mid rfl 24 _ rfl (w.heap.size + 1) 8 rfl (num u).toList _ (Blk.numAt (KH6.out.at_ 3 rfl) (i := 2) rfl) Try.underlying24 rfl info4 ?_) | fail)
          with_reducible refine (HMUL.out _).mono ?_
          rintro e w7 ⟨rfl, L⟩
          have KH7 := hide (KH6.out.grow L)
          have KB7 := hide (below_trans_grows KB6.out L KB6.out.size)
          have HN7_7 := hide (HN7_6.out.grow L)
          clear L KH6 KB6 HN7_6
          go_upto_region 9 with (first | (refine wpList_store_row rfl 24 (.tmp 13) (.tmp 85) rfl (w7.heap.size) (num th) rfl rfl 24 _ (Blk.new w7 _ nought) info4 rfl (num_one _) ?_) | fail)
          obtain ⟨R0, L0⟩ := num_box w7 24 (num th)
          change Code.wp _ _ _ _ ((w7.alloc (.cells nought 24)).setRow w7.heap.size (num th))
          generalize (w7.alloc (.cells nought 24)).setRow w7.heap.size (num th) = w8 at *
          have KH8 := hide (KH7.out.grow L0)
          have KB8 := hide (below_trans_grows KB7.out L0 KB7.out.size)
          have HN7_8 := hide (HN7_7.out.grow L0)
          clear L0 KH7 KB7 HN7_7
          have KH8 := hide (KH8.out.cons R0)
          generalize w7.heap.size = g13 at *
          clear R0
          have hmv0 : (ns.take 0).map (fun p => (p + s) % q) = [] := rfl
          have hmn0 : (ns.take 0).map (fun p => p * u % q) = [] := rfl
          have hmvS : ∀ (k y : Nat), ns[k]? = some y → (ns.take (k + 1)).map (fun p => (p + s) % q) = (ns.take k).map (fun p => (p + s) % q) ++ [(y + s) % q] := fun k y h => by rw [List.take_add_one, h, List.map_append]; rfl
          have hmnS : ∀ (k y : Nat), ns[k]? = some y → (ns.take (k + 1)).map (fun p => p * u % q) = (ns.take k).map (fun p => p * u % q) ++ [y * u % q] := fun k y h => by rw [List.take_add_one, h, List.map_append]; rfl
          have hmvL : ∀ k, ((ns.take k).map (fun p => (p + s) % q)).length ≤ n := fun k => by rw [List.length_map, List.length_take, HN.out]; omega
          have hmnL : ∀ k, ((ns.take k).map (fun p => p * u % q)).length ≤ n := fun k => by rw [List.length_map, List.length_take, HN.out]; omega
          have hmvE : (ns.take n).map (fun p => (p + s) % q) = ns.map (fun p => (p + s) % q) := by rw [← HN.out, List.take_length]
          have hmnE : (ns.take n).map (fun p => p * u % q) = ns.map (fun p => p * u % q) := by rw [← HN.out, List.take_length]
          obtain ⟨mv, hmv⟩ : ∃ f : Nat → List Nat, f = fun k => (ns.take k).map (fun p => (p + s) % q) := ⟨_, rfl⟩
          obtain ⟨mn, hmn⟩ : ∃ f : Nat → List Nat, f = fun k => (ns.take k).map (fun p => p * u % q) := ⟨_, rfl⟩
          have e1 : ∀ k, (ns.take k).map (fun p => (p + s) % q) = mv k := fun k => by rw [hmv]
          have e2 : ∀ k, (ns.take k).map (fun p => p * u % q) = mn k := fun k => by rw [hmn]
          simp only [e1] at hmv0 hmvS hmvL hmvE
          simp only [e2] at hmn0 hmnS hmnL hmnE
          clear hmv hmn e1 e2
          have HMVS := hide hmvS
          have HMNS := hide hmnS
          have HMVL := hide hmvL
          have HMNL := hide hmnL
          have HMVE := hide hmvE
          have HMNE := hide hmnE
          have hszb := KB8.out.size
          have hz := (KH8.out.at_ 4 rfl).lt
          have hg11 := (KH8.out.at_ 1 rfl).lt
          have hg13 := (KH8.out.at_ 0 rfl).lt
          have HST : Keep (MovRel w8 n 24 mv mn (.slice none 0 0) (.slice none 0 0) (.int .i64 (0 : Nat)) w8) := ⟨⟨0, Nat.zero_le _, rfl, Grows.refl _, by rw [hmv0]; exact NumRow.nil _ _ _, by rw [hmn0]; exact NumRow.nil _ _ _, fun g h => by cases h⟩⟩
          clear hmv0 hmn0 hmvS hmnS hmvL hmnL hmvE hmnE
          go_wp2_with fail
          go_loopw [15, 16, 17] (fun v15 v16 vi wr => MovRel w8 n 24 mv mn v15 v16 vi wr) (fun _ _ i _ => n - (intOf i).toNat)
          case atStart => exact HST.out
          case round =>
            clear HST
            obtain ⟨k, hk, rfl, hL, hR15, hR16, hap⟩ := hrel
            have KL20 := hide hL
            have KH20 := hide (KH8.out.grow hL)
            have KB20 := hide (below_trans_grows KB8.out hL hszb)
            have KR15_20 := hide hR15
            have KR16_20 := hide hR16
            have KR15_20' := hide hR15
            have HAP := hide hap
            have hszr := hL.size
            clear hL hR15 hR16 hap
            by_cases hkn : k < n
            · obtain ⟨y, hy⟩ : ∃ y, ns[k]? = some y := ⟨_, List.getElem?_eq_getElem (by have := HN.out; omega)⟩
              have hyq := HALL.out y (List.mem_of_getElem? hy)
              have hmvk := HMVS.out k y hy
              have hmnk := HMNS.out k y hy
              obtain ⟨hyb, b, o, eA, hlt, hrng⟩ := (HNS.out.grow (show Grows w wr from KB20.out)) k y hy
              have hd1q : (y + s) % q < q := Nat.mod_lt _ (by omega)
              have hd2q : y * u % q < q := Nat.mod_lt _ (by omega)
              have hadd := fun w' => sadd_any gr q y s hgr hyb hz1 w'
              have hmul := fun w' => smul_any gr q y u hgr hyb hz2 w'
              rw [mayE_zero.2 ⟨hq, hyq, hsq⟩, show addV q y s = (y + s) % q from if_pos (mayB_spec.2 ⟨hq, hyq, hsq⟩)] at hadd
              rw [mayE_zero.2 ⟨hq, hyq, huq⟩, show mulV q y u = y * u % q from if_pos (mayB_spec.2 ⟨hq, hyq, huq⟩)] at hmul
              generalize (y + s) % q = d1 at *
              generalize y * u % q = d2 at *
              have HADD := hide hadd
              have HMUL := hide hmul
              have HMVK := hide hmvk
              have HMNK := hide hmnk
              have HR := hide hrng
              have hmvl := HMVL.out k
              have hmnl := HMNL.out k
              subst eA
              clear hadd hmul hmvk hmnk hy hrng
              go_upto_region 13 with fail
          
              have lg := load_grp_grows hgr (KH20.out.at_ 3 rfl).drew
              have ly : ∀ w', Grows wr.drew w' → _ := fun w' hg => load_grown (w := wr) hlt HR.out w' (Grows.trans (Below.drew (Below.refl _ wr)) hg)
              have lz : ∀ w', Grows wr.drew w' → _ := fun w' hg => load_grown (w := wr) (KH20.out.at_ 4 rfl).lt (Blk.numAt (KH20.out.at_ 4 rfl) (i := 1) rfl) w' (Grows.trans (Below.drew (Below.refl _ wr)) hg)
              refine wp_region_kindsF [⟨11, 12, 24, nought, num d1⟩] (by kernel_rfl) (by kernel_rfl) (fun F hF => ?_)
              repeat (first
                | refine kindsF_move_is _ rfl rfl (Or.inl rfl) rfl ?_
                | refine kindsF_move_is _ rfl rfl (Or.inr rfl) rfl ?_
                | refine kindsF_load 3 26 rfl rfl rfl rfl lg ?_
                | refine kindsF_load 97 24 rfl rfl rfl rfl ly ?_
                | refine kindsF_load 99 24 rfl rfl rfl rfl lz ?_
                | refine kindsF_alloc 24 12 nought (num d1) rfl rfl (List.Mem.head _) alloc_num ?_
                | refine kindsF_store 18 102 24 11 nought (num d1) rfl rfl rfl rfl rfl (List.Mem.head _) (store_num d1) ?_
                | (apply kindsF_is rfl rfl
                   · intro ρ wv K hw hf hK
                     first | obtain ⟨e0, e1, e2, e3, e4, e5, e6, -⟩ := hf | obtain ⟨e0, e1, e2, e3, e4, e5, -⟩ := hf | obtain ⟨e0, e1, e2, e3, e4, -⟩ := hf | obtain ⟨e0, e1, e2, e3, -⟩ := hf | obtain ⟨e0, e1, e2, -⟩ := hf | obtain ⟨e0, e1, -⟩ := hf | obtain ⟨e0, -⟩ := hf | clear hf
                     (try change ρ _ = _ at e0)
                     (try change ρ _ = _ at e1)
                     (try change ρ _ = _ at e2)
                     (try change ρ _ = _ at e3)
                     unfold gives
                     go_simp
                     first
                       | (change Calls _ _ _ _ _; (go_at_call 15; (with_reducible refine (HADD.out _).mono ?_); rintro e w' ⟨rfl, hb⟩; exact ⟨_, rfl, hK _ hb⟩))
                       | ((try go_ints); (try rw [if_pos (by omega)]); exact hK _ (Grows.refl _))))
              refine kindsF_nil (hF _ rfl rfl (fun ww γ hg hfr hun => ?_))
              clear hF F
              simp only [pushSlot, finish, Act.put, List.setIfInBounds_toArray, List.set_cons_succ, List.set_cons_zero]
              obtain ⟨⟨l1, B1⟩, -⟩ := hfr
              change Blk ww (γ 11) _ (num d1) at B1
              intro x1 _ ht
              obtain ⟨t1, -⟩ := ht
              change x1 = .pointer (some ⟨γ 11, 0, none⟩) at t1
              subst t1
              have hgg : Grows wr ww := Grows.trans (Below.drew (Below.refl _ wr)) hg
              have hge18 : wr.heap.size ≤ γ 11 := l1
              have KLA := hide hgg
              clear hg hun l1 lg ly lz
              generalize γ 11 = g18 at *
              clear γ
              generalize ww = w21 at *
              have KH21 := hide (KH20.out.grow hgg)
              have KB21 := hide (below_trans_grows KB20.out hgg KB20.out.size)
              have KR15_21 := hide (KR15_20.out.grow hgg)
              have KR16_21 := hide (KR16_20.out.grow hgg)
              clear hgg KH20 KB20 KR15_20 KR16_20
              have KH21 := hide (KH21.out.cons B1)
              clear B1
              go_upto_region 14 with fail
              have lg := load_grp_grows hgr (KH21.out.at_ 4 rfl).drew
              have ly : ∀ w', Grows w21.drew w' → _ := fun w' hg => load_grown (w := wr) hlt HR.out w' (Grows.trans (Grows.trans KLA.out (Below.drew (Below.refl _ _))) hg)
              have lz : ∀ w', Grows w21.drew w' → _ := fun w' hg => load_grown (w := w21) (KH21.out.at_ 5 rfl).lt (Blk.numAt (KH21.out.at_ 5 rfl) (i := 2) rfl) w' (Grows.trans (Below.drew (Below.refl _ w21)) hg)
              refine wp_region_kindsF [⟨11, 12, 24, nought, num d2⟩] (by kernel_rfl) (by kernel_rfl) (fun F hF => ?_)
              repeat (first
                | refine kindsF_move_is _ rfl rfl (Or.inl rfl) rfl ?_
                | refine kindsF_move_is _ rfl rfl (Or.inr rfl) rfl ?_
                | refine kindsF_load 3 26 rfl rfl rfl rfl lg ?_
                | refine kindsF_load 108 24 rfl rfl rfl rfl ly ?_
                | refine kindsF_load 110 24 rfl rfl rfl rfl lz ?_
                | refine kindsF_alloc 24 12 nought (num d2) rfl rfl (List.Mem.head _) alloc_num ?_
                | refine kindsF_store 20 113 24 11 nought (num d2) rfl rfl rfl rfl rfl (List.Mem.head _) (store_num d2) ?_
                | (apply kindsF_is rfl rfl
                   · intro ρ wv K hw hf hK
                     first | obtain ⟨e0, e1, e2, e3, e4, e5, e6, -⟩ := hf | obtain ⟨e0, e1, e2, e3, e4, e5, -⟩ := hf | obtain ⟨e0, e1, e2, e3, e4, -⟩ := hf | obtain ⟨e0, e1, e2, e3, -⟩ := hf | obtain ⟨e0, e1, e2, -⟩ := hf | obtain ⟨e0, e1, -⟩ := hf | obtain ⟨e0, -⟩ := hf | clear hf
                     (try change ρ _ = _ at e0)
                     (try change ρ _ = _ at e1)
                     (try change ρ _ = _ at e2)
                     (try change ρ _ = _ at e3)
                     unfold gives
                     go_simp
                     first
                       | (change Calls _ _ _ _ _; (go_at_call 16; (with_reducible refine (HMUL.out _).mono ?_); rintro e w' ⟨rfl, hb⟩; exact ⟨_, rfl, hK _ hb⟩))
                       | ((try go_ints); (try rw [if_pos (by omega)]); exact hK _ (Grows.refl _))))
              refine kindsF_nil (hF _ rfl rfl (fun ww γ hg hfr hun => ?_))
              clear hF F
              simp only [pushSlot, finish, Act.put, List.setIfInBounds_toArray, List.set_cons_succ, List.set_cons_zero]
              obtain ⟨⟨l1, B1⟩, -⟩ := hfr
              change Blk ww (γ 11) _ (num d2) at B1
              intro x1 _ ht
              obtain ⟨t1, -⟩ := ht
              change x1 = .pointer (some ⟨γ 11, 0, none⟩) at t1
              subst t1
              have hgg : Grows w21 ww := Grows.trans (Below.drew (Below.refl _ w21)) hg
              have hge20 : wr.heap.size ≤ γ 11 := Nat.le_trans KLA.out.size l1
              have KLB := hide (Grows.trans KLA.out hgg)
              clear KLA
              clear hg hun l1 lg ly lz
              generalize γ 11 = g20 at *
              clear γ
              generalize ww = w22 at *
              have KH22 := hide (KH21.out.grow hgg)
              have KB22 := hide (below_trans_grows KB21.out hgg KB21.out.size)
              have KR15_22 := hide (KR15_21.out.grow hgg)
              have KR16_22 := hide (KR16_21.out.grow hgg)
              clear hgg KH21 KB21 KR15_21 KR16_21
              have KH22 := hide (KH22.out.cons B1)
              clear B1
              have L1 : Grows w22 (w22.alloc (.cells (num d1) 24)) := (Below.refl _ _).alloc (Nat.le_refl _) _
              have HOWN := hide (KR15_22.out.grow L1).own
              have HRD := hide (reads_new w22 24 d1)
              have KH22' := hide (KH22.out.grow L1)
              have KR16_22' := hide (KR16_22.out.grow L1)
              have KLC := hide (Grows.trans KL20.out (Grows.trans KLB.out L1))
              have hszc := KLC.out.size
              obtain ⟨i0, hi0, hi1, hi2, hi3⟩ := info_parts info_num
              have HI0 := hide (And.intro hi0 (And.intro hi1 (And.intro hi2 hi3)))
              clear L1 hi0 hi1 hi2 hi3
              go_wp2_with (first | (refine wpList_load_row rfl 24 _ rfl (g18) rfl 24 (num d1) (0, 0) _ (KH22.out.at_ 1 rfl) Try.underlying24 rfl info4 ?_) | (refine wpList_buildNum rfl (.tmp 122) rfl d1 rfl ?_) | (at_builtin; refine wpList_append_any _ rfl (.tmp 121) (.tmp 123) 27 rfl w8.heap.size 24 i0 (.agg nought) 4 32 Try.underlying27 HI0.out.1 HI0.out.2.1 HI0.out.2.2.1 HI0.out.2.2.2 rfl (by decide) _ (mv k).length (cellsOf (mv k)) rfl HOWN.out (w22.heap.size + 1) _ 1 1 (num d1).toList rfl HRD.out (num_cells_one d1) (by unfold maxLen; omega) (by omega) (by exact KLC.out.size) ?_) | fail)
              intro v15' w30 hown hgrow hat
              have hrow : ∀ g, Value.ownBlock _ = some g → w8.heap.size ≤ g := fun g hg => (HOWN.out.lt g hg).1
              have KR15_30 := hide (NumRow.more hown KR15_22.out.lt (Nat.lt_trans hd1q hgr.lt) HMVK.out)
              have KL30 := hide (below_grown KLC.out hgrow hrow KLC.out.size)
              have KR16_30 := hide (NumRow.kept KR16_22'.out hgrow HAP.out)
              have HAP' := hide (apart_more KR16_22'.out HAP.out hat (by simp))
              have BD2 := hide ((KH22'.out.at_ 0 rfl).grown hgrow (fun e => by have := (KR15_20'.out.own.lt g20 e.symm).2; omega))
              clear hown hgrow hat hrow HOWN HRD KLC KH22' KR16_22' KR15_22 KR16_22 HAP KH22
              have L2 : Grows w30 (w30.alloc (.cells (num d2) 24)) := (Below.refl _ _).alloc (Nat.le_refl _) _
              have HOWN := hide (KR16_30.out.grow L2).own
              have HRD := hide (reads_new w30 24 d2)
              have KR15_31 := hide (KR15_30.out.grow L2)
              have KR16_31 := hide (KR16_30.out.grow L2)
              have KLC := hide (Grows.trans KL30.out L2)
              clear L2
              go_wp2_with (first | (refine wpList_load_row rfl 24 _ rfl g20 rfl 24 (num d2) (0, 0) _ BD2.out Try.underlying24 rfl info4 ?_) | (refine wpList_buildNum rfl (.tmp 126) rfl d2 rfl ?_) | (at_builtin; refine wpList_append_any _ rfl (.tmp 125) (.tmp 127) 27 rfl w8.heap.size 24 i0 (.agg nought) 4 32 Try.underlying27 HI0.out.1 HI0.out.2.1 HI0.out.2.2.1 HI0.out.2.2.2 rfl (by decide) _ (mn k).length (cellsOf (mn k)) rfl HOWN.out (w30.heap.size + 1) _ 1 1 (num d2).toList rfl HRD.out (num_cells_one d2) (by unfold maxLen; omega) (by omega) (by exact KLC.out.size) ?_) | fail)
              intro v16' w40 hown hgrow hat
              have hrow : ∀ g, Value.ownBlock _ = some g → w8.heap.size ≤ g := fun g hg => (HOWN.out.lt g hg).1
              have KR16_40 := hide (NumRow.more hown KR16_31.out.lt (Nat.lt_trans hd2q hgr.lt) HMNK.out)
              have KL40 := hide (below_grown KLC.out hgrow hrow KLC.out.size)
              have KR15_40 := hide (NumRow.kept KR15_31.out hgrow (fun g hg h => HAP'.out g h hg))
              have HAP'' : Keep (∀ g, v15'.ownBlock = some g → v16'.ownBlock ≠ some g) := ⟨fun g h1 h2 => (apart_more (v := u16) KR15_31.out (fun g hg h => HAP'.out g h hg) hat (by simp)) g h2 h1⟩
              clear hown hgrow hat hrow HOWN HRD KLC KR15_31 KR16_31 KR15_30 KR16_30 HAP' BD2 HI0 KL30
              go_wp2_with fail
              go_roundw
              case rel => first | exact ⟨k + 1, by omega, by go_num, KL40.out, KR15_40.out, KR16_40.out, HAP''.out⟩ | ((repeat apply Exists.intro); exact ⟨⟨k + 1, by omega, by go_num, KL40.out, KR15_40.out, KR16_40.out, HAP''.out⟩, rfl⟩)
              case measure => simp [intOf]; omega
            · have hkn' : k = n := by omega
              subst hkn'
              have hl15 : (mv k).length = k := by rw [HMVE.out, List.length_map, HN.out]
              have hl16 : (mn k).length = k := by rw [HMNE.out, List.length_map, HN.out]
              obtain ⟨A15, c15, hv15, hc15, hn15, -⟩ := KR15_20.out.open_
              obtain ⟨A16, c16, hv16, hc16, hn16, -⟩ := KR16_20.out.open_
              rw [hl15] at hv15 hc15
              rw [hl16] at hv16 hc16
              subst hv15 hv16
              have hplb : pl < big := by rw [← hpl0]; exact addV_lt hgr.lt _ _
              have hthb : th < big := Nat.lt_trans hthq hgr.lt
              have HW1 : Keep (∀ w', Grows wr w' → Calls Try.prog 17 #[.agg gr, .slice A15 k c15, .agg (num pl)] w' (RowErr w' 24 fin 0)) := ⟨fun w' hg => by
                have h := weights_any gr q pl hgr hplb A15 c15 (mv k) (by rw [hl15]; omega) (by rw [hl15]; exact hc15) w' (hn15.grow hg)
                rw [hl15, HMVE.out, HMOV.out.1, HMOV.out.2] at h
                exact h⟩
              have HW2 : Keep (∀ w', Grows wr w' → Calls Try.prog 17 #[.agg gr, .slice A16 k c16, .agg (num th)] w' (RowErr w' 24 fin 0)) := ⟨fun w' hg => by
                have h := weights_any gr q th hgr hthb A16 c16 (mn k) (by rw [hl16]; omega) (by rw [hl16]; exact hc16) w' (hn16.grow hg)
                rw [hl16, HMNE.out, HMAN.out.1, HMAN.out.2] at h
                exact h⟩
              have HN7_20 := hide (HN7_8.out.grow KL20.out)
              clear hl15 hl16 hc15 hc16 hn15 hn16 KR15_20 KR16_20 KR15_20' HAP KL20
              go_wp2_with (first | (refine wpList_load_row rfl 26 _ rfl (w.heap.size) rfl 26 gr (0, 0) _ (KH20.out.at_ 3 rfl) Try.underlying26 rfl HI.out ?_) | (refine wpList_load_row rfl 24 _ rfl (g11) rfl 24 (num pl) (0, 0) _ (KH20.out.at_ 1 rfl) Try.underlying24 rfl info4 ?_) | fail)
              with_reducible refine (HW1.out _ (Grows.refl _)).mono ?_
              rintro e w50 ⟨v22, rfl, hv22, L⟩
              obtain ⟨A22, c22, hv22', -, hn22, -⟩ := hv22.open_
              rw [HFL.out] at hv22'
              subst hv22'
              have HN22 := hide hn22
              have KH21 := hide (KH20.out.grow L)
              have KB21 := hide (below_trans_grows KB20.out L KB20.out.size)
              have HN7_21 := hide (HN7_20.out.grow L)
              have KL21 := hide L
              clear L hv22 hn22 HW1 KH20 KB20 HN7_20
              go_wp2_with (first | (refine wpList_load_row rfl 26 _ rfl (w.heap.size) rfl 26 gr (0, 0) _ (KH21.out.at_ 3 rfl) Try.underlying26 rfl HI.out ?_) | (refine wpList_load_row rfl 24 _ rfl (g13) rfl 24 (num th) (0, 0) _ (KH21.out.at_ 0 rfl) Try.underlying24 rfl info4 ?_) | fail)
              with_reducible refine (HW2.out _ KL21.out).mono ?_
              rintro e w51 ⟨v24, rfl, hv24, L⟩
              obtain ⟨A24, c24, hv24', -, hn24, -⟩ := hv24.open_
              rw [HFL.out] at hv24'
              subst hv24'
              have HN24 := hide hn24
              have HN22' := hide (HN22.out.grow L)
              have HN7_22 := hide (HN7_21.out.grow L)
              have KB22 := hide (below_trans_grows KB21.out L KB21.out.size)
              clear L hv24 hn24 HW2 KH21 KB21 HN7_21 KL21 HN22
              have hs := sameNums_any A22 A7 c22 c7 fin fin (by rw [HFL.out]; omega) w51 HN22'.out HN7_22.out
              rw [decide_eq_true rfl, HFL.out] at hs
              have HS := hide hs
              clear hs
              go_wp2_with fail
              with_reducible refine HS.out.mono ?_
              rintro e w52 ⟨rfl, L⟩
              have hs := sameNums_any A24 A7 c24 c7 fin fin (by rw [HFL.out]; omega) w52 (HN24.out.grow L) (HN7_22.out.grow L)
              rw [decide_eq_true rfl, HFL.out] at hs
              have HS2 := hide hs
              have KB23 := hide (below_trans_grows KB22.out L KB22.out.size)
              clear hs L HS KB22
              go_wp2_with fail
              with_reducible refine HS2.out.mono ?_
              rintro e w53 ⟨rfl, L⟩
              have KB24 := hide (below_trans_grows KB23.out L KB23.out.size)
              clear L HS2 KB23
              go_wp2_with fail
              exact bodyPost_ret (by kernel_rfl) rfl ⟨rfl, KB24.out⟩
        · rw [hE, hF, hH]
          clear hE hF hH hpl
          go_wp2_with fail
          exact bodyPost_ret (by kernel_rfl) rfl ⟨rfl, KB6.out⟩
      · rw [hE, hF]
        clear hE hF hpl
        go_wp2_with fail
        exact bodyPost_ret (by kernel_rfl) rfl ⟨rfl, KB6.out⟩
      · rw [hE, hF]
        clear hE hF hpl
        go_wp2_with fail
        exact bodyPost_ret (by kernel_rfl) rfl ⟨rfl, KB6.out⟩
    · rw [hE]
      clear hE hpl
      go_wp2_with fail
      exact bodyPost_ret (by kernel_rfl) rfl ⟨rfl, KB6.out⟩
    · rw [hE]
      clear hE hpl
      go_wp2_with fail
      exact bodyPost_ret (by kernel_rfl) rfl ⟨rfl, KB6.out⟩
  · go_wp2_with fail
    with_reducible refine (alive10_any _).mono ?_
    rintro e w2 ⟨rfl, L⟩
    have KB2 := hide (below_trans_grows KB1.out L KB1.out.size)
    clear L
    go_wp2_with fail
    exact bodyPost_ret (by kernel_rfl) rfl ⟨rfl, KB2.out⟩
set_option maxRecDepth 100000 in
theorem polysMoved_law {H : Type} (enc : TypeId × Value → H) (W : World) (base : Nat) (v0 v1 v2 : Value) {d0 d1 d2 : DataW H} {p0 p1 p2 : List MemPlace} {X Y : Prop}
    (hv0 : Value.okWide Try.prog W .any base 26 v0) (hv1 : Value.okWide Try.prog W .any base 27 v1) (hv2 : Value.okWide Try.prog W .any base 41 v2)
    (h0 : DataW.Trod enc Try.prog W 0 (fun _ => true) true 26 v0 d0 p0) (h1 : DataW.Trod enc Try.prog W 0 (fun _ => true) true 27 v1 d1 p1) (h2 : DataW.Trod enc Try.prog W 0 (fun _ => true) true 41 v2 d2 p2) (_ : X) (_ : Y) :
    Calls Try.prog 6 #[v0, v1, v2] W (BoolEnds W true) := by
  obtain ⟨gr, q, hgr, rfl⟩ := grp_arg hv0 h0
  obtain ⟨A, c, ns, rfl, hc, _, hns⟩ := nums_arg hv1 h1
  obtain ⟨zs, hl, hz, rfl⟩ := arr_arg Try.underlying41 (by kernel_rfl) hv2 h2
  match zs, hl with
  | [x, s, u], _ => exact polysMoved_any gr q hgr A c ns hc x s u (hz x (by simp)) (hz s (by simp)) (hz u (by simp)) W hns
end Go.Proofs.Ythdanjbgbbcafaa
