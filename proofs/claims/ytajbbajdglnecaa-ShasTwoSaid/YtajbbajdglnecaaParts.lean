/- ShasParts: walked. -/
import Derived.Test.YtajbbajdglnecaaShaOfLaw
import Derived.Test.YtajbbajdglnecaaRecs
namespace Go.Proofs.Ytajbbajdglnecaa
open Go Go.RowKit

theorem own_below {w w' : World} {base : Nat} {e : TypeId} {size : Nat} {v : Value} {n : Nat} {xs : List Value} (h : w.ownsRow base e size v n xs) (hb : Below w.heap.size w w') : w'.ownsRow base e size v n xs :=
  h.kept (row := none) ⟨hb.os, hb.tape, hb.output, hb.size, fun k hk _ => hb.block k hk⟩ (by cases v.ownBlock <;> simp)
theorem bytes_of_own {w : World} {base : Nat} {e : TypeId} {v : Value} {l : List Int} (h : w.ownsRow base e 1 v l.length (vals l)) (hw : ∀ i, i < l.length → 0 ≤ at_ l i ∧ at_ l i ≤ 255) : BytesAt w v l := by
  rcases Nat.eq_zero_or_pos l.length with h0 | h0
  · obtain rfl : l = [] := List.length_eq_zero_iff.1 h0
    rcases h.2 with ⟨rfl, _⟩ | ⟨g, cap, cur, rfl, _⟩
    · exact .none _ _
    · exact .none _ _
  · obtain ⟨g, cap, rfl, _, _⟩ := h.form h0
    have hcapm : l.length ≤ cap ∧ cap ≤ 9223372036854775807 := by
      rcases h.2 with ⟨h, _⟩ | ⟨_, _, _, h, _, _, h1, h2, _⟩
      · cases h
      · injection h with h3 h4 h5
        unfold maxLen at h2
        omega
    refine .some g 0 l.length cap l rfl h0 hcapm.1 hcapm.2 hw (fun i hi => ?_)
    have hc := h.cells (g := g) rfl i (.int .u8 (at_ l i)) (by
      unfold at_ vals
      rw [List.getElem?_map, List.getD_eq_getElem?_getD, List.getElem?_eq_getElem hi]
      rfl)
    rw [Addr.add_mid] at hc
    exact hc
theorem own_slice {w : World} {base : Nat} {e : TypeId} {size n : Nat} {v : Value} {xs : List Value} (h : w.ownsRow base e size v n xs) : ∃ A c, v = .slice A n c := by
  rcases h.2 with ⟨rfl, h0⟩ | ⟨g, cap, cur, rfl, _⟩
  · exact ⟨_, _, by rw [h0]⟩
  · exact ⟨_, _, rfl⟩
theorem bytes_wf {w : World} {v : Value} {l : List Int} (h : BytesAt w v l) : ∀ i, i < l.length → 0 ≤ at_ l i ∧ at_ l i ≤ 255 := by
  cases h with
  | none A cap => intro i hi; simp at hi
  | some g o n cap l hl h0 hcap hm hw hc => intro i hi; exact hw i (by omega)
theorem at_append_wf {a b : List Int} (ha : ∀ i, i < a.length → 0 ≤ at_ a i ∧ at_ a i ≤ 255) (hb : ∀ i, i < b.length → 0 ≤ at_ b i ∧ at_ b i ≤ 255) : ∀ i, i < (a ++ b).length → 0 ≤ at_ (a ++ b) i ∧ at_ (a ++ b) i ≤ 255 := by
  intro i hi
  rw [List.length_append] at hi
  rcases Nat.lt_or_ge i a.length with h | h
  · have e : at_ (a ++ b) i = at_ a i := by
      unfold at_
      rw [List.getD_eq_getElem?_getD, List.getD_eq_getElem?_getD, List.getElem?_append_left h]
    rw [e]; exact ha i h
  · have e : at_ (a ++ b) i = at_ b (i - a.length) := by
      unfold at_
      rw [List.getD_eq_getElem?_getD, List.getD_eq_getElem?_getD, List.getElem?_append_right h]
    rw [e]; exact hb _ (by omega)
def TRel (w : World) (b gt m : Nat) (t5 t44 : TypeId) (row : Array Value) (va : Value) (N : Nat) (xs : List Value) (lk : List Int) (i : Value) (wr : World) : Prop :=
  ∃ j : Nat, j ≤ m ∧ i = .int .i64 (j : Nat) ∧ Below w.heap.size w wr ∧ wr.ownsRow w.heap.size t5 1 va N xs ∧ Blk wr b t44 row ∧ (∃ cs, Blk wr gt t5 cs) ∧ ∀ i, j ≤ i → i < m → wr.cell? ⟨gt, i, none⟩ = some (.int .u8 (at_ lk i))
def PartsRel (w : World) (n b : Nat) (t5 t44 : TypeId) (va i : Value) (wr : World) : Prop :=
  ∃ (k : Nat) (xs : List Int) (s : SumSt), k ≤ n ∧ i = .int .i64 (k : Nat) ∧ xs.length ≤ 1068576 ∧ (∀ i, i < xs.length → 0 ≤ at_ xs i ∧ at_ xs i ≤ 255) ∧ Below w.heap.size w wr ∧ wr.ownsRow w.heap.size t5 1 va xs.length (vals xs) ∧ SumOf xs s ∧ Blk wr b t44 (sumRow s).toArray
set_option maxHeartbeats 2000000 in
theorem parts_any (S : Option Addr) (n c : Nat) (V : Nat → Value) (ls : Nat → List Int) (w : World) (h : RecsAt w S n V ls) :
    Calls Try.prog 7 #[.slice S n c] w (LawEnds w) := by
  have HR := hide h
  clear h
  by_cases hn : 60 < n
  · go_enter Try.func7, Try.ntmps7
    go_wp2_with fail
    go_ret
    exact ⟨rfl, Below.refl _ _⟩
  · go_enter Try.func7, Try.ntmps7
    go_wp2_with fail
    with_reducible refine (recordsSize_any S n c V ls w HR.out (by omega)).mono ?_
    rintro e w1 ⟨z, rfl, hz, hsm, L1⟩
    have HSM := hide hsm
    have HL1 := hide L1
    clear hsm L1
    go_wp2_with fail
    with_reducible refine (beyond_any w1.heap.size z 1 _ hz ((Blk.new w1 3 _).cell 0)).mono ?_
    rintro e w2 ⟨rfl, L2⟩
    have HL2 := hide (below_trans_grows (HL1.out.alloc HL1.out.size (.cells #[.int .i64 (z : Int)] 3)) L2 (by have := HL1.out.size; simp; omega))
    clear L2
    by_cases hb : 1048576 < z
    · go_wp2_with fail
      go_ret
      exact ⟨rfl, HL2.out⟩
    · have HLEN := hide (HSM.out (by omega))
      clear HL1 HSM
      go_wp2_with fail
      with_reducible refine (new_any w2).mono ?_
      rintro e w3 ⟨b, rfl, hb1, hb2, B3⟩
      have hwb := HL2.out.size
      have HL3 := hide (below_trans_grows HL2.out hb2 hwb)
      have HB3 := hide B3
      clear hb2 B3 HL2
      go_wp2_with fail
      go_loopw [4, 5] (fun va i wr => PartsRel w n b 5 44 va i wr) (fun _ i _ => n - (intOf i).toNat)
      case atStart => exact ⟨0, [], sum0, by omega, rfl, by simp, fun i hi => by simp at hi, HL3.out, ⟨rfl, .inl ⟨rfl, rfl⟩⟩, sum0_of, HB3.out⟩
      case round =>
        clear HL3 HB3
        obtain ⟨k, xs, s, hk, rfl, hxs, hwf, L, E, hs, B⟩ := hrel
        have HWF := hide hwf
        have HL := hide L
        have HE := hide E
        have HS := hide hs
        have HB := hide B
        clear hwf L E hs B
        obtain ⟨Aa, ca, rfl⟩ := own_slice HE.out
        by_cases hkn : k < n
        · by_cases hx : 20000 < xs.length
          · go_wp2_with fail
            go_ret
            exact ⟨rfl, HL.out⟩
          · have HR1 := HR.out.grow HL.out
            obtain ⟨g, o, rfl, hc0⟩ := HR.out.cell k hkn
            have hc := (HL.out.cell (p := ⟨g, o + k, none⟩) (lt_of_cell hc0)).trans hc0
            obtain ⟨Ak, ck, hv⟩ := (HR1.part k hkn).len
            have hpk := HR1.part k hkn
            have hp0 := HR.out.part k hkn
            rw [hv] at hc hpk hp0 hc0
            have HC0 := hide hc0
            clear hc0
            have HPK := hide hpk
            have HP0 := hide hp0
            have hlk := HLEN.out k hkn
            have HC := hide hc
            clear HR1 hv hpk hp0
            generalize hls : ls k = lk at *
            clear hls
            go_wp2_with fail
            with_reducible refine (twin_any _ lk _ HPK.out (by omega)).mono ?_
            rintro e w4 ⟨gt, capt, rfl, hgt, L4, hcap, htop, hcs, h77, cst, BT⟩
            have hbt : BytesAt w4 (.slice (some ⟨gt, 0, none⟩) lk.length capt) lk := by
              rcases Nat.eq_zero_or_pos lk.length with h0 | h0
              · obtain rfl : lk = [] := List.length_eq_zero_iff.1 h0
                exact .none _ _
              · exact .some gt 0 lk.length capt lk rfl h0 (by omega) htop (bytes_wf HPK.out) (fun i hi => by rw [Nat.zero_add]; exact hcs i hi)
            have HBT := hide hbt
            have HCS := hide hcs
            have H77 := hide h77
            have HL4 := hide L4
            have HTB := hide BT
            have hbb := HB.out.lt
            have HHC := hide hcap
            clear hbt hcs h77 L4 BT hc hcap
            go_wp2_with fail
            with_reducible refine (write_any b _ xs lk s w4 HS.out (HB.out.below HL4.out hbb) HBT.out (fun g' o' n' c' h1 h2 => by injection h1 with h1; injection h1 with h1; injection h1 with h1; omega) (by omega)).mono ?_
            rintro e w5 ⟨rfl, hgr, s', hs', B5⟩
            have HGR := hide hgr
            have HS5 := hide hs'
            have HB5 := hide B5
            have L04 := below_trans_grows HL.out HL4.out HL.out.size
            have HL5 := hide (grown_below L04 hgr L04.size (by omega))
            clear hgr hs' B5 L04
            have hgb : gt ≠ b := by omega
            have hc5 := (HL5.out.cell (p := ⟨g, o + k, none⟩) (lt_of_cell HC0.out)).trans HC0.out
            have hgt4 := HTB.out.lt
            go_wp2_with fail
            have hleft := left_any (.slice Ak lk.length ck) lk gt capt w5 (HP0.out.grow HL5.out) HHC.out htop (fun i hi => (HGR.out.cell_far _ hgt4 (by intro e; injection e with e; exact hgb e)).trans (HCS.out i hi)) ((HGR.out.cell_far _ hgt4 (by intro e; injection e with e; exact hgb e)).trans H77.out)
            with_reducible refine hleft.mono ?_
            rintro e w6 ⟨rfl, L6⟩
            have HL6 := hide (below_trans_grows HL5.out L6 HL5.out.size)
            have hown := (own_below ((own_below HE.out HL4.out).kept HGR.out (.inr (own_blk_ne (own_below HE.out HL4.out) (HB.out.below HL4.out hbb) (by decide)))) L6)
            have hol := HE.out.lt
            have HOL := hide hol
            have HB6 := hide (HB5.out.below L6 HB5.out.lt)
            have HT5 := HTB.out.grown HGR.out (by intro e; injection e with e; exact hgb e)
            have HT6 := hide (HT5.below L6 HT5.lt)
            have HCS6 := hide (fun i hi => (L6.cell (p := ⟨gt, i, none⟩) HT5.lt).trans ((HGR.out.cell_far _ hgt4 (by intro e; injection e with e; exact hgb e)).trans (HCS.out i hi)) : ∀ i, i < lk.length → w6.cell? ⟨gt, i, none⟩ = some (.int .u8 (at_ lk i)))
            have hc6 := (HL6.out.cell (p := ⟨g, o + k, none⟩) (lt_of_cell HC0.out)).trans HC0.out
            have HRD := hide (HP0.out.grow HL6.out).reads
            clear L6 hc5 HT5 hol hleft
            obtain ⟨i0, hi0, hi1, hi2, hi3⟩ := info_parts info_u8w
            go_wp2_with (at_builtin; refine wpList_append_any _ rfl _ _ 22 rfl w.heap.size 5 i0 (.int .u8 0) 1 1 Try.underlying22 hi0 hi1 hi2 hi3 rfl (by decide) _ _ _ rfl hown w6.heap.size Ak lk.length ck (vals lk) rfl HRD.out (vals_one lk) ?a1 ?a2 ?a3 ?_)
            case a1 => unfold maxLen; omega
            case a2 => omega
            case a3 => exact HL6.out.size
            intro v7 w7 hown7 hgrow hor
            have L7 := HL6.out.grown hgrow HL6.out.size (fun i hi => (HOL.out i hi).1)
            have B7 := HB6.out.grown hgrow (fun e => by have := own_blk_ne hown HB6.out (by decide); exact this e.symm)
            have hgtr := HL4.out.size
            have T7 := HT6.out.grown hgrow (fun e => by have := (HOL.out gt e.symm).2; omega)
            have C7 := (fun i hi => (hgrow.cell_far _ HT6.out.lt (fun e => by have := (HOL.out gt e.symm).2; omega)).trans (HCS6.out i hi) : ∀ i, i < lk.length → w7.cell? ⟨gt, i, none⟩ = some (.int .u8 (at_ lk i)))
            have hne7 : v7.ownBlock ≠ some gt := by
              rcases hor with h | h
              · rw [h]; intro e; have := (HOL.out gt e).2; omega
              · rw [h]; intro e; injection e with e; have := HT6.out.lt; omega
            have E7 : w7.ownsRow w.heap.size 5 1 v7 (xs ++ lk).length (vals (xs ++ lk)) := by
              rw [List.length_append]
              unfold vals
              rw [List.map_append]
              exact hown7
            have HNE := hide hne7
            have HWF2 := hide (at_append_wf HWF.out (bytes_wf HP0.out))
            have hyl : (xs ++ lk).length ≤ 1068576 := by rw [List.length_append]; omega
            clear hown hown7 hgrow hor hne7 hc6
            generalize xs ++ lk = ys at *
            have HB7 := hide B7
            have HT7 : Keep (∃ cs, Blk w7 gt 5 cs) := ⟨cst, T7⟩
            have HC7 := hide C7
            have HE7 := hide E7
            have HL7 := hide L7
            clear B7 T7 C7 E7 L7
            go_wp2_with fail
            go_loopw [7] (fun i wr => TRel w b gt lk.length 5 44 (sumRow s').toArray v7 ys.length (vals ys) lk i wr) (fun i _ => lk.length - (intOf i).toNat)
            case atStart => exact ⟨0, by omega, rfl, HL7.out, HE7.out, HB7.out, HT7.out, fun i _ hi => HC7.out i hi⟩
            case round =>
              obtain ⟨j, hj, rfl, L8, E8, B8, ⟨cs8, T8⟩, C8⟩ := hrel
              have HB8 := hide B8
              have HT8 := hide T8
              have HC8 := hide C8
              have HE8 := hide E8
              have HL8 := hide L8
              have hwg : w.heap.size ≤ gt := by have := HL.out.size; omega
              clear B8 T8 C8 E8 L8
              by_cases hjm : j < lk.length
              · have hcj := HC8.out j (Nat.le_refl _) hjm
                have hzj := HT8.out.frozen j
                obtain ⟨hu0, hu1⟩ := bytes_wf HP0.out j hjm
                generalize at_ lk j = u at *
                go_wp2_with fail
                go_roundw
                case rel =>
                  refine ⟨j + 1, by omega, by go_num, HL8.out.setCell (p := ⟨gt, j, none⟩) hwg _, HE8.out.kept (only_setCell (World.grownBy.refl _ _) (p := ⟨gt, j, none⟩) (.inl rfl) _) (.inr HNE.out), HB8.out.far (p := ⟨gt, j, none⟩) (fun e => hgb e.symm) _, ⟨_, HT8.out.set_ j _⟩, fun i h1 h2 => ?_⟩
                  have e9 : (⟨gt, j, none⟩ : Addr) ≠ ⟨gt, i, none⟩ := by intro e; injection e; omega
                  simp only [World.cell?_setCell_other _ _ _ _ e9]
                  exact HC8.out i (by omega) h2
                case measure => simp [intOf]; omega
              · obtain rfl : j = lk.length := by omega
                have HBY := hide (bytes_of_own HE8.out HWF2.out)
                go_wp2_with fail
                have hh := hash_any b ys s' wr HS5.out HB8.out (by omega)
                with_reducible refine hh.mono ?_
                rintro e w9 ⟨rfl, L9⟩
                clear hh
                have HL9 := hide L9
                have HBY9 := hide (HBY.out.grow L9)
                clear L9
                go_wp2_with fail
                have hh := ref_any _ ys w9 HBY9.out (by omega)
                with_reducible refine hh.mono ?_
                rintro e w10 ⟨rfl, L10⟩
                have L910 := below_trans_grows HL9.out L10 HL9.out.size
                have HL10 := hide (below_trans_grows HL8.out L910 HL8.out.size)
                have HE10 := hide (own_below HE8.out L910)
                have HB10 := hide (HB8.out.below L910 HB8.out.lt)
                clear hh L10 L910
                have hne := sha_neq ys
                go_wp2_with fail
                clear hne
                go_roundw
                case rel => exact ⟨k + 1, ys, s', by omega, by go_num, hyl, HWF2.out, HL10.out, HE10.out, HS5.out, HB10.out⟩
                case measure => simp [intOf]; omega
        · obtain rfl : k = n := by omega
          have HBY := hide (bytes_of_own HE.out HWF.out)
          go_wp2_with fail
          have hh := hash_any b xs s _ HS.out HB.out (by omega)
          with_reducible refine hh.mono ?_
          rintro e w9 ⟨rfl, L9⟩
          clear hh
          have HL9 := hide L9
          have HBY9 := hide (HBY.out.grow L9)
          clear L9
          go_wp2_with fail
          have hh := ref_any _ xs w9 HBY9.out (by omega)
          with_reducible refine hh.mono ?_
          rintro e w10 ⟨rfl, L10⟩
          have L910 := below_trans_grows HL9.out L10 HL9.out.size
          have HL10 := hide (below_trans_grows HL.out L910 HL.out.size)
          clear hh L10 L910
          have hne := sha_eql xs
          go_wp2_with fail
          go_ret
          exact ⟨rfl, HL10.out⟩
end Go.Proofs.Ytajbbajdglnecaa
