/- ShasTwo: walked. -/
import Derived.Test.YtajbbajdglnecaaShasCut
import Derived.Test.YtajbbajdglnecaaPartsLaw
namespace Go.Proofs.Ytajbbajdglnecaa
open Go Go.RowKit

/-- Two slices that own no block in common. -/
def Apart2 (v u : Value) : Prop := ∀ i, v.ownBlock = some i → u.ownBlock ≠ some i
theorem own_kept2 {w w' : World} {base : Nat} {e : TypeId} {size : Nat} {v u : Value} {n : Nat} {xs : List Value} (h : w.ownsRow base e size v n xs) (hg : w.grownBy w' u.ownBlock) (hap : Apart2 v u) : w'.ownsRow base e size v n xs := by
  refine h.kept hg ?_
  cases hv : v.ownBlock with
  | none => exact .inl rfl
  | some i => exact .inr (fun e => hap i hv e.symm)
theorem apart2_new {w : World} {base : Nat} {e : TypeId} {size : Nat} {v u u' : Value} {n : Nat} {xs : List Value} (h : w.ownsRow base e size v n xs) (hap : Apart2 v u) (ho : u'.ownBlock = u.ownBlock ∨ u'.ownBlock = some w.heap.size) : Apart2 v u' := by
  intro i hi
  rcases ho with ho | ho
  · rw [ho]; exact hap i hi
  · rw [ho]
    have := (h.lt i hi).2
    intro e
    injection e
    omega
theorem Apart2.symm {v u : Value} (h : Apart2 v u) : Apart2 u v := fun i h1 h2 => h i h2 h1
/-- One sum, and the bytes that went into it. -/
structure SumAt (w : World) (base b : Nat) (t5 t44 : TypeId) (v : Value) (xs : List Int) (s : SumSt) : Prop where
  wf : ∀ i, i < xs.length → 0 ≤ at_ xs i ∧ at_ xs i ≤ 255
  own : w.ownsRow base t5 1 v xs.length (vals xs)
  sum : SumOf xs s
  blk : Blk w b t44 (sumRow s).toArray
def TwoRel (w : World) (n a b : Nat) (t5 t44 : TypeId) (vx vy i : Value) (wr : World) : Prop :=
  ∃ (k : Nat) (xs ys : List Int) (s t : SumSt), k ≤ n ∧ i = .int .i64 (k : Nat) ∧ xs.length + ys.length ≤ 30000 ∧ Below w.heap.size w wr ∧ SumAt wr w.heap.size a t5 t44 vx xs s ∧ SumAt wr w.heap.size b t5 t44 vy ys t ∧ Apart2 vx vy
set_option maxHeartbeats 4000000 in
theorem two_any (S : Option Addr) (n c : Nat) (V : Nat → Value) (ls : Nat → List Int) (T : Option Addr) (m d : Nat) (ts : List Int) (w : World) (h : RecsAt w S n V ls) (ht : BytesAt w (.slice T m d) ts) (hm : ts.length = m) :
    Calls Try.prog 9 #[.slice S n c, .slice T m d] w (LawEnds w) := by
  have HR := hide h
  have HT := hide ht
  have HTM := hide hm
  clear h ht hm
  by_cases hn : 40 < n ∨ 10000 < m
  · by_cases hn1 : 40 < n
    all_goals
      go_enter Try.func9, Try.ntmps9
      go_wp2_with fail
      with_reducible refine (alive_any w).mono ?_
      rintro e w1 ⟨rfl, L⟩
      have HL1 := hide L
      clear L
      go_wp2_with fail
      with_reducible refine (alive_any w1).mono ?_
      rintro e w2 ⟨rfl, L⟩
      have HL2 := hide (below_trans_grows HL1.out L HL1.out.size)
      clear L HL1
      go_wp2_with fail
      go_ret
      exact ⟨rfl, HL2.out⟩
  · have hn1 : n ≤ 40 := by omega
    have hm1 : m ≤ 10000 := by omega
    clear hn
    go_enter Try.func9, Try.ntmps9
    go_wp2_with fail
    with_reducible refine (alive_any w).mono ?_
    rintro e w1 ⟨rfl, L⟩
    have HL1 := hide L
    clear L
    go_wp2_with fail
    with_reducible refine (new_any w1).mono ?_
    rintro e w2 ⟨a, rfl, ha, L, B⟩
    have hwa : w.heap.size ≤ a := by have := HL1.out.size; omega
    have HL2 := hide (below_trans_grows HL1.out L HL1.out.size)
    have HA2 := hide B
    clear L B HL1 ha
    go_wp2_with fail
    with_reducible refine (new_any w2).mono ?_
    rintro e w3 ⟨b, rfl, hb, L, B⟩
    have hab : a < b := by have := HA2.out.lt; omega
    have HL3 := hide (below_trans_grows HL2.out L HL2.out.size)
    have HA3 := hide (HA2.out.below L HA2.out.lt)
    have HB3 := hide B
    have hwb : w.heap.size ≤ b := by omega
    clear L B HL2 hb HA2
    go_wp2_with fail
    go_loopw [7, 8, 9] (fun vx vy i wr => TwoRel w n a b 5 44 vx vy i wr) (fun _ _ i _ => n - (intOf i).toNat)
    case atStart => exact ⟨0, [], [], sum0, sum0, by omega, rfl, by simp, HL3.out, ⟨fun i hi => by simp at hi, ⟨rfl, .inl ⟨rfl, rfl⟩⟩, sum0_of, HA3.out⟩, ⟨fun i hi => by simp at hi, ⟨rfl, .inl ⟨rfl, rfl⟩⟩, sum0_of, HB3.out⟩, fun i hi => by simp [Value.ownBlock] at hi⟩
    case round =>
      clear HL3 HA3 HB3
      obtain ⟨k, xs, ys, s, t, hk, rfl, hxs, L, X, Y, hap⟩ := hrel
      have HL := hide L
      have HX := hide X
      have HY := hide Y
      have HAP := hide hap
      clear L X Y hap
      obtain ⟨Ax, cx, rfl⟩ := own_slice HX.out.own
      obtain ⟨Ay, cy, rfl⟩ := own_slice HY.out.own
      by_cases hkn : k < n
      · obtain ⟨g, o, rfl, hc0⟩ := HR.out.cell k hkn
        have hc := (HL.out.cell (p := ⟨g, o + k, none⟩) (lt_of_cell hc0)).trans hc0
        obtain ⟨Ak, ck, hv⟩ := ((HR.out.grow HL.out).part k hkn).len
        have hp0 := HR.out.part k hkn
        rw [hv] at hc hp0 hc0
        have HC0 := hide hc0
        clear hc0
        have HP0 := hide hp0
        have hlk := HR.out.len k hkn
        have HC := hide hc
        clear hv hp0
        generalize hls : ls k = lk at *
        clear hls
        by_cases hbig : 30000 < xs.length + ys.length + lk.length
        · go_wp2_with fail
          go_ret
          exact ⟨rfl, HL.out⟩
        · by_cases hkm : k < m
          · obtain ⟨gt, ot, rfl, _, hct⟩ := bytes_cells (HT.out.grow HL.out) (by omega)
            obtain ⟨hu0, hu1, hct⟩ := hct k hkm
            have HCT := hide hct
            generalize at_ ts k = u at *
            go_wp2_with fail
            · clear hct
              with_reducible refine (write_any b _ ys lk t _ HY.out.sum HY.out.blk (HP0.out.grow HL.out) (HP0.out.far hwb) (by omega)).mono ?_
              rintro e w5 ⟨rfl, hgr, s', hs', B5⟩
              have HL5 := hide (grown_below HL.out hgr HL.out.size hwb)
              have HB5 := hide (HX.out.blk.grown hgr (by intro e; injection e; omega))
              have HOX := hide (HY.out.own.kept hgr (.inr (own_blk_ne HY.out.own HY.out.blk (by decide))))
              have HOY := hide (HX.out.own.kept hgr (.inr (own_blk_ne HX.out.own HY.out.blk (by decide))))
              have hc5 := (HL5.out.cell (p := ⟨g, o + k, none⟩) (lt_of_cell HC0.out)).trans HC0.out
              have HRD := hide (HP0.out.grow HL5.out).reads
              have HA5 := hide B5
              have HS5 := hide hs'
              clear hgr hs' B5 hc
              obtain ⟨i0, hi0, hi1, hi2, hi3⟩ := info_parts info_u8w
              go_wp2_with (at_builtin; refine wpList_append_any _ rfl _ _ 22 rfl w.heap.size 5 i0 (.int .u8 0) 1 1 Try.underlying22 hi0 hi1 hi2 hi3 rfl (by decide) _ _ _ rfl HOX.out w5.heap.size Ak lk.length ck (vals lk) rfl HRD.out (vals_one lk) ?a1 ?a2 ?a3 ?_)
              case a1 => unfold maxLen; omega
              case a2 => omega
              case a3 => exact HL5.out.size
              intro v7 w7 hown7 hgrow hor
              have L7 := HL5.out.grown hgrow HL5.out.size (fun i hi => (HOX.out.lt i hi).1)
              have A7 := HA5.out.grown hgrow (fun e => own_blk_ne HOX.out HA5.out (by decide) e.symm)
              have B7 := HB5.out.grown hgrow (fun e => own_blk_ne HOX.out HB5.out (by decide) e.symm)
              have Y7 := own_kept2 HOY.out hgrow HAP.out
              have P7 := apart2_new HOY.out HAP.out hor
              have X7 : w7.ownsRow w.heap.size 5 1 v7 (ys ++ lk).length (vals (ys ++ lk)) := by
                rw [List.length_append]
                unfold vals
                rw [List.map_append]
                exact hown7
              have HWF2 := hide (at_append_wf HY.out.wf (bytes_wf HP0.out))
              have hyl : (ys ++ lk).length + xs.length ≤ 30000 := by rw [List.length_append]; omega
              have HL7 := hide L7
              have HA7 := hide A7
              have HB7 := hide B7
              have HX7 := hide X7
              have HY7 := hide Y7
              have HP7 := hide P7
              clear hown7 hgrow hor hc5 L7 A7 B7 X7 Y7 P7
              generalize ys ++ lk = zs at *
              go_wp2_with fail
              go_roundw
              case rel => exact ⟨k + 1, xs, zs, s, s', by omega, by go_num, by omega, HL7.out, ⟨HX.out.wf, HY7.out, HX.out.sum, HB7.out⟩, ⟨HWF2.out, HX7.out, HS5.out, HA7.out⟩, HP7.out⟩
              case measure => simp [intOf]; omega
            · clear hct
              with_reducible refine (write_any a _ xs lk s _ HX.out.sum HX.out.blk (HP0.out.grow HL.out) (HP0.out.far hwa) (by omega)).mono ?_
              rintro e w5 ⟨rfl, hgr, s', hs', B5⟩
              have HL5 := hide (grown_below HL.out hgr HL.out.size hwa)
              have HB5 := hide (HY.out.blk.grown hgr (by intro e; injection e; omega))
              have HOX := hide (HX.out.own.kept hgr (.inr (own_blk_ne HX.out.own HX.out.blk (by decide))))
              have HOY := hide (HY.out.own.kept hgr (.inr (own_blk_ne HY.out.own HX.out.blk (by decide))))
              have hc5 := (HL5.out.cell (p := ⟨g, o + k, none⟩) (lt_of_cell HC0.out)).trans HC0.out
              have HRD := hide (HP0.out.grow HL5.out).reads
              have HA5 := hide B5
              have HS5 := hide hs'
              clear hgr hs' B5 hc
              obtain ⟨i0, hi0, hi1, hi2, hi3⟩ := info_parts info_u8w
              go_wp2_with (at_builtin; refine wpList_append_any _ rfl _ _ 22 rfl w.heap.size 5 i0 (.int .u8 0) 1 1 Try.underlying22 hi0 hi1 hi2 hi3 rfl (by decide) _ _ _ rfl HOX.out w5.heap.size Ak lk.length ck (vals lk) rfl HRD.out (vals_one lk) ?a1 ?a2 ?a3 ?_)
              case a1 => unfold maxLen; omega
              case a2 => omega
              case a3 => exact HL5.out.size
              intro v7 w7 hown7 hgrow hor
              have L7 := HL5.out.grown hgrow HL5.out.size (fun i hi => (HOX.out.lt i hi).1)
              have A7 := HA5.out.grown hgrow (fun e => own_blk_ne HOX.out HA5.out (by decide) e.symm)
              have B7 := HB5.out.grown hgrow (fun e => own_blk_ne HOX.out HB5.out (by decide) e.symm)
              have Y7 := own_kept2 HOY.out hgrow HAP.out.symm
              have P7 := apart2_new HOY.out HAP.out.symm hor
              have X7 : w7.ownsRow w.heap.size 5 1 v7 (xs ++ lk).length (vals (xs ++ lk)) := by
                rw [List.length_append]
                unfold vals
                rw [List.map_append]
                exact hown7
              have HWF2 := hide (at_append_wf HX.out.wf (bytes_wf HP0.out))
              have hyl : (xs ++ lk).length + ys.length ≤ 30000 := by rw [List.length_append]; omega
              have HL7 := hide L7
              have HA7 := hide A7
              have HB7 := hide B7
              have HX7 := hide X7
              have HY7 := hide Y7
              have HP7 := hide P7
              clear hown7 hgrow hor hc5 L7 A7 B7 X7 Y7 P7
              generalize xs ++ lk = zs at *
              go_wp2_with fail
              go_roundw
              case rel => exact ⟨k + 1, zs, ys, s', t, by omega, by go_num, by omega, HL7.out, ⟨HWF2.out, HX7.out, HS5.out, HA7.out⟩, ⟨HY.out.wf, HY7.out, HY.out.sum, HB7.out⟩, HP7.out.symm⟩
              case measure => simp [intOf]; omega
          · go_wp2_with fail
            with_reducible refine (write_any a _ xs lk s _ HX.out.sum HX.out.blk (HP0.out.grow HL.out) (HP0.out.far hwa) (by omega)).mono ?_
            rintro e w5 ⟨rfl, hgr, s', hs', B5⟩
            have HL5 := hide (grown_below HL.out hgr HL.out.size hwa)
            have HB5 := hide (HY.out.blk.grown hgr (by intro e; injection e; omega))
            have HOX := hide (HX.out.own.kept hgr (.inr (own_blk_ne HX.out.own HX.out.blk (by decide))))
            have HOY := hide (HY.out.own.kept hgr (.inr (own_blk_ne HY.out.own HX.out.blk (by decide))))
            have hc5 := (HL5.out.cell (p := ⟨g, o + k, none⟩) (lt_of_cell HC0.out)).trans HC0.out
            have HRD := hide (HP0.out.grow HL5.out).reads
            have HA5 := hide B5
            have HS5 := hide hs'
            clear hgr hs' B5 hc
            obtain ⟨i0, hi0, hi1, hi2, hi3⟩ := info_parts info_u8w
            go_wp2_with (at_builtin; refine wpList_append_any _ rfl _ _ 22 rfl w.heap.size 5 i0 (.int .u8 0) 1 1 Try.underlying22 hi0 hi1 hi2 hi3 rfl (by decide) _ _ _ rfl HOX.out w5.heap.size Ak lk.length ck (vals lk) rfl HRD.out (vals_one lk) ?a1 ?a2 ?a3 ?_)
            case a1 => unfold maxLen; omega
            case a2 => omega
            case a3 => exact HL5.out.size
            intro v7 w7 hown7 hgrow hor
            have L7 := HL5.out.grown hgrow HL5.out.size (fun i hi => (HOX.out.lt i hi).1)
            have A7 := HA5.out.grown hgrow (fun e => own_blk_ne HOX.out HA5.out (by decide) e.symm)
            have B7 := HB5.out.grown hgrow (fun e => own_blk_ne HOX.out HB5.out (by decide) e.symm)
            have Y7 := own_kept2 HOY.out hgrow HAP.out.symm
            have P7 := apart2_new HOY.out HAP.out.symm hor
            have X7 : w7.ownsRow w.heap.size 5 1 v7 (xs ++ lk).length (vals (xs ++ lk)) := by
              rw [List.length_append]
              unfold vals
              rw [List.map_append]
              exact hown7
            have HWF2 := hide (at_append_wf HX.out.wf (bytes_wf HP0.out))
            have hyl : (xs ++ lk).length + ys.length ≤ 30000 := by rw [List.length_append]; omega
            have HL7 := hide L7
            have HA7 := hide A7
            have HB7 := hide B7
            have HX7 := hide X7
            have HY7 := hide Y7
            have HP7 := hide P7
            clear hown7 hgrow hor hc5 L7 A7 B7 X7 Y7 P7
            generalize xs ++ lk = zs at *
            go_wp2_with fail
            go_roundw
            case rel => exact ⟨k + 1, zs, ys, s', t, by omega, by go_num, by omega, HL7.out, ⟨HWF2.out, HX7.out, HS5.out, HA7.out⟩, ⟨HY.out.wf, HY7.out, HY.out.sum, HB7.out⟩, HP7.out.symm⟩
            case measure => simp [intOf]; omega
      · obtain rfl : k = n := by omega
        have HBX := hide (bytes_of_own HX.out.own HX.out.wf)
        have HBY := hide (bytes_of_own HY.out.own HY.out.wf)
        go_wp2_with fail
        with_reducible refine (hash_any a xs s _ HX.out.sum HX.out.blk (by omega)).mono ?_
        rintro e w9 ⟨rfl, L9⟩
        have HL9 := hide L9
        clear L9
        go_wp2_with fail
        with_reducible refine (of_any _ xs w9 (HBX.out.grow HL9.out) (by omega)).mono ?_
        rintro e w10 ⟨rfl, L⟩
        have HL10 := hide (below_trans_grows HL9.out L HL9.out.size)
        clear L HL9
        have he := sha_eql xs
        go_wp2_with fail
        clear he
        with_reducible refine (hash_any b ys t w10 HY.out.sum (HY.out.blk.below HL10.out HY.out.blk.lt) (by omega)).mono ?_
        rintro e w11 ⟨rfl, L⟩
        have HL11 := hide (below_trans_grows HL10.out L HL10.out.size)
        clear L HL10
        go_wp2_with fail
        with_reducible refine (of_any _ ys w11 (HBY.out.grow HL11.out) (by omega)).mono ?_
        rintro e w12 ⟨rfl, L⟩
        have HL12 := hide (below_trans_grows HL11.out L HL11.out.size)
        clear L HL11
        have he := sha_eql ys
        go_wp2_with fail
        clear he
        go_ret
        exact ⟨rfl, below_trans_grows HL.out HL12.out HL.out.size⟩
end Go.Proofs.Ytajbbajdglnecaa
