/- polys: gather, over a field's deed. -/
import Derived.Test.YthdanjbgbbcafaaPolyB
namespace Go.Proofs.Ythdanjbgbbcafaa
open Go Go.RowKit

/-- Numbers in a row of memory. -/
def NumsAt (w : World) (A : Option Addr) (ns : List Nat) : Prop :=
  ∀ (i x : Nat), ns[i]? = some x → x < big ∧ ∃ b o, A = some ⟨b, o, none⟩ ∧ b < w.heap.size ∧ w.rangeAt b (o + i * 4) (num x).toList
/-- .. that lie apart from a block. -/
def Away (A : Option Addr) (bf : Nat) (ns : List Nat) : Prop := ∀ b o, A = some ⟨b, o, none⟩ → ns = [] ∨ b ≠ bf
theorem NumsAt.but {w w' : World} {A : Option Addr} {ns : List Nat} {bf : Nat} (h : NumsAt w A ns) (ha : Away A bf ns) (hb : But [bf] w w') : NumsAt w' A ns := by
  intro i x hx
  obtain ⟨h1, b, o, e, hlt, hr⟩ := h i x hx
  refine ⟨h1, b, o, e, Nat.lt_of_lt_of_le hlt hb.size, fun j v hv => ?_⟩
  have := hr j v hv
  unfold World.cell? at this ⊢
  rw [hb.block b hlt (notin1 ((ha b o e).resolve_left (fun h' => by rw [h'] at hx; simp at hx)))]
  exact this
theorem NumsAt.away {w : World} {A : Option Addr} {ns : List Nat} {bf : Nat} (h : NumsAt w A ns) (hb : w.heap.size ≤ bf) : Away A bf ns := by
  intro b o e
  cases ns with
  | nil => exact .inl rfl
  | cons x l =>
    obtain ⟨_, b', o', e', hlt, _⟩ := h 0 x rfl
    rw [e] at e'
    injection e' with e'
    injection e' with e1 e2
    exact .inr (by omega)
theorem NumsAt.grow {w w' : World} {A : Option Addr} {ns : List Nat} (h : NumsAt w A ns) (hb : Grows w w') : NumsAt w' A ns := by
  intro i x hx
  obtain ⟨h1, b, o, e, hlt, hr⟩ := h i x hx
  refine ⟨h1, b, o, e, Nat.lt_of_lt_of_le hlt hb.size, fun j v hv => ?_⟩
  have := hr j v hv
  unfold World.cell? at this ⊢
  rw [hb.block b hlt]
  exact this
/-- A deed done to each number in turn: the answer, and what goes wrong first. -/
def gath (val : Nat → Nat → Nat) (err : Nat → Nat → Int) : Nat × Int → List Nat → Nat × Int
  | s, [] => s
  | s, x :: l => gath val err (val s.1 x, first s.2 (err s.1 x)) l
theorem gath_take (val : Nat → Nat → Nat) (err : Nat → Nat → Int) : ∀ (l : List Nat) (s : Nat × Int) (k x : Nat), l[k]? = some x → gath val err s (l.take (k + 1)) = (val (gath val err s (l.take k)).1 x, first (gath val err s (l.take k)).2 (err (gath val err s (l.take k)).1 x))
  | [], _, _, _, h => by simp at h
  | y :: l, _, 0, x, h => by
    simp only [List.getElem?_cons_zero, Option.some.injEq] at h
    subst h
    rfl
  | y :: l, s, k + 1, x, h => by
    simp only [List.getElem?_cons_succ] at h
    exact gath_take val err l _ k x h
/-- What a deed of a field promises. -/
structure DeedOk (F : FuncId) (val : Nat → Nat → Nat) (err : Nat → Nat → Int) (gr : Array Value) (bf : Nat) (t57 : TypeId) : Prop where
  run : ∀ (a b : Nat) (e : Int) (w : World), (e = 0 ∨ e = 1 ∨ e = 7) → a < big → b < big → Blk w bf t57 (frow gr e) → Calls Try.prog F #[.pointer (some ⟨bf, 0, none⟩), .agg (num a), .agg (num b)] w (FieldEnds w bf t57 gr (val a b) (first e (err a b)))
  lt : ∀ a b, val a b < big
  err : ∀ a b, err a b = 0 ∨ err a b = 1 ∨ err a b = 7
  enters : ∀ args w, (callFunc F args).run Try.prog w = .ok (.enter F args) w
theorem first_in {e c : Int} (he : e = 0 ∨ e = 1 ∨ e = 7) (hc : c = 0 ∨ c = 1 ∨ c = 7) : first e c = 0 ∨ first e c = 1 ∨ first e c = 7 := by
  unfold first
  split
  · exact hc
  · exact he
theorem gath_in (val : Nat → Nat → Nat) (err : Nat → Nat → Int) (hv : ∀ a b, val a b < big) (he : ∀ a b, err a b = 0 ∨ err a b = 1 ∨ err a b = 7) : ∀ (l : List Nat) (s : Nat × Int), s.1 < big → (s.2 = 0 ∨ s.2 = 1 ∨ s.2 = 7) → (gath val err s l).1 < big ∧ ((gath val err s l).2 = 0 ∨ (gath val err s l).2 = 1 ∨ (gath val err s l).2 = 7)
  | [], _, h1, h2 => ⟨h1, h2⟩
  | _ :: l, _, _, h2 => gath_in val err hv he l _ (hv _ _) (first_in h2 (he _ _))
def GathRel (w : World) (bf n : Nat) (t57 t24 : TypeId) (gr : Array Value) (sts : Nat → Nat × Int) (vi : Value) (wr : World) : Prop :=
  ∃ k : Nat, k ≤ n ∧ vi = .int .i64 (k : Nat) ∧ But [bf] w wr ∧ Blk wr w.heap.size t24 (num (sts k).1) ∧ Blk wr (w.heap.size + 1) t24 (num 0) ∧ Blk wr bf t57 (frow gr (sts k).2)
set_option maxRecDepth 100000 in
set_option maxHeartbeats 4000000 in
theorem gather_any (F : FuncId) (val : Nat → Nat → Nat) (err : Nat → Nat → Int) (gr : Array Value) (x0 bf : Nat) (e0 : Int) (hd : DeedOk F val err gr bf 57) (A : Option Addr) (cap : Nat) (ns : List Nat) (hx : x0 < big) (he : e0 = 0 ∨ e0 = 1 ∨ e0 = 7) (hlen : ns.length < 9223372036854775808) (ha : Away A bf ns) (w : World) (hns : NumsAt w A ns) (BF : Blk w bf 57 (frow gr e0)) :
    Calls Try.prog 39 #[.agg (num x0), .slice A ns.length cap, .func (.func F) #[.pointer (some ⟨bf, 0, none⟩)] #[]] w (FieldEnds w bf 57 gr (gath val err (x0, e0) ns).1 (gath val err (x0, e0) ns).2) := by
  have hbf := BF.lt
  go_enter Try.func39, Try.ntmps39
  go_upto_region 1 with fail
  have a1 := (Blk.new w 24 (num x0)).alloc (.cells nought 24)
  have r1 := Blk.new (w.alloc (.cells (num x0) 24)) 24 nought
  simp only [World.size_alloc] at r1
  have hF0 := (BF.alloc (.cells (num x0) 24)).alloc (.cells nought 24)
  have hL0 : Grows w ((w.alloc (.cells (num x0) 24)).alloc (.cells nought 24)) := ((Below.refl _ _).alloc (Nat.le_refl _) _).alloc (by simp) _
  change Code.wp _ _ _ _ ((w.alloc (.cells (num x0) 24)).alloc (.cells nought 24))
  generalize (w.alloc (.cells (num x0) 24)).alloc (.cells nought 24) = w1 at *
  have r2 : Blk w1 (w.heap.size + 1) 24 (num 0) := by rw [num_zero]; exact r1
  have HST : Keep (GathRel w bf ns.length 57 24 gr (fun k => gath val err (x0, e0) (ns.take k)) (.int .i64 (0 : Nat)) w1) := ⟨⟨0, Nat.zero_le _, rfl, But.of_grows hL0, a1, r2, hF0⟩⟩
  have hin := fun k => gath_in val err hd.lt hd.err (ns.take k) (x0, e0) hx he
  have hstep := fun k x (h : ns[k]? = some x) => gath_take val err ns (x0, e0) k x h
  have hend : gath val err (x0, e0) ns = gath val err (x0, e0) (ns.take ns.length) := by rw [List.take_length]
  obtain ⟨sts, hsts⟩ : ∃ sts : Nat → Nat × Int, sts = fun k => gath val err (x0, e0) (ns.take k) := ⟨_, rfl⟩
  rw [← hsts] at HST
  have e1 : ∀ k, gath val err (x0, e0) (ns.take k) = sts k := fun k => by rw [hsts]
  simp only [e1] at hin hstep
  rw [e1] at hend
  rw [hend]
  clear hsts e1 a1 r1 r2 hF0 hL0 BF hx he
  obtain ⟨n, hn⟩ : ∃ n : Nat, n = ns.length := ⟨_, rfl⟩
  rw [← hn] at HST hlen hend ⊢
  have HEND := hide hend
  have HIN := hide hin
  have HSTEP := hide hstep
  have HD := hide hd
  have HNS := hide hns
  have HA := hide ha
  have HN := hide hn
  clear hin hstep hd hns ha hn hend
  go_wp2_with fail
  go_loopw [11] (fun vi wr => GathRel w bf n 57 24 gr sts vi wr) (fun i _ => n - (intOf i).toNat)
  case atStart => exact HST.out
  case round =>
    clear HST
    obtain ⟨k, hk, rfl, hB, hA, hR, hF⟩ := hrel
    have KB := hide hB
    have KA := hide hA
    have KR := hide hR
    have KF := hide hF
    clear hB hA hR hF
    by_cases hkn : k < n
    · obtain ⟨x, hx⟩ : ∃ x, ns[k]? = some x := ⟨_, List.getElem?_eq_getElem (by have := HN.out; omega)⟩
      obtain ⟨hxb, b, o, eA, hlt, hrng⟩ := (HNS.out.but HA.out KB.out) k x hx
      subst eA
      have HR := hide hrng
      have HX := hide (HSTEP.out k x hx)
      have HI := hide (HIN.out k)
      clear hrng hx
      have hszH := KR.out.lt
      go_upto_region 4 with (first | (refine wpList_load_mid rfl 24 _ rfl b (o + k * 4) rfl (num x).toList _ HR.out Try.underlying24 rfl info4 ?_) | (refine wpList_store_row rfl 24 (.tmp 8) (.tmp 14) rfl (wr.heap.size) (num x) rfl rfl 24 _ (Blk.new wr _ nought) info4 rfl (num_one _) ?_))
      obtain ⟨R0, L0⟩ := num_box wr 24 (num x)
      change Code.wp _ _ _ _ ((wr.alloc (.cells nought 24)).setRow wr.heap.size (num x))
      generalize (wr.alloc (.cells nought 24)).setRow wr.heap.size (num x) = w2 at *
      have KB2 := hide (KB.out.trans (But.of_grows L0))
      have KA2 := hide (KA.out.below L0 KA.out.lt)
      have KR2 := hide (KR.out.below L0 KR.out.lt)
      have KF2 := hide (KF.out.below L0 KF.out.lt)
      have KX2 := hide R0
      obtain ⟨g8, hg8⟩ : ∃ g : Nat, g = wr.heap.size := ⟨_, rfl⟩
      rw [← hg8] at KX2 ⊢
      have hgg : bf < g8 := by have := KF.out.lt; omega
      clear R0 L0 KB KA KR KF hg8 HR hszH
      have henter := HD.out.enters
      simp only [Act.put]
      go_wp2_with (first | (refine wpList_load_row rfl 24 _ rfl (w.heap.size) rfl 24 (num (sts k).1) (0, 0) _ KA2.out Try.underlying24 rfl info4 ?_) | (refine wpList_load_row rfl 24 _ rfl (g8) rfl 24 (num x) (0, 0) _ KX2.out Try.underlying24 rfl info4 ?_) | fail)
      with_reducible refine (HD.out.run _ _ _ _ HI.out.2 HI.out.1 hxb KF2.out).mono ?_
      rintro e w3 ⟨rfl, hb, hF⟩
      have e1 : val (sts k).1 x = (sts (k + 1)).1 := by rw [HX.out]
      have e2 : first (sts k).2 (err (sts k).1 x) = (sts (k + 1)).2 := by rw [HX.out]
      rw [e2] at hF
      rw [e1]
      have KB3 := hide (KB2.out.trans hb)
      have KA3 := hide (KA2.out.but hb (notin1 (by omega)))
      have KR3 := hide (KR2.out.but hb (notin1 (by omega)))
      have KF3 := hide hF
      clear hb hF KB2 KA2 KR2 KF2 KX2 e1 e2 henter
      go_wp2_with (first | (refine wpList_store_row rfl 24 (.tmp 3) (.tmp 18) rfl (w.heap.size) (num (sts (k + 1)).1) rfl rfl 24 _ (KA3.out) info4 rfl (num_one _) ?_))
      have hF4 := KF3.out.setRow_far (show bf ≠ w.heap.size by omega) (num (sts (k + 1)).1)
      have hR4 := KR3.out.setRow_far (show w.heap.size + 1 ≠ w.heap.size by omega) (num (sts (k + 1)).1)
      have hB4 : But [bf] w (w3.setRow w.heap.size (num (sts (k + 1)).1)) := But.shrink (Grows.refl w) (rows' := [bf, w.heap.size]) ((KB3.out.wider (by simp)).trans (but_setRow (by simp) _)) (by simp)
      go_roundw
      case rel => exact ⟨k + 1, by omega, by go_num, hB4, KA3.out.setRow _, hR4, hF4⟩
      case measure => simp [intOf]; omega
    · have hkn' : k = n := by omega
      subst hkn'
      clear hk hkn HSTEP HIN
      go_wp2_with (first | (refine wpList_load_row rfl 24 _ rfl (w.heap.size) rfl 24 (num (sts k).1) (0, 0) _ KA.out Try.underlying24 rfl info4 ?_) | (refine wpList_store_row rfl 24 (.tmp 6) (.tmp 20) rfl (w.heap.size + 1) (num (sts k).1) rfl rfl 24 _ (KR.out) info4 rfl (num_one _) ?_))
      have hS := KR.out.setRow (num (sts k).1)
      try rw [Exit.noGoto_ret]
      have hF2 := KF.out.setRow_far (show bf ≠ w.heap.size + 1 by omega) (num (sts k).1)
      exact bodyPost_ret (results_num rfl rfl hS) rfl ⟨by rw [HEND.out]; rfl, But.shrink (Grows.refl w) (rows' := [bf, w.heap.size + 1]) ((KB.out.wider (by simp)).trans (but_setRow (by simp) _)) (by simp), by rw [HEND.out]; exact hF2⟩
end Go.Proofs.Ythdanjbgbbcafaa
