/- polys.At: walked. -/
import Derived.Test.YthdanjbgbbcafaaBack
namespace Go.Proofs.Ythdanjbgbbcafaa
open Go Go.RowKit

/-- A polynomial's value. -/
def atV (q : Nat) (p : List Nat) (x : Nat) : Nat := p.foldr (fun c out => (out * x % q + c) % q) 0
def atOk (q : Nat) (p : List Nat) (x : Nat) : Bool := mayL q p && mayL q [x]
def atN (q : Nat) (p : List Nat) (x : Nat) : Nat := if atOk q p x = true then atV q p x else 0
def atE (q : Nat) (p : List Nat) (x : Nat) : Int := if atOk q p x = true then 0 else 1
def acc (q x : Nat) (l : List (PlN q)) : Nat := l.foldl (fun out y => (out * x % q + y.1.2) % q) 0
theorem acc_snoc (q x : Nat) (l : List (PlN q)) (y : PlN q) : acc q x (l ++ [y]) = (acc q x l * x % q + y.1.2) % q := by simp [acc]
theorem acc_lt {q : Nat} (hq : 1 < q) (x : Nat) (l : List (PlN q)) : acc q x l < q := by
  rcases List.eq_nil_or_concat l with rfl | ⟨l', y, rfl⟩
  · show 0 < q; omega
  · rw [List.concat_eq_append, acc_snoc]
    exact Nat.mod_lt _ (by omega)
theorem acc_upTo (q x : Nat) (ns : List Nat) (h : ∀ i, ns.getD i 0 < q) : ∀ k, k ≤ ns.length → acc q x (upTo (bkAt ns h) k) = atV q (ns.drop (ns.length - k)) x
  | 0, _ => by
    rw [upTo_zero, Nat.sub_zero, List.drop_length]
    rfl
  | k + 1, hk => by
    have e : ns.length - (k + 1) < ns.length := by omega
    rw [upTo_succ, acc_snoc, acc_upTo q x ns h k (by omega), List.drop_eq_getElem_cons e, show ns.length - (k + 1) + 1 = ns.length - k by omega]
    show _ = (atV q (ns.drop (ns.length - k)) x * x % q + ns[ns.length - (k + 1)]) % q
    congr 2
    show ns.getD (ns.length - 1 - k) 0 = _
    rw [List.getD_eq_getElem?_getD, show ns.length - 1 - k = ns.length - (k + 1) by omega, List.getElem?_eq_getElem e]
    rfl
theorem acc_all (q x : Nat) (ns : List Nat) (h : ∀ i, ns.getD i 0 < q) : acc q x (upTo (bkAt ns h) ns.length) = atV q ns x := by
  rw [acc_upTo q x ns h _ (Nat.le_refl _), Nat.sub_self, List.drop_zero]
structure AtMem (w : World) (x : Nat) (gr : Array Value) (t57 t55 t24 : TypeId) (bf s : Nat) (W : World) : Prop where
  below : Below w.heap.size w W
  X : Blk W (w.heap.size + 1) t24 (num x)
  R : Blk W (w.heap.size + 1 + 1) t24 (num 0)
  F : Blk W bf t57 (frow gr 0)
  P : Blk W (bf + 1) t55 #[.pointer (some ⟨bf, 0, none⟩)]
  O : Blk W (bf + 1 + 1) t24 (num s)
theorem AtMem.grow {w W W' : World} {x : Nat} {gr : Array Value} {t57 t55 t24 : TypeId} {bf s : Nat} (h : AtMem w x gr t57 t55 t24 bf s W) (hg : Grows W W') : AtMem w x gr t57 t55 t24 bf s W' :=
  ⟨below_trans_grows h.below hg h.below.size, h.X.below hg h.X.lt, h.R.below hg h.R.lt, h.F.below hg h.F.lt, h.P.below hg h.P.lt, h.O.below hg h.O.lt⟩
theorem AtMem.own {β : Type} {w : World} {x : Nat} {gr : Array Value} {t57 t55 t24 : TypeId} {bf : Nat} {B : Nat} (hB : w.heap.size ≤ B) (f : β → Nat) : OwnFrom B (fun s W => AtMem w x gr t57 t55 t24 bf (f s) W) := fun s W W' row h hg hr =>
  ⟨below_grown h.below hg (fun g e => by have := (hr g e).1; omega) h.below.size, blk_own B _ t24 (fun (_ : β) => num x) s W W' row h.X hg hr, blk_own B _ t24 (fun (_ : β) => num 0) s W W' row h.R hg hr,
    blk_own B _ t57 (fun (_ : β) => frow gr 0) s W W' row h.F hg hr, blk_own B _ t55 (fun (_ : β) => _) s W W' row h.P hg hr, blk_own B _ t24 (fun (_ : β) => num (f s)) s W W' row h.O hg hr⟩
/-- A slice of one number made. -/
theorem wpList_buildNum {ops : Array Oper} {rest : List Oper} {o : Oper} {a : Act} {w : World} {Q : Exit → Act → World → Prop} (hw : Region.wanted o (yielded ops a.tmps) = true) (y : Operand) (ho : o.op = .buildSlice 27 1 #[(0, y)]) (n : Nat) (hy : a.eval y = .agg (num n))
    (h : wpList Try.prog ops Q rest (a.put o.dst (.slice (some ⟨w.heap.size, 0, none⟩) 1 1)) (w.alloc (.cells (num n) 24))) : wpList Try.prog ops Q (o :: rest) a w :=
  wpList_step fun K hK => by
    rw [if_pos hw]
    unfold Oper.wp execOp
    simp only [ho, List.map_toArray, List.map_cons, List.map_nil, hy, Sem.run_bind, buildSlice_num, Result.andThen_ok, Sem.run_pure]
    exact hK _ _ h
set_option maxRecDepth 100000 in
set_option maxHeartbeats 4000000 in
theorem at_any (gr : Array Value) (q x : Nat) (hgr : GroupRow gr q) (hx : x < big) (A : Option Addr) (cap : Nat) (ns : List Nat) (hlen : ns.length ≤ 1000) (w : World) (hns : NumsAt w A ns) :
    Calls Try.prog 12 #[.agg gr, .slice A ns.length cap, .agg (num x)] w (MayEnds w (atN q ns x) (atE q ns x)) := by
  have hb0 := built_field gr hgr.size
  have hi := info_group gr hgr.size
  have hmay := fun (w' : World) (h : NumsAt w' A ns) => may_any gr q hgr A cap ns (by omega) w' h
  have hmayx : ∀ (B : Option Addr) (w' : World), NumsAt w' B [x] → Calls Try.prog 25 #[.agg gr, .slice B 1 1] w' (BoolEnds w' (mayL q [x])) := fun B w' h => may_any gr q hgr B 1 [x] (by simp) w' h
  have HB0 := hide hb0
  have HI := hide hi
  have HMAY := hide hmay
  have HMAYX := hide hmayx
  have HNS := hide hns
  generalize hn : ns.length = n at *
  have HN := hide hn
  clear hb0 hi hmay hmayx hns hn
  refine (callsIn_wide (n := 6)).1 ?_
  refine callsIn_of_wp_marks Try.func12 rfl trivial ?_ rfl
  refine wpIn_wide.2 ?_
  simp only [Try.ntmps12, List.size_toArray, List.length_cons, List.length_nil, Nat.reduceAdd, Nat.reduceSub, Array.replicate_succ, Array.replicate_zero, List.push_toArray, List.append_toArray, List.nil_append, List.cons_append]
  go_upto_region 1 with fail
  have g1 := ((Blk.new w 26 gr).alloc (.cells (num x) 24)).alloc (.cells nought 24)
  have x1 := (Blk.new (w.alloc (.cells gr 26)) 24 (num x)).alloc (.cells nought 24)
  have r1 := Blk.new ((w.alloc (.cells gr 26)).alloc (.cells (num x) 24)) 24 nought
  have hL0 : Grows w (((w.alloc (.cells gr 26)).alloc (.cells (num x) 24)).alloc (.cells nought 24)) := (((Below.refl _ _).alloc (Nat.le_refl _) _).alloc (by simp) _).alloc (by simp; omega) _
  simp only [World.size_alloc] at x1 r1
  change Code.wp _ _ _ _ (((w.alloc (.cells gr 26)).alloc (.cells (num x) 24)).alloc (.cells nought 24))
  generalize ((w.alloc (.cells gr 26)).alloc (.cells (num x) 24)).alloc (.cells nought 24) = w1 at *
  have r1' : Blk w1 (w.heap.size + 1 + 1) 24 (num 0) := by rw [num_zero]; exact r1
  have KG := hide g1
  have KX := hide x1
  have KR := hide r1'
  have KL := hide hL0
  clear g1 x1 r1 r1' hL0
  by_cases hm : mayL q ns = true
  · have hmm := hm
    have HM := hide hm
    clear hm hmm
    go_wp2_with (first | (refine wpList_load_row rfl 26 _ rfl (w.heap.size) rfl 26 gr (0, 0) _ KG.out Try.underlying26 rfl HI.out ?_) | fail)
    with_reducible refine (HMAY.out _ (HNS.out.grow KL.out)).mono ?_
    rintro e w2 ⟨rfl, L⟩
    rw [HM.out]
    have KG2 := hide (KG.out.below L KG.out.lt)
    have KX2 := hide (KX.out.below L KX.out.lt)
    have KR2 := hide (KR.out.below L KR.out.lt)
    have KL2 := hide (Grows.trans KL.out L)
    clear L KG KX KR KL
    go_wp2_with (first | (refine wpList_load_row_on rfl 26 _ rfl (w.heap.size) rfl 26 gr (0, 0) _ KG2.out Try.underlying26 rfl HI.out ?_) | (refine wpList_load_row_on rfl 24 _ rfl (w.heap.size + 1) rfl 24 (num x) (0, 0) _ KX2.out Try.underlying24 rfl info4 ?_) | (refine wpList_buildNum rfl (.tmp 18) rfl x rfl ?_) | fail)
    have hbl : Blk (w2.alloc (.cells (num x) 24)) w2.heap.size 24 (cellsOf [x]).toArray := Blk.new _ _ _
    have hna := NumsAt.of_blk hbl (fun y hy => by simp only [List.mem_cons, List.not_mem_nil, or_false] at hy; subst hy; exact hx)
    have HNA := hide hna
    have L3 : Grows w2 (w2.alloc (.cells (num x) 24)) := (Below.refl _ _).alloc (Nat.le_refl _) _
    have KL3 := hide L3
    clear hbl hna L3
    with_reducible refine (HMAYX.out _ _ HNA.out).mono ?_
    rintro e w3 ⟨rfl, L⟩
    have KG3 := hide (KG2.out.below (Grows.trans KL3.out L) KG2.out.lt)
    have KR3 := hide (KR2.out.below (Grows.trans KL3.out L) KR2.out.lt)
    have KX3 := hide (KX2.out.below (Grows.trans KL3.out L) KX2.out.lt)
    have KL4 := hide (Grows.trans KL2.out (Grows.trans KL3.out L))
    clear L KG2 KR2 KX2 KL2 KL3 HNA HMAY HMAYX
    have h0 : (.agg #[.int .u64 0, .int .u64 0, .int .u64 0, .int .u64 0] : Value) = .agg (num 0) := by rw [num_zero]; rfl
    have H0 := hide h0
    clear h0
    by_cases hmx : mayL q [x] = true
    · rw [hmx]
      have hok : atOk q ns x = true := by unfold atOk; rw [HM.out, hmx]; rfl
      have HOK : Keep (atN q ns x = atV q ns x ∧ atE q ns x = 0) := ⟨by unfold atN; rw [if_pos hok], by unfold atE; rw [if_pos hok]⟩
      have hq : 1 < q ∧ (∀ y ∈ ns, y < q) := by
        have h := HM.out
        unfold mayL at h
        simp only [Bool.and_eq_true, decide_eq_true_eq, List.all_eq_true] at h
        exact h
      have hxq : x < q := by
        have h := hmx
        unfold mayL at h
        simp only [Bool.and_eq_true, decide_eq_true_eq, List.all_eq_true, List.mem_cons, List.not_mem_nil, or_false, forall_eq] at h
        exact h.2
      obtain ⟨hq, hall⟩ := hq
      have HALL := hide hall
      clear hmx hok hall HM
      go_upto_region 4 with (first | (refine wpList_load_row rfl 26 _ rfl (w.heap.size) rfl 26 gr (0, 0) _ KG3.out Try.underlying26 rfl HI.out ?_) | (refine wpList_build_of rfl 57 _ (frow gr 0) [(0, .agg gr)] rfl (by kernel_rfl) HB0.out ?_) | fail)
      have AM : AtMem w x gr 57 55 24 w3.heap.size 0 (((w3.alloc (.cells (frow gr 0) 57)).alloc (.cells #[.pointer (some ⟨w3.heap.size, 0, none⟩)] 55)).alloc (.cells nought 24)) := by
        refine ⟨((KL4.out.alloc KL4.out.size _).alloc (by have := KL4.out.size; simp; omega) _).alloc (by have := KL4.out.size; simp; omega) _, ((KX3.out.alloc _).alloc _).alloc _, ((KR3.out.alloc _).alloc _).alloc _, ((Blk.new w3 _ _).alloc _).alloc _, ?_, ?_⟩
        · have h := (Blk.new (w3.alloc (.cells (frow gr 0) 57)) 55 #[.pointer (some ⟨w3.heap.size, 0, none⟩)]).alloc (.cells nought 24)
          simp only [World.size_alloc] at h
          exact h
        · have h := Blk.new ((w3.alloc (.cells (frow gr 0) 57)).alloc (.cells #[.pointer (some ⟨w3.heap.size, 0, none⟩)] 55)) 24 nought
          simp only [World.size_alloc] at h
          rw [num_zero]
          exact h
      have hbf : w.heap.size + 1 + 1 < w3.heap.size := KR3.out.lt
      change Code.wp _ _ _ _ (((w3.alloc (.cells (frow gr 0) 57)).alloc (.cells #[.pointer (some ⟨w3.heap.size, 0, none⟩)] 55)).alloc (.cells nought 24))
      generalize ((w3.alloc (.cells (frow gr 0) 57)).alloc (.cells #[.pointer (some ⟨w3.heap.size, 0, none⟩)] 55)).alloc (.cells nought 24) = w4 at *
      generalize w3.heap.size = bf at *
      have HAM := hide AM
      clear AM KG3 KR3 KX3 KL4 HB0 HI H0
      go_wp2_with (first | (go_at_call 30; (with_reducible refine (back_in _ _ _ _).mono ?_); rintro e w' ⟨rfl, rfl⟩) | fail)
      have hbx := Blk.new w4 27 #[.slice A n cap]
      have AM := HAM.out.grow (W' := w4.alloc (.cells #[.slice A n cap] 27)) ((Below.refl _ _).alloc (Nat.le_refl _) _)
      generalize hw5 : w4.alloc (.cells #[.slice A n cap] 27) = w5 at *
      have hBs : bf + 1 + 1 < w4.heap.size := HAM.out.O.lt
      have hsz5 : w4.heap.size < w5.heap.size := hbx.lt
      generalize w4.heap.size = Bs at *
      clear hw5
      have hn := HN.out
      subst hn
      have hA : ∀ b o, A = some ⟨b, o, none⟩ → ns = [] ∨ (b < w5.heap.size ∧ b ∉ [bf + 1 + 1]) := fun b o e => by
        rcases HNS.out.away (bf := bf + 1 + 1) (by omega) b o e with h | h
        · exact .inl h
        · cases hl : ns with
          | nil => exact .inl rfl
          | cons y l =>
            obtain ⟨_, b', o', e', hlt, _⟩ := HNS.out 0 y (by rw [hl]; rfl)
            rw [e] at e'
            injection e' with e'
            injection e' with e1 e2
            exact .inr ⟨by omega, by simpa using h⟩
      have hst := back_stops 5 (by decide) q [bf + 1 + 1] Bs w5 (by simp; omega) 27 A cap ns hA hlen (getD_lt (by omega) HALL.out) hbx (HNS.out.grow AM.below)
      have hacc := acc_all q x ns (getD_lt (by omega) HALL.out)
      generalize upTo (bkAt ns (getD_lt (by omega) HALL.out)) ns.length = U at *
      have HSTS := hide hst
      have HACC := hide hacc
      have KM := hide AM
      clear hst hacc AM hA hbx HAM HNS HALL HN
      refine wp_rangeFunc_box (α := PlN q) 11 rfl (enters_of Try.func51 (by kernel_rfl) rfl) HSTS.out (fun _ => rfl)
        (fun pre W => w5.heap.size ≤ W.heap.size ∧ AtMem w x gr 57 55 24 bf (acc q x pre) W) (fun s W W' row h hg hr => ⟨Nat.le_trans h.1 hg.size, AtMem.own (B := w5.heap.size) (by omega) _ s W W' row h.2 hg hr⟩) ⟨Nat.le_refl _, KM.out⟩ (fun y B W => w5.heap.size ≤ B ∧ Blk W B 24 (num y.1.2))
        (fun y B s W W' row h hg hr => ⟨h.1, blk_own _ B _ (fun (_ : Unit) => num y.1.2) s W W' row h.2 hg hr⟩) ?assign ?body ?done
      case assign =>
        rintro l pre ⟨⟨yi, yv⟩, hyq⟩ W K ⟨hszW, hI⟩ hK
        simp only [encN, putAll_two, List.setIfInBounds_toArray, List.set_cons_succ, List.set_cons_zero] at hK ⊢
        have HK := hide hK
        clear hK
        refine wpIn_region_plain (by kernel_rfl) (fun ⟨_, _, h⟩ => h) ?_
        go_wp2_with (first | (refine wpList_store_row rfl 24 (.tmp 11) (.tmp 31) rfl W.heap.size (num yv) rfl rfl 24 _ (Blk.new W _ nought) info4 rfl (num_one _) ?_) | fail)
        obtain ⟨B0, L0⟩ := num_box W 24 (num yv)
        exact HK.out W.heap.size _ (KeepsFrom.of_but (rows := []) (But.of_grows L0) (by simp)) (KeepBut.of_but (But.wider (rows := []) (But.of_grows L0) (by simp)) hszW) ⟨Nat.le_trans hszW L0.size, hI.grow L0⟩ ⟨hszW, B0⟩
      case body =>
        rintro l pre ⟨⟨yi, yv⟩, hyq⟩ B W ⟨hszW, hI⟩ ⟨hB, hC⟩ hlt
        simp only [encN, putAll_two, List.setIfInBounds_toArray, List.set_cons_succ, List.set_cons_zero]
        clear hlt
        have hs := acc_snoc q x pre ⟨(yi, yv), hyq⟩
        have hsq := acc_lt hq x pre
        dsimp only at hs hC
        generalize acc q x pre = s at *
        have hpq : s * x % q < q := Nat.mod_lt _ (by omega)
        have hyq' : yv < q := hyq
        have HTIMES : Keep (∀ w', Grows W.drew w' → Calls Try.prog 26 #[.pointer (some ⟨bf, 0, none⟩), .agg (num s), .agg (num x)] w' (NumEnds w' (s * x % q))) := ⟨fun w' hg => timesF_in gr q s x bf 0 hgr (Or.inl rfl) hq hsq hxq w' (hI.F.drew.below hg hI.F.drew.lt)⟩
        have HPLUS : Keep (∀ w', Grows W.drew w' → Calls Try.prog 29 #[.pointer (some ⟨bf, 0, none⟩), .agg (num (s * x % q)), .agg (num yv)] w' (NumEnds w' ((s * x % q + yv) % q))) := ⟨fun w' hg => plusF_in gr q _ yv bf 0 hgr (Or.inl rfl) hq hpq hyq' w' (hI.F.drew.below hg hI.F.drew.lt)⟩
        generalize s * x % q = p at *
        generalize (p + yv) % q = r at *
        have c8 := cell_grows hI.P.drew (i := 0) rfl
        have lo := load_growsN hI.O.drew
        have lx := load_growsN hI.X.drew
        have lc := load_growsN hC.drew
        have KI := hide hI
        have HS := hide hs
        clear hI hs hC
        refine wpIn_block ?_
        refine wpIn_region_kinds 7 (by kernel_rfl) (by kernel_rfl) (by kernel_rfl) ?_ (fun F hF => ?_)
        · exact fun ⟨_, _, h⟩ => h
        repeat (first
          | refine kinds_move_is _ rfl (Or.inl rfl) rfl ?_
          | refine kinds_move_is _ rfl (Or.inr rfl) rfl ?_
          | refine kinds_load 9 24 rfl rfl rfl lo ?_
          | refine kinds_load 5 24 rfl rfl rfl lx ?_
          | refine kinds_load 11 24 rfl rfl rfl lc ?_
          | refine kinds_off rfl rfl rfl rfl ?_
          | refine kinds_off' rfl rfl rfl ?_
          | ((first | refine kinds_on rfl rfl rfl ?_ | skip)
             apply kinds_is rfl
             · intro ρ wv K hw hf hK
               first | obtain ⟨e0, e1, e2, e3, e4, e5, e6, -⟩ := hf | obtain ⟨e0, e1, e2, e3, e4, e5, -⟩ := hf | obtain ⟨e0, e1, e2, e3, e4, -⟩ := hf | obtain ⟨e0, e1, e2, e3, -⟩ := hf | obtain ⟨e0, e1, e2, -⟩ := hf | obtain ⟨e0, e1, -⟩ := hf | obtain ⟨e0, -⟩ := hf | clear hf
               (try change ρ _ = _ at e0)
               (try change ρ _ = _ at e1)
               (try change ρ _ = _ at e2)
               (try change ρ _ = _ at e3)
               unfold gives
               go_simp
               first
                 | (change Calls _ _ _ _ _; (go_at_call 26; (with_reducible refine (HTIMES.out _ hw).mono ?_); rintro e w' ⟨rfl, hb⟩; exact ⟨_, rfl, hK _ hb⟩))
                 | (change Calls _ _ _ _ _; (go_at_call 29; (with_reducible refine (HPLUS.out _ hw).mono ?_); rintro e w' ⟨rfl, hb⟩; exact ⟨_, rfl, hK _ hb⟩))
                 | ((try go_ints); (try rw [if_pos (by omega)]); exact hK _ (Grows.refl _))))
        refine kinds_nil (hF _ rfl rfl (fun ww hg => ?_))
        clear hF F
        simp only [pushSlot, finish, Act.put, List.setIfInBounds_toArray, List.set_cons_succ, List.set_cons_zero]
        simp only [List.drop_succ_cons, List.drop_zero]
        have KI2 := hide ((KI.out.grow (Below.drew (Below.refl _ W))).grow hg)
        have hLW : Grows W ww := Grows.trans (Below.drew (Below.refl _ W)) hg
        clear hg c8 lo lx lc HTIMES HPLUS
        go_wp2_with (first | (refine wpList_store_row rfl 24 (.tmp 9) (.tmp 38) rfl (bf + 1 + 1) (num r) rfl rfl 24 _ (KI2.out.O) info4 rfl (num_one _) ?_) | fail)
        have hBut : But [bf + 1 + 1] W (ww.setRow (bf + 1 + 1) (num r)) := (But.of_grows hLW).trans (but_setRow (List.Mem.head _) _)
        refine ⟨KeepsFrom.of_but hBut (by simp; omega), KeepBut.of_but hBut hszW, Nat.le_trans hszW hBut.size, ?_⟩
        rw [HS.out]
        exact ⟨below_setRow KI2.out.below (by omega) _, KI2.out.X.setRow_far (by omega) _, KI2.out.R.setRow_far (by omega) _, KI2.out.F.setRow_far (by omega) _, KI2.out.P.setRow_far (by omega) _, KI2.out.O.setRow _⟩
      case done =>
        rintro D xs W hD rfl ⟨hszW, hI⟩ hK
        rw [HACC.out] at hI
        have HNO := HOK.out
        generalize atV q ns x = v at *
        have KI := hide hI
        have HD := hide hK
        clear hI hK
        dsimp only
        go_wp2_with (first | (refine wpList_load_row rfl 24 _ rfl (bf + 1 + 1) rfl 24 (num v) (0, 0) _ KI.out.O Try.underlying24 rfl info4 ?_) | (refine wpList_store_row rfl 24 (.tmp 6) (.tmp 39) rfl (w.heap.size + 1 + 1) (num v) rfl rfl 24 _ (KI.out.R) info4 rfl (num_one _) ?_) | fail)
        have hR := KI.out.R.setRow (num v)
        refine bodyPostM_mark (D := D) rfl ?_ (results_num_tmp rfl rfl (g := w.heap.size + 1 + 1) (t := 24) (f := wd v) ?_) ⟨by rw [HNO.1, HNO.2]; rfl, ?_⟩
        · show (W.setRow _ _).heap[D]? = _
          simp only [World.setRow, Array.getElem?_modify]
          rw [if_neg (by omega)]
          exact HD.out
        · exact (World.putObj_heap_other (by omega)).trans hR
        · have h1 := below_setRow KI.out.below (g := w.heap.size + 1 + 1) (by omega) (num v)
          exact below_grown h1 (grownBy_putObj' _ D _) (fun g e => by cases e; omega) h1.size
    · have hm' : mayL q [x] = false := by simpa using hmx
      have hok : atOk q ns x = false := by unfold atOk; rw [hm', Bool.and_false]
      have HNO : Keep (atN q ns x = 0 ∧ atE q ns x = 1) := ⟨by unfold atN; rw [hok]; rfl, by unfold atE; rw [hok]; rfl⟩
      rw [hm']
      clear hm' hmx hok
      go_wp2_with (first | (refine wpList_store_row rfl 24 (.tmp 6) (.tmp 23) rfl (w.heap.size + 1 + 1) (num 0) rfl H0.out 24 _ (KR3.out) info4 rfl (num_one _) ?_) | fail)
      have hS := KR3.out.setRow (num 0)
      exact bodyPostM_ret (results_num_tmp rfl rfl hS) rfl ⟨by rw [HNO.out.1, HNO.out.2]; rfl, below_setRow KL4.out (by omega) _⟩
  · have hm' : mayL q ns = false := by simpa using hm
    have hok : atOk q ns x = false := by unfold atOk; rw [hm', Bool.false_and]
    have HNO : Keep (atN q ns x = 0 ∧ atE q ns x = 1) := ⟨by unfold atN; rw [hok]; rfl, by unfold atE; rw [hok]; rfl⟩
    have HM := hide hm'
    clear hm hm' hok
    go_wp2_with (first | (refine wpList_load_row rfl 26 _ rfl (w.heap.size) rfl 26 gr (0, 0) _ KG.out Try.underlying26 rfl HI.out ?_) | fail)
    with_reducible refine (HMAY.out _ (HNS.out.grow KL.out)).mono ?_
    rintro e w2 ⟨rfl, L⟩
    rw [HM.out]
    have KR2 := hide (KR.out.below L KR.out.lt)
    have KL2 := hide (Grows.trans KL.out L)
    clear L KG KX KR KL
    have h0 : (.agg #[.int .u64 0, .int .u64 0, .int .u64 0, .int .u64 0] : Value) = .agg (num 0) := by rw [num_zero]; rfl
    have H0 := hide h0
    clear h0
    go_wp2_with (first | (refine wpList_store_row rfl 24 (.tmp 6) (.tmp 23) rfl (w.heap.size + 1 + 1) (num 0) rfl H0.out 24 _ (KR2.out) info4 rfl (num_one _) ?_) | fail)
    have hS := KR2.out.setRow (num 0)
    exact bodyPostM_ret (results_num_tmp rfl rfl hS) rfl ⟨by rw [HNO.out.1, HNO.out.2]; rfl, below_setRow KL2.out (by omega) _⟩
end Go.Proofs.Ythdanjbgbbcafaa
