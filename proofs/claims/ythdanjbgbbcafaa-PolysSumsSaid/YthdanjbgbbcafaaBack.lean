/- slices.Backward over numbers: walked. -/
import Derived.Test.YthdanjbgbbcafaaPolyJ
import Derived.Test.YthdanjbgbbcafaaRound
namespace Go.Proofs.Ythdanjbgbbcafaa
open Go Go.RowKit
attribute [local go_sem] Oper.semAt_some

theorem KeepBut.blk {B : Nat} {rows : List Nat} {W W' : World} (h : KeepBut B rows W W') {g : Nat} {t : TypeId} {cs : Array Value} (hb : Blk W g t cs) (hg : g < B) (hr : g ∉ rows) : Blk W' g t cs := (h.block g hg hr).trans hb
theorem KeepBut.nums {B : Nat} {rows : List Nat} {W W' : World} {A : Option Addr} {ns : List Nat} (h : KeepBut B rows W W') (hn : NumsAt W A ns) (ha : ∀ b o, A = some ⟨b, o, none⟩ → ns = [] ∨ (b < B ∧ b ∉ rows)) : NumsAt W' A ns := by
  intro i x hx
  obtain ⟨h1, b, o, e, hlt, hr⟩ := hn i x hx
  refine ⟨h1, b, o, e, Nat.lt_of_lt_of_le hlt h.size, fun j v hv => ?_⟩
  have := hr j v hv
  unfold World.cell? at this ⊢
  have ha' := (ha b o e).resolve_left (fun h' => by rw [h'] at hx; simp at hx)
  rw [h.block b ha'.1 ha'.2]
  exact this
theorem wpListIn_load_mid {F : Fence} {n : Nat} {P : Program} {ops : Array Oper} {rest : List Oper} {op : Oper} {a : Act} {w : World} {Q : Exit → Act → World → Prop} (hro : F.round = none) (hgd : op.guard = none) (ty : TypeId) (x : Operand) (ho : op.op = .load ty x)
    (b o : Nat) (hx : a.eval x = .pointer (some ⟨b, o, none⟩)) (cs : List Value) (d : TypeDesc) (hc : w.rangeAt b o cs)
    (hu : P.underlying ty = some d) (hd : d.isRow = true) (hi : (P.info? ty).map (·.size) = some cs.length)
    (h : wpListIn F n P ops Q rest (a.put op.dst (.agg cs.toArray)) w) : wpListIn F n P ops Q (op :: rest) a w :=
  wpListIn_plain hgd fun _ hK => ⟨fun f hf => (by simp [Oper.about, ho] at hf), by
    rw [hro, Oper.semAt_none]
    unfold execOp
    simp only [ho, hx, Instr.loadAt, Instr.sureAddr, Sem.run_bind, Sem.run_pure, Result.andThen_ok, run_loadVar_mid w b o ty cs d hc hu hd hi]
    exact hK _ _ h⟩
/-- A number with its place. -/
abbrev PlN (q : Nat) := { x : Nat × Nat // x.2 < q }
def encN {q : Nat} (x : PlN q) : Array Value := #[.int .i64 (x.1.1 : Int), .agg (num x.1.2)]
def upTo {α : Type} (f : Nat → α) (k : Nat) : List α := (List.range k).map f
theorem upTo_zero {α : Type} (f : Nat → α) : upTo f 0 = [] := rfl
theorem upTo_succ {α : Type} (f : Nat → α) (k : Nat) : upTo f (k + 1) = upTo f k ++ [f k] := by simp [upTo, List.range_succ]
theorem upTo_length {α : Type} (f : Nat → α) (k : Nat) : (upTo f k).length = k := by simp [upTo]
theorem getD_lt {q : Nat} {ns : List Nat} (hq : 0 < q) (hall : ∀ x ∈ ns, x < q) (i : Nat) : ns.getD i 0 < q := by
  rw [List.getD_eq_getElem?_getD]
  cases h : ns[i]? with
  | none => exact hq
  | some x => exact hall x (List.mem_of_getElem? h)
/-- What comes at which turn. -/
def bkAt {q : Nat} (ns : List Nat) (h : ∀ i, ns.getD i 0 < q) (j : Nat) : PlN q := ⟨(ns.length - 1 - j, ns.getD (ns.length - 1 - j) 0), h _⟩
set_option maxRecDepth 100000 in
set_option maxHeartbeats 2000000 in
theorem back1_in (n : Nat) (hn : 1 ≤ n) (q B : Nat) (rows : List Nat) (l Bs : Nat) (hBs : Bs < B) (hBr : Bs ∉ rows) (t : TypeId) (A : Option Addr) (cap : Nat) (ns : List Nat) (hA : ∀ b o, A = some ⟨b, o, none⟩ → ns = [] ∨ (b < B ∧ b ∉ rows)) (hlen : ns.length ≤ 1000) (hlt : ∀ i, ns.getD i 0 < q)
    (J Jx : List (PlN q) → World → Prop)
    (hY : ∀ pre x W, J pre W → pre.length < ns.length → YieldAt Fence.wide (n - 1) Try.prog l (encN x) W fun e W' =>
      (e = .returned (.bool true) ∧ J (pre ++ [x]) W' ∧ KeepBut B rows W W') ∨ (e = .returned (.bool false) ∧ Jx (pre ++ [x]) W'))
    (W : World) (hbox : Blk W Bs t #[.slice A ns.length cap]) (hns : NumsAt W A ns) (h0 : J [] W) :
    CallsIn Fence.wide n Try.prog 51 #[.func (.yield l) #[] #[], .pointer (some ⟨Bs, 0, none⟩)] W fun e W' => (∃ v, e = .returned v) ∧
      ((∃ xs, xs = upTo (bkAt ns hlt) ns.length ∧ J xs W') ∨ (∃ pre, pre.length ≤ ns.length ∧ Jx pre W')) := by
  generalize hf : bkAt ns hlt = f at *
  have hfa : ∀ (m y : Nat), m < ns.length → ns[m]? = some y → (hyq : y < q) → f (ns.length - (m + 1)) = ⟨(m, y), hyq⟩ := fun m y hm hy hyq => by
    rw [← hf]
    unfold bkAt
    have e : ns.length - 1 - (ns.length - (m + 1)) = m := by omega
    apply Subtype.ext
    show (_, _) = (m, y)
    rw [e, List.getD_eq_getElem?_getD, hy]
    rfl
  have hyq : ∀ (m y : Nat), ns[m]? = some y → y < q := fun m y hy => by
    have := hlt m
    rw [List.getD_eq_getElem?_getD, hy] at this
    exact this
  have HFA := hide hfa
  have HYQ := hide hyq
  have HNS := hide hns
  have HBOX := hide hbox
  have HY := hide hY
  have HA := hide hA
  generalize hnn : ns.length = N at *
  have HNN := hide hnn
  have hc0 := hbox.cell 0
  rw [show (#[Value.slice A N cap] : Array Value)[0]? = some (.slice A N cap) from rfl] at hc0
  clear hfa hyq hns hbox hY hA hf hnn
  refine callsIn_of_wp Try.func51 rfl trivial ?_ rfl
  simp only [Try.ntmps51, List.size_toArray, List.length_cons, List.length_nil, Nat.reduceAdd, Nat.reduceSub, Array.replicate_succ, Array.replicate_zero, List.push_toArray, List.append_toArray, List.nil_append, List.cons_append]
  gi_wp2
  gi_loopw [3] (fun i wr => ∃ m : Nat, m ≤ N ∧ i = .int .i64 ((m : Int) - 1) ∧ J (upTo f (N - m)) wr ∧ KeepBut B rows W wr) (fun i _ => (intOf i + 1).toNat)
  case atStart => exact ⟨N, Nat.le_refl _, rfl, by rw [Nat.sub_self]; exact h0, KeepBut.refl _ _ _⟩
  case round =>
    obtain ⟨m, hm, rfl, hJ, hK⟩ := hrel
    have hb := (hK.blk HBOX.out hBs hBr).cell 0
    rw [show (#[Value.slice A N cap] : Array Value)[0]? = some (.slice A N cap) from rfl] at hb
    have KK := hide hK
    clear hK
    cases m with
    | zero =>
      rw [show ((0 : Nat) : Int) - 1 = -1 from rfl]
      gi_wp2
      go_end0
      exact ⟨⟨_, rfl⟩, .inl ⟨_, rfl, hJ⟩⟩
    | succ m =>
      rw [show ((m + 1 : Nat) : Int) - 1 = (m : Int) by omega]
      obtain ⟨y, hy⟩ : ∃ y, ns[m]? = some y := ⟨_, List.getElem?_eq_getElem (by have := HNN.out; omega)⟩
      have hyq := HYQ.out m y hy
      have hfm := HFA.out m y (by omega) hy hyq
      obtain ⟨hyb, b, o, eA, hblt, hrng⟩ := (KK.out.nums HNS.out HA.out) m y hy
      subst eA
      obtain ⟨fn, tmps, assign, body, hy', hR⟩ := HY.out _ (f (N - (m + 1))) wr hJ (by rw [upTo_length]; omega)
      have hup : upTo f (N - (m + 1)) ++ [f (N - (m + 1))] = upTo f (N - m) := by rw [← upTo_succ, show N - (m + 1) + 1 = N - m by omega]
      rw [hup] at hR
      rw [hfm] at hy'
      unfold encN at hy'
      dsimp only at hy'
      have HRNG := hide hrng
      have HR := hide hR
      clear hrng hR hup hfm hy
      gi_wp2_with (refine wpListIn_load_mid rfl rfl 24 _ rfl b (o + m * 4) rfl (num y).toList _ HRNG.out Try.underlying24 rfl info4 ?_)
      refine HR.out.mono ?_
      rintro e W3 (⟨rfl, hJ3, hk3⟩ | ⟨rfl, hJx3⟩)
      · gi_wp2
        go_roundw
        case rel => exact ⟨m, by omega, rfl, hJ3, KK.out.trans hk3⟩
        case measure => simp [intOf]
      · gi_wp2
        refine bodyPost_ret (results_none rfl _ _ _) rfl ?_
        exact ⟨⟨_, rfl⟩, .inr ⟨_, by rw [upTo_length]; omega, hJx3⟩⟩
set_option maxHeartbeats 1000000 in
theorem back_in (A : Option Addr) (n cap : Nat) (w : World) :
    Calls Try.prog 30 #[.slice A n cap] w fun e w' => e = .returned (.func (.func 51) #[] #[.pointer (some ⟨w.heap.size, 0, none⟩)]) ∧ w' = w.alloc (.cells #[.slice A n cap] 27) := by
  go_enter Try.func30, Try.ntmps30
  go_wp2_with fail
  go_ret
  exact ⟨rfl, rfl⟩
theorem back_stops (n : Nat) (hn : 1 ≤ n) (q : Nat) (rows : List Nat) (Bs : Nat) (w0 : World) (hBr : Bs ∉ rows) (t : TypeId) (A : Option Addr) (cap : Nat) (ns : List Nat) (hA : ∀ b o, A = some ⟨b, o, none⟩ → ns = [] ∨ (b < w0.heap.size ∧ b ∉ rows)) (hlen : ns.length ≤ 1000) (hlt : ∀ i, ns.getD i 0 < q) (hbox : Blk w0 Bs t #[.slice A ns.length cap]) (hns : NumsAt w0 A ns) :
    SeqStopsK Fence.wide n Try.prog 51 #[.pointer (some ⟨Bs, 0, none⟩)] (encN (q := q)) (KeepBut w0.heap.size rows) (fun xs => xs = upTo (bkAt ns hlt) ns.length) (fun pre => pre.length ≤ ns.length) ns.length w0 :=
  fun l J Jx W hW _ _ hY h0 => back1_in n hn q w0.heap.size rows l Bs hbox.lt hBr t A cap ns hA hlen hlt J Jx hY W (hbox.below hW hbox.lt) (hns.grow hW) h0
end Go.Proofs.Ythdanjbgbbcafaa
