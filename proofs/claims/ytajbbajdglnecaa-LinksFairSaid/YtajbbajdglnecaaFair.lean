/- The walk of LinksFair: it answers true, and changes nothing that was there. -/
import Derived.Test.YtajbbajdglnecaaLives
namespace Go.Proofs.Ytajbbajdglnecaa
open Go Go.RowKit

def hadF (a c : Int) : Nat → Int := fun j => if j = a.toNat then c else 0
theorem hadF_pos (a c : Int) (hc : 0 ≤ c) (k : Nat) : 0 ≤ hadF a c k := by unfold hadF; split <;> omega
theorem hadF_zero (a : Int) : hadF a 0 = fun _ => 0 := by funext j; unfold hadF; simp
theorem hadF_self (a c : Int) : hadF a c a.toNat = c := by unfold hadF; simp
theorem hadF_yes {a c n : Int} (h1 : 1 ≤ a) (h2 : a ≤ 7) (h3 : c < n) : takesB (hadF a c) n a = true ∧ took (hadF a c) n a = hadF a (c + 1) := by
  obtain ⟨e1, e2⟩ := took_yes (h := hadF a c) (n := n) (f := a) h1 h2 (by rw [hadF_self]; exact h3)
  refine ⟨e1, ?_⟩
  rw [e2, hadF_self]
  funext j
  unfold hadF
  split <;> rfl
theorem hadF_no {a c n : Int} (h3 : n ≤ c) : takesB (hadF a c) n a = false ∧ took (hadF a c) n a = hadF a c :=
  took_no (by rw [hadF_self]; omega)
theorem hadF_other {a b c n : Int} (ha : 1 ≤ a) (h1 : 1 ≤ b) (h2 : b ≤ 7) (hab : a ≠ b) (h3 : 0 < n) : takesB (hadF a c) n b = true :=
  (took_yes (h := hadF a c) (n := n) (f := b) h1 h2 (by unfold hadF; rw [if_neg (by omega)]; exact h3)).1

def FairRel (W : World) (q : Nat) (t : TypeId) (a n : Int) (m : Int) (c i : Value) (wr : World) : Prop :=
  ∃ k d : Nat, (k : Int) ≤ m ∧ i = .int .i64 k ∧ c = .int .i64 d ∧ (d : Int) = min n k ∧ Below W.heap.size W wr ∧ Blk wr q t (qc (hadF a d) n)

theorem take_f {b : Nat} {a f c : Int} {n : Int} {w : World} (h0 : 0 ≤ f) (hB : Blk w b 65 (qc (hadF a c) n)) (hm : n ≤ 1024) (hc : 0 ≤ c) (r : Bool) (hr : takesB (hadF a c) n f = r) :
    Calls Try.prog 15 #[.pointer (some ⟨b, 0, none⟩), .int .u8 f] w (TakeEnds w b 65 r (qc (took (hadF a c) n f) n)) :=
  take_t h0 hB hm (hadF_pos a c hc) r hr rfl

set_option maxHeartbeats 1000000 in
theorem fair_any (x f o m : Int) (W : World) (x0 : 0 ≤ x) (x1 : x ≤ 255) (f0 : 0 ≤ f) (f1 : f ≤ 255) (o0 : 0 ≤ o) (o1 : o ≤ 255) (m0 : 0 ≤ m) (m1 : m ≤ 65535) :
    Calls Try.prog 4 #[.agg #[.int .u8 x, .int .u8 f, .int .u8 o, .int .u16 m]] W (Lives W) := by
  have a1 : 1 ≤ 1 + f % 7 := by omega
  have a2 : 1 + f % 7 ≤ 7 := by omega
  have b1 : 1 ≤ 1 + o % 7 := by omega
  have b2 : 1 + o % 7 ≤ 7 := by omega
  go_enter Try.func4, Try.ntmps4
  go_wp2_with fail
  refine (new_ok _ _ (by omega) (by omega)).mono ?_
  rintro e w0 ⟨rfl, hw0⟩
  generalize hq : (World.heap (W.alloc _)).size = q at *
  have hqW : W.heap.size ≤ q := by rw [← hq]; simp
  have B0 : Blk w0 q 65 (qc (fun _ => 0) (1 + x)) := by rw [hw0, ← hq]; exact Blk.new _ _ _
  have L0 : Below W.heap.size W w0 := by rw [hw0]; exact ((Below.refl _ _).alloc (Nat.le_refl _) _).alloc (by simp) _
  rw [← hadF_zero (1 + f % 7)] at B0
  clear hw0 hq
  go_wp2_with fail
  go_loopw [12, 13] (fun c i wr => FairRel W q 65 (1 + f % 7) (1 + x) (m % 3000) c i wr) (fun _ i _ => (m % 3000 - intOf i).toNat)
  case atStart => exact ⟨0, 0, by omega, rfl, rfl, by omega, L0, B0⟩
  case round =>
    obtain ⟨k, d, hk, rfl, rfl, hd, L, B⟩ := hrel
    have HD := hide hd
    clear hd
    by_cases hlt : (k : Int) < m % 3000
    · by_cases hdn : (d : Int) < 1 + x
      · obtain ⟨e1, e2⟩ := hadF_yes (c := d) a1 a2 hdn
        have hE2 := hide e2; clear e2
        have hE1 := hide e1; clear e1
        go_wp2_with fail
        refine (take_f (by omega) B (by omega) (by omega) true hE1.out).mono ?_
        rintro e w1 ⟨rfl, hg, B1⟩
        have L1 := grown_below L hg L.size hqW
        rw [hE2.out] at B1
        clear hg
        go_wp2
        go_roundw
        case rel => exact ⟨k + 1, d + 1, by omega, by go_num, by go_num, by have := HD.out; omega, L1, by simpa using B1⟩
        case measure => simp [intOf]; omega
      · obtain ⟨e1, e2⟩ := hadF_no (a := 1 + f % 7) (c := d) (n := 1 + x) (by omega)
        have hE2 := hide e2; clear e2
        have hE1 := hide e1; clear e1
        go_wp2_with fail
        refine (take_f (by omega) B (by omega) (by omega) false hE1.out).mono ?_
        rintro e w1 ⟨rfl, hg, B1⟩
        have L1 := grown_below L hg L.size hqW
        rw [hE2.out] at B1
        clear hg
        go_wp2
        go_roundw
        case rel => exact ⟨k + 1, d, by omega, by go_num, rfl, by have := HD.out; omega, L1, B1⟩
        case measure => simp [intOf]; omega
    · by_cases hmx : m % 3000 < 1 + x
      · have hT : ((d : Int) != (m % 3000)) = false := by rw [bne_eq_false_iff_eq]; have := HD.out; omega
        have hdn : (d : Int) < 1 + x := by have := HD.out; omega
        have hdd : decide ((d : Int) < 1 + x) = true := by simpa using hdn
        by_cases hab : 1 + f % 7 = 1 + o % 7
        · have hE : (1 + f % 7 == 1 + o % 7) = true := by simpa using hab
          have hE1 : Hid (takesB (hadF (1 + f % 7) d) (1 + x) (1 + o % 7) = true) := by rw [← hab]; exact (hadF_yes (c := d) a1 a2 hdn).1
          clear hab
          go_wp2_with fail
          refine (take_f (by omega) B (by omega) (by omega) true hE1.out).mono ?_
          rintro e w1 ⟨rfl, hg, B1⟩
          have L1 := grown_below L hg L.size hqW
          clear hg
          go_wp2_with fail
          refine (lives_any _).mono ?_
          rintro e w2 ⟨rfl, L2⟩
          go_wp2_with fail
          go_ret
          exact ⟨rfl, L1.trans (L2.mono L1.size)⟩
        · have hE : (1 + f % 7 == 1 + o % 7) = false := by simpa using hab
          have hE1 := hide (hadF_other (c := d) (n := 1 + x) a1 b1 b2 hab (by omega))
          go_wp2_with fail
          refine (take_f (by omega) B (by omega) (by omega) true hE1.out).mono ?_
          rintro e w1 ⟨rfl, hg, B1⟩
          have L1 := grown_below L hg L.size hqW
          clear hg
          go_wp2_with fail
          refine (lives_any _).mono ?_
          rintro e w2 ⟨rfl, L2⟩
          go_wp2_with fail
          go_ret
          exact ⟨rfl, L1.trans (L2.mono L1.size)⟩
      · have hT : ((d : Int) != (1 + x)) = false := by rw [bne_eq_false_iff_eq]; have := HD.out; omega
        have hdn : ¬ (d : Int) < 1 + x := by have := HD.out; omega
        have hdd : decide ((d : Int) < 1 + x) = false := by simpa using hdn
        by_cases hab : 1 + f % 7 = 1 + o % 7
        · have hE : (1 + f % 7 == 1 + o % 7) = true := by simpa using hab
          have hE1 : Hid (takesB (hadF (1 + f % 7) d) (1 + x) (1 + o % 7) = false) := by rw [← hab]; exact (hadF_no (a := 1 + f % 7) (c := d) (n := 1 + x) (by omega)).1
          clear hab
          go_wp2_with fail
          refine (take_f (by omega) B (by omega) (by omega) false hE1.out).mono ?_
          rintro e w1 ⟨rfl, hg, B1⟩
          have L1 := grown_below L hg L.size hqW
          clear hg
          go_wp2_with fail
          refine (lives_any _).mono ?_
          rintro e w2 ⟨rfl, L2⟩
          go_wp2_with fail
          go_ret
          exact ⟨rfl, L1.trans (L2.mono L1.size)⟩
        · have hE : (1 + f % 7 == 1 + o % 7) = false := by simpa using hab
          have hE1 := hide (hadF_other (c := d) (n := 1 + x) a1 b1 b2 hab (by omega))
          go_wp2_with fail
          refine (take_f (by omega) B (by omega) (by omega) true hE1.out).mono ?_
          rintro e w1 ⟨rfl, hg, B1⟩
          have L1 := grown_below L hg L.size hqW
          clear hg
          go_wp2_with fail
          refine (lives_any _).mono ?_
          rintro e w2 ⟨rfl, L2⟩
          go_wp2_with fail
          go_ret
          exact ⟨rfl, L1.trans (L2.mono L1.size)⟩

open Go.ChangeShapes Go.WideShapes Go.ChangeAt Go.Joins in
theorem fair_law {H : Type} (enc : TypeId × Value → H) (W : World) (base : Nat) (v : Value) {d : DataW H} {p : List MemPlace} {S : List TypeId} {D : List (DataW H)}
    (hv : Value.okWide Try.prog W .any base 35 v) (h : DataW.Trod enc Try.prog W 0 (fun _ => true) true 35 v d p) (_ : (DataW.weightsEach Try.prog S D).all (· ≤ reachBytes) = true) (_ : W.noneFrozen p) :
    Calls Try.prog 4 #[v] W (Lives W) := by
  have C35 : Try.prog.cellsOf 35 = 4 := by kernel_rfl
  obtain ⟨c0, c1, c2, c3, y0, y1, y2, y3, m, rfl, rfl, rfl, hy0, hy1, hy2, hy3⟩ := open_agg4 Try.underlying35 (by kernel_rfl) C35 hv h
  obtain ⟨a, e0, rfl, wa⟩ := DataW.trod_int Try.underlying5 hy0
  obtain ⟨b, e1, rfl, wb⟩ := DataW.trod_int Try.underlying5 hy1
  obtain ⟨c, e2, rfl, wc⟩ := DataW.trod_int Try.underlying5 hy2
  obtain ⟨x, e3, rfl, wx⟩ := DataW.trod_int Try.underlying33 hy3
  simp at e0 e1 e2 e3
  subst e0 e1 e2 e3
  simp [Lit.wf, IntKind.min, IntKind.max, IntKind.signed, IntKind.bits] at wa wb wc wx
  exact fair_any a b c x W (by omega) (by omega) (by omega) (by omega) (by omega) (by omega) (by omega) (by omega)

end Go.Proofs.Ytajbbajdglnecaa
