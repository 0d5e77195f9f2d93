/- The hash of bytes. -/
import Derived.Test.YtajbbajdglnecaaShaH
namespace Go.Proofs.Ytajbbajdglnecaa
open Go Go.RowKit

/-- Bytes that came in. -/
inductive BytesAt (w : World) : Value → List Int → Prop
  | none (A : Option Addr) (cap : Nat) : BytesAt w (.slice A 0 cap) []
  | some (g o n cap : Nat) (l : List Int) (hl : l.length = n) (h0 : 0 < n) (hcap : n ≤ cap) (hm : cap ≤ 9223372036854775807) (hw : ∀ i, i < n → 0 ≤ at_ l i ∧ at_ l i ≤ 255)
      (hc : ∀ i, i < n → w.cell? ⟨g, o + i, none⟩ = some (.int .u8 (at_ l i))) : BytesAt w (.slice (some ⟨g, o, none⟩) n cap) l
theorem BytesAt.grow {w w' : World} {v : Value} {l : List Int} (h : BytesAt w v l) (hb : Below w.heap.size w w') : BytesAt w' v l := by
  cases h with
  | none A cap => exact .none A cap
  | some g o n cap l hl h0 hcap hm hw hc =>
    exact .some g o n cap l hl h0 hcap hm hw (fun i hi => (hb.cell (p := ⟨g, o + i, Option.none⟩) (lt_of_cell (hc i hi))).trans (hc i hi))

def WroteEnds (w : World) (b : Nat) (l : List Int) (tb : TypeId) (e : Ending) (w' : World) : Prop := e = .returned (.tuple #[]) ∧ w.grownBy w' (some b) ∧ ∃ s, SumOf l s ∧ Blk w' b tb (sumRow s).toArray
/-- Bytes come into a sum. -/
theorem writes_bytes (b : Nat) (v : Value) (l xs : List Int) (s : SumSt) (W : World) (hs : SumOf l s) (hB : Blk W b 44 (sumRow s).toArray) (hx : BytesAt W v xs)
    (hbg : ∀ g o n cap, v = .slice (some ⟨g, o, none⟩) n cap → 0 < n → b ≠ g) (hbig : l.length + xs.length ≤ 1152921504606846976) :
    Calls Try.prog 27 #[.pointer (some ⟨b, 0, none⟩), v] W (WriteEnds W b (l ++ xs) 44) := by
  cases hx with
  | none A cap =>
    refine (writes_none _ A cap W).mono ?_
    rintro e w' ⟨rfl, rfl⟩
    exact ⟨rfl, World.grownBy.refl W _, s, by simpa using hs, hB⟩
  | some g o n cap _ hl h0 hcap hm hw hc =>
    exact writes_any b g o n cap l xs s W hs hB (hbg g o n cap rfl h0) hl hcap hm (by omega) hw hc

set_option maxHeartbeats 400000 in
set_option maxRecDepth 100000 in
theorem of_any (v : Value) (l : List Int) (w : World) (hx : BytesAt w v l) (hbig : l.length ≤ 576460752303423488) :
    Calls Try.prog 20 #[v] w (HashEnds w (shaRow l)) := by
  have HX := hide hx
  have hlt : ∀ g o n cap, v = .slice (some ⟨g, o, none⟩) n cap → 0 < n → g < w.heap.size := by
    intro g o n cap hv hn
    cases hx with
    | none A cap => injection hv; omega
    | some g' o' n' cap' _ hl h0 hcap hm hw hc =>
      injection hv with h1 h2 h3
      injection h1 with h1
      injection h1 with h1
      subst h1
      exact lt_of_cell (hc 0 h0)
  have HLT := hide hlt
  clear hx hlt
  go_enter Try.func20, Try.ntmps20
  go_upto_region 1 with fail
  have R1 := Blk.new w 48 noughts
  have L1 : Below w.heap.size w (w.alloc (.cells noughts 48)) := (Below.refl _ _).alloc (Nat.le_refl _) _
  have hz1 : (w.alloc (.cells noughts 48)).heap.size = w.heap.size + 1 := World.size_alloc _ _
  change Code.wp _ _ _ _ (w.alloc (.cells noughts 48))
  generalize w.alloc (.cells noughts 48) = w1 at *
  have HZ1 := hide hz1
  clear hz1
  go_wp2_with fail
  refine (new_any w1).mono ?_
  rintro e w2 ⟨b, rfl, hb1, hb2, B2⟩
  have L2 := below_trans_grows L1 hb2 L1.size
  have R2 := R1.below hb2 R1.lt
  clear L1 R1 hb2
  go_wp2_with fail
  refine (writes_bytes b v [] l sum0 w2 sum0_of B2 (HX.out.grow L2) (fun g o n cap h1 h2 => by have := HLT.out g o n cap h1 h2; have := HZ1.out; omega) (by simp; omega)).mono ?_
  rintro e w3 ⟨rfl, hg, s, hs, B3⟩
  have L3 := grown_below L2 hg L2.size (by have := HZ1.out; omega)
  have R3 := R2.grown hg (by have := HZ1.out; simp; omega)
  have hbne : w.heap.size < b := by have := HZ1.out; omega
  have HS : Keep (SumOf l s) := ⟨by simpa using hs⟩
  clear L2 R2 hg hs B2
  go_wp2_with fail
  refine (hash_any b l s w3 HS.out B3 hbig).mono ?_
  rintro e w4 ⟨rfl, hb4⟩
  have L4 := below_trans_grows L3 hb4 L3.size
  have R4 := R3.below hb4 R3.lt
  have h32 : (Try.prog.info? 48).map (·.size) = some (shaRow l).size := by rw [← shaRow_size]; exact info32
  clear L3 R3 hb4 B3
  go_wp2_with (refine wpList_store_row rfl 48 (.tmp 2) (.tmp 9) rfl w.heap.size (shaRow l) rfl rfl 48 _ R4 h32 (shaRow_size l) (sha_oneCell l) ?_)
  refine bodyPost_ret (results_cell_row rfl _ _ w.heap.size 48 (shaRow l) (0, 0) _ rfl (R4.setRow _) Try.underlying48 rfl h32) rfl ⟨rfl, ?_⟩
  exact below_setRow L4 (Nat.le_refl _) _
set_option maxHeartbeats 400000 in
/-- Bytes come into a begun sum. -/
theorem write_any (b : Nat) (v : Value) (l xs : List Int) (s : SumSt) (W : World) (hs : SumOf l s) (hB : Blk W b 44 (sumRow s).toArray) (hx : BytesAt W v xs)
    (hbg : ∀ g o n cap, v = .slice (some ⟨g, o, none⟩) n cap → 0 < n → b ≠ g) (hbig : l.length + xs.length ≤ 1152921504606846976) :
    Calls Try.prog 17 #[.pointer (some ⟨b, 0, none⟩), v] W fun e w' => e = .returned (.int .i64 0) ∧ W.grownBy w' (some b) ∧ ∃ s', SumOf (l ++ xs) s' ∧ Blk w' b 44 (sumRow s').toArray := by
  have HS := hide hs
  have HB := hide hB
  have HX := hide hx
  have HBG := hide hbg
  have c0 : W.cell? ⟨b, 0, none⟩ = some (.int .i64 1) := hB.cell 0
  clear hs hB hx hbg
  go_enter Try.func17, Try.ntmps17
  go_wp2_with fail
  refine (writes_bytes b v l xs s W HS.out HB.out HX.out HBG.out hbig).mono ?_
  rintro e w' ⟨rfl, hg, s', hs', B'⟩
  clear c0
  go_wp2_with fail
  go_ret
  exact ⟨rfl, hg, s', hs', B'⟩
end Go.Proofs.Ytajbbajdglnecaa
