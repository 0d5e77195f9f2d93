/- SHA-256 on lists of bytes: what is kept of bytes so far, and what a chunk more does to it. Plain mathematics. -/
import Derived.Test.YtajbbajdglnecaaShaC
namespace Go.Proofs.Ytajbbajdglnecaa
open Go Go.RowKit

theorem mW_congr {f g : Nat → Int} (h : ∀ j, j < 64 → f j = g j) (i : Nat) (hi : i < 16) : mW f i = mW g i := by
  unfold mW
  rw [h _ (by omega), h _ (by omega), h _ (by omega), h _ (by omega)]
theorem wF_congr {f g : Nat → Int} (h : ∀ j, j < 64 → f j = g j) (i : Nat) : wF f i = wF g i := by
  induction i using Nat.strongRecOn with
  | _ i ih =>
    by_cases hi : i < 16
    · rw [wF_lo _ _ hi, wF_lo _ _ hi, mW_congr h i hi]
    · rw [wF_hi f i (by omega), wF_hi g i (by omega), ih (i - 16) (by omega), ih (i - 7) (by omega), ih (i - 15) (by omega), ih (i - 2) (by omega)]
theorem rnds_congr {f g : Nat → Int} (h : ∀ j, j < 64 → f j = g j) (s : S8) : ∀ i, rnds s f i = rnds s g i
  | 0 => rfl
  | i + 1 => by show rnd _ _ _ = rnd _ _ _; rw [rnds_congr h s i, wF_congr h]
theorem comp_congr {f g : Nat → Int} (h : ∀ j, j < 64 → f j = g j) (s : S8) : comp s f = comp s g := by
  unfold comp
  rw [rnds_congr h]

/-- The numbers of the beginning. -/
def s8init : S8 := ⟨1779033703#32, 3144134277#32, 1013904242#32, 2773480762#32, 1359893119#32, 2600822924#32, 528734635#32, 1541459225#32⟩
/-- Behind n blocks of bytes. -/
def hS (l : Nat → Int) : Nat → S8
  | 0 => s8init
  | n + 1 => comp (hS l n) (fun j => l (64 * n + j))
theorem hS_congr {f g : Nat → Int} : ∀ (n : Nat), (∀ j, j < 64 * n → f j = g j) → hS f n = hS g n
  | 0, _ => rfl
  | n + 1, h => by
    show comp _ _ = comp _ _
    rw [hS_congr n (fun j hj => h j (by omega))]
    exact comp_congr (fun j hj => h _ (by omega)) _

/-- Bytes as a function. -/
def at_ (l : List Int) : Nat → Int := fun i => l.getD i 0
theorem at_append_left (l c : List Int) (i : Nat) (h : i < l.length) : at_ (l ++ c) i = at_ l i := by
  unfold at_
  rw [List.getD_eq_getElem?_getD, List.getD_eq_getElem?_getD, List.getElem?_append_left h]
theorem at_append_right (l c : List Int) (i : Nat) : at_ (l ++ c) (l.length + i) = at_ c i := by
  unfold at_
  rw [List.getD_eq_getElem?_getD, List.getD_eq_getElem?_getD, List.getElem?_append_right (by omega), show l.length + i - l.length = i by omega]

structure SumSt where
  st : S8
  rest : List Int
  many : Nat
/-- What is kept of bytes so far. -/
structure SumOf (l : List Int) (s : SumSt) : Prop where
  st : s.st = hS (at_ l) (l.length / 64)
  many : s.many = l.length
  len : s.rest.length = 64
  rest : ∀ j, j < l.length % 64 → at_ s.rest j = at_ l (64 * (l.length / 64) + j)
  wf : ∀ j, 0 ≤ at_ s.rest j ∧ at_ s.rest j ≤ 255
def put_ (rest c : List Int) (k : Nat) : List Int := rest.take k ++ c ++ rest.drop (k + c.length)
theorem put_length (rest c : List Int) (k : Nat) (h : k + c.length ≤ rest.length) : (put_ rest c k).length = rest.length := by
  unfold put_
  simp only [List.length_append, List.length_take, List.length_drop]
  omega
theorem put_at (rest c : List Int) (k j : Nat) (h : k + c.length ≤ rest.length) : at_ (put_ rest c k) j = if j < k then at_ rest j else if j < k + c.length then at_ c (j - k) else at_ rest j := by
  unfold put_ at_
  simp only [List.getD_eq_getElem?_getD]
  have hk : (rest.take k).length = k := by simp; omega
  by_cases h1 : j < k
  · rw [if_pos h1, List.append_assoc, List.getElem?_append_left (by omega), List.getElem?_take_of_lt h1]
  · rw [if_neg h1, List.append_assoc, List.getElem?_append_right (by omega), hk]
    by_cases h2 : j < k + c.length
    · rw [if_pos h2, List.getElem?_append_left (by omega)]
    · rw [if_neg h2, List.getElem?_append_right (by omega), List.getElem?_drop]
      congr 2
      omega
/-- A chunk that goes into the block begun. -/
theorem sum_part {l c : List Int} {s : SumSt} (h : SumOf l s) (hc : l.length % 64 + c.length < 64) (hw : ∀ j, 0 ≤ at_ c j ∧ at_ c j ≤ 255) :
    SumOf (l ++ c) ⟨s.st, put_ s.rest c (l.length % 64), s.many + c.length⟩ := by
  have hlen := h.len
  have e : (l ++ c).length / 64 = l.length / 64 := by rw [List.length_append]; omega
  have e2 : (l ++ c).length % 64 = l.length % 64 + c.length := by rw [List.length_append]; omega
  refine ⟨?_, ?_, ?_, ?_, ?_⟩
  · rw [e]
    show s.st = _
    rw [h.st]
    exact hS_congr _ (fun j hj => (at_append_left l c j (by omega)).symm)
  · show s.many + c.length = _
    rw [h.many, List.length_append]
  · show (put_ _ _ _).length = 64
    rw [put_length _ _ _ (by omega), hlen]
  · intro j hj
    rw [e2] at hj
    rw [e]
    show at_ (put_ _ _ _) j = _
    rw [put_at _ _ _ _ (by omega)]
    by_cases h1 : j < l.length % 64
    · rw [if_pos h1, h.rest j h1, at_append_left _ _ _ (by omega)]
    · rw [if_neg h1, if_pos (by omega), show 64 * (l.length / 64) + j = l.length + (j - l.length % 64) by omega, at_append_right]
  · intro j
    show 0 ≤ at_ (put_ _ _ _) j ∧ at_ (put_ _ _ _) j ≤ 255
    rw [put_at _ _ _ _ (by omega)]
    split
    · exact h.wf j
    · split
      · exact hw _
      · exact h.wf j
/-- A chunk that fills it. -/
theorem sum_full {l c : List Int} {s : SumSt} (h : SumOf l s) (hc : l.length % 64 + c.length = 64) (hw : ∀ j, 0 ≤ at_ c j ∧ at_ c j ≤ 255) :
    SumOf (l ++ c) ⟨comp s.st (at_ (put_ s.rest c (l.length % 64))), put_ s.rest c (l.length % 64), s.many + c.length⟩ := by
  have hlen := h.len
  have e : (l ++ c).length / 64 = l.length / 64 + 1 := by rw [List.length_append]; omega
  have e2 : (l ++ c).length % 64 = 0 := by rw [List.length_append]; omega
  refine ⟨?_, ?_, ?_, ?_, ?_⟩
  · rw [e]
    show comp s.st _ = comp _ _
    rw [h.st, hS_congr (f := at_ (l ++ c)) (g := at_ l) _ (fun j hj => at_append_left l c j (by omega))]
    refine comp_congr (fun j hj => ?_) _
    rw [put_at _ _ _ _ (by omega)]
    by_cases h1 : j < l.length % 64
    · rw [if_pos h1, h.rest j h1, at_append_left _ _ _ (by omega)]
    · rw [if_neg h1, if_pos (by omega), show 64 * (l.length / 64) + j = l.length + (j - l.length % 64) by omega, at_append_right]
  · show s.many + c.length = _
    rw [h.many, List.length_append]
  · show (put_ _ _ _).length = 64
    rw [put_length _ _ _ (by omega), hlen]
  · intro j hj
    omega
  · intro j
    show 0 ≤ at_ (put_ _ _ _) j ∧ at_ (put_ _ _ _) j ≤ 255
    rw [put_at _ _ _ _ (by omega)]
    split
    · exact h.wf j
    · split
      · exact hw _
      · exact h.wf j

/-- The sum's block. -/
def sumRow (s : SumSt) : List Value := .int .i64 1 :: uv s.st.a :: uv s.st.b :: uv s.st.c :: uv s.st.d :: uv s.st.e :: uv s.st.f :: uv s.st.g :: uv s.st.h :: (s.rest.map (Value.int .u8) ++ [.int .u64 s.many])

/-- What is put behind bytes: a bit, noughts, how many bits. -/
def padZ (n : Nat) : Nat := (119 - n % 64) % 64
def lenB (bits : Nat) : List Int := (List.range 8).map fun i => (((bits / 2 ^ (56 - 8 * i)) % 256 : Nat) : Int)
def pad (n : Nat) : List Int := 128 :: (List.replicate (padZ n) 0 ++ lenB (8 * n % 18446744073709551616))
/-- The hash's bytes. -/
def outB (s : S8) (i : Nat) : Int := (((s.get (i / 4)).toNat / 2 ^ (24 - 8 * (i % 4)) % 256 : Nat) : Int)
def shaRow (l : List Int) : Array Value := ((List.range 32).map fun i => Value.int .u8 (outB (hS (at_ (l ++ pad l.length)) ((l ++ pad l.length).length / 64)) i)).toArray
theorem pad_length (n : Nat) : (n + (pad n).length) % 64 = 0 := by
  unfold pad padZ lenB
  simp only [List.length_cons, List.length_append, List.length_replicate, List.length_map, List.length_range]
  omega

end Go.Proofs.Ytajbbajdglnecaa
