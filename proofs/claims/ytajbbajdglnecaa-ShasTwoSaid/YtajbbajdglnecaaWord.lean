/- Words of 32 bits: the walk's own spellings of Go's operations on them, as operations on bit vectors. Lemmas alone. -/
import Derived.Test.YtajbbajdglnecaaMem
namespace Go.Proofs.Ytajbbajdglnecaa
open Go Go.RowKit

abbrev B32 := BitVec 32
/-- A word as the number that the walk has. -/
def un (x : B32) : Int := (x.toNat : Int)
theorem un_lo (x : B32) : 0 ≤ un x := by unfold un; omega
theorem un_hi (x : B32) : un x < 4294967296 := by unfold un; have := x.isLt; omega
theorem un_ofNat (n : Nat) (h : n < 4294967296) : un (BitVec.ofNat 32 n) = n := by unfold un; rw [BitVec.toNat_ofNat, Nat.mod_eq_of_lt (by omega)]
/-- Every number of the kind is a word. -/
theorem un_of (n : Int) (h0 : 0 ≤ n) (h1 : n < 4294967296) : ∃ x : B32, n = un x := ⟨BitVec.ofNat 32 n.toNat, by rw [un_ofNat _ (by omega)]; omega⟩
theorem un_inj {x y : B32} (h : un x = un y) : x = y := by unfold un at h; exact BitVec.eq_of_toNat_eq (by omega)
theorem w_add (x y : B32) : IntKind.u32.wrap (un x + un y) = un (x + y) := by
  rw [IntKind.wrap_u32']; unfold un; rw [BitVec.toNat_add]; omega
theorem w_add' (x y : B32) : (un x + un y) % 4294967296 = un (x + y) := by
  unfold un; rw [BitVec.toNat_add]; omega
theorem w_add3 (x y z : B32) : (un x + un y + un z) % (4294967296 : Int) = un (x + y + z) := by
  unfold un; rw [BitVec.toNat_add, BitVec.toNat_add]; omega
theorem w_and (x y : B32) : bits .and .u32 (un x) (un y) = un (x &&& y) := by
  unfold un; rw [u32_and_nat _ _ x.isLt y.isLt, BitVec.toNat_and]
theorem w_or (x y : B32) : bits .or .u32 (un x) (un y) = un (x ||| y) := by
  unfold un; rw [u32_or_nat _ _ x.isLt y.isLt, BitVec.toNat_or]
theorem w_xor (x y : B32) : bits .xor .u32 (un x) (un y) = un (x ^^^ y) := by
  unfold un; rw [u32_xor_nat _ _ x.isLt y.isLt, BitVec.toNat_xor]
theorem w_shr (x : B32) (k : Nat) : un x / (2 : Int) ^ k = un (x >>> k) := by
  unfold un; rw [BitVec.toNat_ushiftRight, Nat.shiftRight_eq_div_pow]; simp
theorem w_shl (x : B32) (k : Nat) : un x * (2 : Int) ^ k % 4294967296 = un (x <<< k) := by
  unfold un; rw [BitVec.toNat_shiftLeft, Nat.shiftLeft_eq]; simp
/-- Turned to the right. -/
def rr (x : B32) (k : Nat) : B32 := (x >>> k) ||| (x <<< (32 - k))
theorem w_rr (x : B32) (k : Nat) : bits .or .u32 (un x / (2 : Int) ^ k) (un x * (2 : Int) ^ (32 - k) % 4294967296) = un (rr x k) := by
  rw [w_shr, w_shl, w_or]; rfl
theorem w_rr' (x : B32) (k : Nat) : bits .or .u32 (un x * (2 : Int) ^ (32 - k) % 4294967296) (un x / (2 : Int) ^ k) = un (rr x k) := by
  rw [w_shr, w_shl, w_or]; unfold rr; rw [BitVec.or_comm]

theorem w_not (x : B32) : bits .xor .u32 IntKind.u32.max (un x) = un (~~~x) := by
  have e : IntKind.u32.max = un (BitVec.allOnes 32) := rfl
  rw [e, w_xor, BitVec.allOnes_xor]
/-- Two spellings of the choice, and of the majority. -/
theorem ch_eq (e f g : B32) : (e &&& f) ^^^ (~~~e &&& g) = g ^^^ e &&& (f ^^^ g) := by
  apply BitVec.eq_of_getLsbD_eq
  intro i hi
  simp only [BitVec.getLsbD_xor, BitVec.getLsbD_and, BitVec.getLsbD_not, hi, decide_true, Bool.true_and]
  cases e.getLsbD i <;> cases f.getLsbD i <;> cases g.getLsbD i <;> rfl
theorem maj_eq (a b c : B32) : (a &&& b) ||| (a &&& c) ||| (b &&& c) = a &&& b ^^^ a &&& c ^^^ b &&& c := by
  apply BitVec.eq_of_getLsbD_eq
  intro i _
  simp only [BitVec.getLsbD_xor, BitVec.getLsbD_and, BitVec.getLsbD_or]
  cases a.getLsbD i <;> cases b.getLsbD i <;> cases c.getLsbD i <;> rfl
/-- The rules that the walk is given: words stay words. -/
theorem w_rules : (∀ x y : B32, bits .xor .u32 (un x) (un y) = un (x ^^^ y)) ∧ (∀ x y : B32, bits .and .u32 (un x) (un y) = un (x &&& y)) ∧ (∀ x y : B32, bits .or .u32 (un x) (un y) = un (x ||| y)) ∧
    (∀ x y : B32, IntKind.u32.wrap (un x + un y) = un (x + y)) ∧ (∀ x y : B32, (un x + un y) % (4294967296 : Int) = un (x + y)) ∧ (∀ x : B32, un x / (8 : Int) = un (x >>> 3)) ∧ (∀ x : B32, un x / (1024 : Int) = un (x >>> 10)) ∧ (∀ x : B32, bits .xor .u32 IntKind.u32.max (un x) = un (~~~x)) ∧ IntKind.u32.signed = false :=
  ⟨w_xor, w_and, w_or, w_add, w_add', fun x => w_shr x 3, fun x => w_shr x 10, w_not, rfl⟩

end Go.Proofs.Ytajbbajdglnecaa
