/- Arrays and slices cut at a place, as the model runs it. Laws alone, of whatever program. -/
import Derived.Laws.CopyRow
import Derived.Laws.Slices
import Derived.Below
namespace Go.Proofs.Ythdanjbgbbcafaa
open Go Go.RowKit

theorem run_slice_arr {P : Program} (t e : TypeId) (n : Nat) (i : TypeInfo) (b o k : Nat) (kd : IntKind) (ht : P.underlying t = some (.array n e)) (hi : P.info? e = some i) (hs : i.size = 1) (hk : k < n) (w : World) :
    (Instr.sliceAt t (.pointer (some ⟨b, o, none⟩)) (some (.int kd (k : Int))) none none).run P w = .ok (.slice (some ⟨b, o + k, none⟩) (n - k) (n - k)) w := by
  have h1 : (0 : Int) ≤ k ∧ (k : Int) ≤ (n : Int) := by omega
  have h3 : ¬ n = k := by omega
  simp [Instr.sliceAt, run_underlying ht, Instr.sureAddr, Instr.sliceBounds, Instr.sliceBound, asIntOf, sizeOf, typeInfo, hi, hs, h1, h3, go_sem]
  intro h
  omega
theorem run_slice_low {P : Program} (t e : TypeId) (i : TypeInfo) (g o m mc k : Nat) (kd : IntKind) (ht : P.underlying t = some (.slice e)) (hi : P.info? e = some i) (hs : i.size = 1) (hk : k ≤ m) (w : World) :
    (Instr.slice t (.slice (some ⟨g, o, none⟩) m mc) (some (.int kd (k : Int))) none none).run P w = .ok (.slice (some ⟨g, if mc = k then o else o + k, none⟩) (m - k) (mc - k)) w := by
  have h1 : (0 : Int) ≤ k ∧ (k : Int) ≤ (m : Int) := by omega
  by_cases h3 : mc = k
  · subst h3
    simp [Instr.slice, run_underlying ht, Instr.sliceBounds, Instr.sliceBound, asIntOf, sizeOf, typeInfo, hi, hs, h1, go_sem]
    intro h
    omega
  · simp [Instr.slice, run_underlying ht, Instr.sliceBounds, Instr.sliceBound, asIntOf, sizeOf, typeInfo, hi, hs, h1, h3, go_sem]
    intro h
    omega
end Go.Proofs.Ythdanjbgbbcafaa
