/- ShasCut: out of what came in. -/
import Derived.Test.YtajbbajdglnecaaShasCut
namespace Go.Proofs.Ytajbbajdglnecaa
open Go Go.RowKit
open Go.ChangeShapes Go.WideShapes Go.ChangeAt Go.Joins in
theorem shasCut_law {H : Type} (enc : TypeId × Value → H) (W : World) (base : Nat) (v0 v1 : Value) {d0 d1 : DataW H} {p0 p1 p : List MemPlace} {S : List TypeId} {D : List (DataW H)}
    (hv0 : Value.okWide Try.prog W .any base 22 v0) (hv1 : Value.okWide Try.prog W .any base 33 v1) (h0 : DataW.Trod enc Try.prog W 0 (fun _ => true) true 22 v0 d0 p0) (h1 : DataW.Trod enc Try.prog W 0 (fun _ => true) true 33 v1 d1 p1)
    (_ : (DataW.weightsEach Try.prog S D).all (· ≤ reachBytes) = true) (_ : W.noneFrozen p) :
    Calls Try.prog 8 #[v0, v1] W (LawEnds W) := by
  obtain ⟨n, rfl, _, _, hn⟩ := open_int Try.underlying33 hv1 h1
  obtain ⟨A, len, cap, l, rfl, hin, -⟩ := ints_in Try.underlying22 Try.underlying5 (by kernel_rfl) h0 (okWide_slice_cells Try.underlying22 hv0)
  have hb : 0 ≤ n ∧ n ≤ 65535 := by simpa [Lit.wf, IntKind.min, IntKind.max, IntKind.signed, IntKind.bits] using hn
  obtain ⟨x, rfl⟩ : ∃ x : Nat, n = (x : Int) := ⟨n.toNat, by omega⟩
  exact cut_any _ l x (by omega) W (.of_ints hin)
end Go.Proofs.Ytajbbajdglnecaa
