/- ShasTwo: out of what came in. -/
import Derived.Test.YtajbbajdglnecaaShasTwo
namespace Go.Proofs.Ytajbbajdglnecaa
open Go Go.RowKit
open Go.ChangeShapes Go.WideShapes Go.ChangeAt Go.Joins in
theorem shasTwo_law {H : Type} (enc : TypeId × Value → H) (W : World) (base : Nat) (v0 v1 : Value) {d0 d1 : DataW H} {p0 p1 p : List MemPlace} {S : List TypeId} {D : List (DataW H)}
    (hv0 : Value.okWide Try.prog W .any base 54 v0) (hv1 : Value.okWide Try.prog W .any base 22 v1) (h0 : DataW.Trod enc Try.prog W 0 (fun _ => true) true 54 v0 d0 p0) (h1 : DataW.Trod enc Try.prog W 0 (fun _ => true) true 22 v1 d1 p1)
    (hsz : (DataW.weightsEach Try.prog (54 :: 22 :: S) (d0 :: d1 :: D)).all (· ≤ reachBytes) = true) (_ : W.noneFrozen p) :
    Calls Try.prog 9 #[v0, v1] W (LawEnds W) := by
  obtain ⟨A, n, c, V, ls, rfl, hr⟩ := recs_in Try.underlying54 Try.underlying22 Try.underlying5 (by kernel_rfl) (by kernel_rfl) (by kernel_rfl) h0 (okWide_slice_cells Try.underlying54 hv0) hsz (j := 0) rfl rfl
  obtain ⟨T, len, cap, l, rfl, hin, -⟩ := ints_in Try.underlying22 Try.underlying5 (by kernel_rfl) h1 (okWide_slice_cells Try.underlying22 hv1)
  exact two_any A n c V ls T len cap l W hr (.of_ints hin) hin.len
end Go.Proofs.Ytajbbajdglnecaa
