/- Two sums do not know of one another, in whatever turns they are written: of any parts, 40 at most, and which of both each goes to. -/
import Derived.Test.YtajbbajdglnecaaRows
import Derived.Test.YtajbbajdglnecaaShasTwoLaw
import Derived.ProofKit
namespace Go.Proofs.Ytajbbajdglnecaa
open Go Go.ChangeShapes Go.WideShapes Go.ChangeAt Go.RowKit

theorem shasTwo_own : ownKnob Try.prog.godebug = none := by kernel_rfl
theorem shasTwo_laid : laidOutB Try.prog = true := by kernel_rfl
theorem shasTwo_kinds : ∀ t ∈ Try.f9.params.toList, Try.prog.readableRec t = true ∧ t < Try.prog.types.size := by
  rw [Try.params9]
  intro t ht
  simp only [List.mem_cons, List.not_mem_nil, or_false] at ht
  rcases ht with rfl | rfl
  all_goals exact ⟨by kernel_rfl, of_decide_eq_true (by kernel_rfl)⟩
theorem shasTwo_results : Try.f9.resultTypes = #[4] := by kernel_rfl

set_option maxRecDepth 100000 in
theorem shasTwo_lifted (os : Os) (started : os.Started) (H : Type) (enc : TypeId × Value → H) :
    ReturnsInHanded {} Try.checked os 9 .any (Rows.shasTwoSpec.pre6 enc Try.prog Try.f9 Rows.shasTwoRow.domain false) (Rows.shasTwoSpec.post enc Try.prog Try.f9 false true false false) := by
  refine returnsInHanded_of_change_sized (C := Try.checked) shasTwo_own started (by kernel_rfl) Try.func9
    (ChangeSpec.witness6 (enc := enc) (C := Try.checked) false ⟨#[], #[.slice none 0 0, .slice none 0 0], []⟩ 8 (by kernel_rfl) (by kernel_rfl) (by kernel_rfl) (by kernel_rfl)) ?_
  intro W base args ds gs before hval0 hW _ hsize0 _
  have hval : ∀ (j : Nat) t v, Try.f9.params[j]? = some t → args[j]? = some v → Value.okWide Try.prog W .any base t v := hval0
  have hW' := hW
  obtain ⟨p, q, hA0, hV, rfl, hfz, _⟩ := hW
  have hA : DataW.TrodAll enc Try.prog W 0 (fun _ => true) true Try.f9.params.toList args.toList ds p := hA0
  have hsize : (DataW.weightsEach Try.prog (Try.f9.params.toList ++ Rows.shasTwoSpec.plain.varTypes Try.prog) (ds ++ gs)).all (· ≤ reachBytes) = true := hsize0
  clear hA0 hval0 hsize0
  rw [Try.params9] at hA hval hsize
  obtain ⟨v0, v1, d0, d1, p0, p1, rfl, rfl, rfl, h0, h1⟩ := trodAll_two hA
  obtain ⟨rfl, rfl⟩ := trodVars_none hV
  simp only [List.append_nil] at hfz
  refine (shasTwo_law enc W base v0 v1 (hval 0 _ v0 rfl rfl) (hval 1 _ v1 rfl rfl) h0 h1 hsize hfz).mono fun e W' ⟨he, hb⟩ => ?_
  exact ⟨_, he, law_post (bt := 4) hW' rfl rfl shasTwo_results Try.underlying4 shasTwo_laid shasTwo_kinds hb⟩

theorem ShasTwo_holds : Rows.ShasTwoSaid :=
  OpenClaim.holds_of_wide 9 Try.f9 rfl rfl rfl rfl rfl rfl rfl ⟨rfl, rfl, rfl, rfl, rfl⟩ rfl rfl rfl rfl rfl (by kernel_rfl) Try.func9 (by kernel_rfl)
    (of_decide_eq_true (by kernel_rfl)) (by unfold Func.isWrapper; first | (rw [if_pos (by decide +kernel)]; kernel_rfl) | (rw [if_neg (by decide +kernel)]; exact ⟨rfl, rfl⟩))
    (fun os started H enc _ => shasTwo_lifted os started H enc)

end Go.Proofs.Ytajbbajdglnecaa
