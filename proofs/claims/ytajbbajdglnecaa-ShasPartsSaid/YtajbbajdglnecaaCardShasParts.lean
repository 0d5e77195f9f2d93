/- ShasParts: whatever the parts, it answers true and leaves all memory as it was; no condition. -/
import Derived.Test.YtajbbajdglnecaaRows
import Derived.Test.YtajbbajdglnecaaPartsLaw
import Derived.ProofKit
namespace Go.Proofs.Ytajbbajdglnecaa
open Go Go.ChangeShapes Go.WideShapes Go.ChangeAt Go.RowKit

theorem shasParts_own : ownKnob Try.prog.godebug = none := by kernel_rfl
theorem shasParts_laid : laidOutB Try.prog = true := by kernel_rfl
theorem shasParts_kinds : ∀ t ∈ Try.f7.params.toList, Try.prog.readableRec t = true ∧ t < Try.prog.types.size := by
  rw [Try.params7]
  intro t ht
  simp only [List.mem_cons, List.not_mem_nil, or_false] at ht
  obtain rfl := ht
  all_goals exact ⟨by kernel_rfl, of_decide_eq_true (by kernel_rfl)⟩
theorem shasParts_results : Try.f7.resultTypes = #[4] := by kernel_rfl

set_option maxRecDepth 100000 in
theorem shasParts_lifted (os : Os) (started : os.Started) (H : Type) (enc : TypeId × Value → H) :
    ReturnsInHanded {} Try.checked os 7 .any (Rows.shasPartsSpec.pre6 enc Try.prog Try.f7 Rows.shasPartsRow.domain false) (Rows.shasPartsSpec.post enc Try.prog Try.f7 false true false false) := by
  refine returnsInHanded_of_change_sized (C := Try.checked) shasParts_own started (by kernel_rfl) Try.func7
    (ChangeSpec.witness6 (enc := enc) (C := Try.checked) false ⟨#[], #[.slice none 0 0], []⟩ 8 (by kernel_rfl) (by kernel_rfl) (by kernel_rfl) (by kernel_rfl)) ?_
  intro W base args ds gs before hval0 hW _ hsize0 _
  have hval : ∀ (j : Nat) t v, Try.f7.params[j]? = some t → args[j]? = some v → Value.okWide Try.prog W .any base t v := hval0
  have hW' := hW
  obtain ⟨p, q, hA0, hV, rfl, hfz, _⟩ := hW
  have hA : DataW.TrodAll enc Try.prog W 0 (fun _ => true) true Try.f7.params.toList args.toList ds p := hA0
  have hsize : (DataW.weightsEach Try.prog (Try.f7.params.toList ++ Rows.shasPartsSpec.plain.varTypes Try.prog) (ds ++ gs)).all (· ≤ reachBytes) = true := hsize0
  clear hA0 hval0 hsize0
  rw [Try.params7] at hA hval hsize
  obtain ⟨v0, d0, rfl, rfl, h0⟩ := trodAll_one hA
  obtain ⟨rfl, rfl⟩ := trodVars_none hV
  simp only [List.append_nil] at hfz
  refine (parts_law enc W base v0 (hval 0 _ v0 rfl rfl) h0 hsize hfz).mono fun e W' ⟨he, hb⟩ => ?_
  exact ⟨_, he, law_post (bt := 4) hW' rfl rfl shasParts_results Try.underlying4 shasParts_laid shasParts_kinds hb⟩

theorem ShasParts_holds : Rows.ShasPartsSaid :=
  OpenClaim.holds_of_wide 7 Try.f7 rfl rfl rfl rfl rfl rfl rfl ⟨rfl, rfl, rfl, rfl, rfl⟩ rfl rfl rfl rfl rfl (by kernel_rfl) Try.func7 (by kernel_rfl)
    (of_decide_eq_true (by kernel_rfl)) (by unfold Func.isWrapper; first | (rw [if_pos (by decide +kernel)]; kernel_rfl) | (rw [if_neg (by decide +kernel)]; exact ⟨rfl, rfl⟩))
    (fun os started H enc _ => shasParts_lifted os started H enc)

end Go.Proofs.Ytajbbajdglnecaa
