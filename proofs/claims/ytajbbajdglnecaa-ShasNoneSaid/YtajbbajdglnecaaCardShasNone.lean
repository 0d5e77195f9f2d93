/- ShasNone: whatever the bytes, it answers true and leaves all memory as it was; no condition. -/
import Derived.Test.YtajbbajdglnecaaRows
import Derived.Test.YtajbbajdglnecaaShaNone
import Derived.ProofKit
namespace Go.Proofs.Ytajbbajdglnecaa
open Go Go.ChangeShapes Go.WideShapes Go.ChangeAt Go.RowKit

theorem shasNone_own : ownKnob Try.prog.godebug = none := by kernel_rfl
theorem shasNone_laid : laidOutB Try.prog = true := by kernel_rfl
theorem shasNone_kinds : ∀ t ∈ Try.f5.params.toList, Try.prog.readableRec t = true ∧ t < Try.prog.types.size := by
  rw [Try.params5]
  intro t ht
  simp only [List.mem_cons, List.not_mem_nil, or_false] at ht
  obtain rfl := ht
  all_goals exact ⟨by kernel_rfl, of_decide_eq_true (by kernel_rfl)⟩
theorem shasNone_results : Try.f5.resultTypes = #[4] := by kernel_rfl

set_option maxRecDepth 100000 in
theorem shasNone_lifted (os : Os) (started : os.Started) (H : Type) (enc : TypeId × Value → H) :
    ReturnsInHanded {} Try.checked os 5 .any (Rows.shasNoneSpec.pre6 enc Try.prog Try.f5 Rows.shasNoneRow.domain false) (Rows.shasNoneSpec.post enc Try.prog Try.f5 false true false false) := by
  refine returnsInHanded_of_change_sized (C := Try.checked) shasNone_own started (by kernel_rfl) Try.func5
    (ChangeSpec.witness6 (enc := enc) (C := Try.checked) false ⟨#[], #[.slice none 0 0], []⟩ 8 (by kernel_rfl) (by kernel_rfl) (by kernel_rfl) (by kernel_rfl)) ?_
  intro W base args ds gs before hval0 hW _ hsize0 _
  have hval : ∀ (j : Nat) t v, Try.f5.params[j]? = some t → args[j]? = some v → Value.okWide Try.prog W .any base t v := hval0
  have hW' := hW
  obtain ⟨p, q, hA0, hV, rfl, hfz, _⟩ := hW
  have hA : DataW.TrodAll enc Try.prog W 0 (fun _ => true) true Try.f5.params.toList args.toList ds p := hA0
  have hsize : (DataW.weightsEach Try.prog (Try.f5.params.toList ++ Rows.shasNoneSpec.plain.varTypes Try.prog) (ds ++ gs)).all (· ≤ reachBytes) = true := hsize0
  clear hA0 hval0 hsize0
  rw [Try.params5] at hA hval hsize
  obtain ⟨v0, d0, rfl, rfl, h0⟩ := trodAll_one hA
  obtain ⟨rfl, rfl⟩ := trodVars_none hV
  simp only [List.append_nil] at hfz
  refine (none_law enc W base v0 (hval 0 _ v0 rfl rfl) h0 hsize hfz).mono fun e W' ⟨he, hb⟩ => ?_
  exact ⟨_, he, law_post (bt := 4) hW' rfl rfl shasNone_results Try.underlying4 shasNone_laid shasNone_kinds hb⟩

theorem ShasNone_holds : Rows.ShasNoneSaid :=
  OpenClaim.holds_of_wide 5 Try.f5 rfl rfl rfl rfl rfl rfl rfl ⟨rfl, rfl, rfl, rfl, rfl⟩ rfl rfl rfl rfl rfl (by kernel_rfl) Try.func5 (by kernel_rfl)
    (of_decide_eq_true (by kernel_rfl)) (by unfold Func.isWrapper; first | (rw [if_pos (by decide +kernel)]; kernel_rfl) | (rw [if_neg (by decide +kernel)]; exact ⟨rfl, rfl⟩))
    (fun os started H enc _ => shasNone_lifted os started H enc)

end Go.Proofs.Ytajbbajdglnecaa
