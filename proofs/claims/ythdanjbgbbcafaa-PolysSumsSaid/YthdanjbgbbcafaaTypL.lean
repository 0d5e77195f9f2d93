/- Regions that store late, with values of which a property is told. -/
import Derived.Test.YthdanjbgbbcafaaPolyF
namespace Go.Proofs.Ythdanjbgbbcafaa
open Go Go.RowKit
section
variable {P : Program} {ops : Array Oper} {rows : List Nat} {effs : List Eff} {base : World} {f : Array Value} {F : List (Tmp × Slot) → Prop} {o : Oper} {rest : List Oper} {u : List (Tmp × Slot)} {i : Nat}
theorem kindsR_like (V : Value → World → Prop) (hV : ∀ v w w', V v w → But rows w w' → V v w') (hg : o.guard = none) (hn : noEff effs i = true) (h : ∀ (ρ : Operand → Value) (w : World) (K : Value → World → Prop), But rows base w → fitsA u f o.op.operands.toList ρ w → (∀ v w', Grows w w' → V v w' → K v w') → gives P o ρ w K)
    (hr : wpTypAR P ops rows effs base f F (i + 1) rest (pushSlot u o.dst (.like V))) : wpTypAR P ops rows effs base f F i (o :: rest) u :=
  ⟨.like V, hV, by unfold OblAR; rw [hg]; exact fun ρ w K hw _ hf hK => h ρ w K hw hf (fun v w' hg' hv => hK v w' (But.of_grows hg') (.inr ⟨noEff_spec hn, hg'⟩) hv), hr⟩
theorem kindsR_move (t : Tmp) (S : Slot) (hg : o.guard = none) (hn : noEff effs i = true) (ho : o.op = .move (.tmp t) ∨ o.op = .assign (.tmp t)) (hl : look u f t = S) (hS : S.stableR rows)
    (hr : wpTypAR P ops rows effs base f F (i + 1) rest (pushSlot u o.dst S)) : wpTypAR P ops rows effs base f F i (o :: rest) u := by
  refine ⟨S, hS, ?_, hr⟩
  unfold OblAR
  rw [hg]
  intro ρ w K _ _ hf hK
  have hs : S.holds (ρ (.tmp t)) w := by
    rcases ho with ho | ho
    · rw [ho] at hf
      have h1 : (look u f t).holds (ρ (.tmp t)) w := hf.1
      rwa [hl] at h1
    · rw [ho] at hf
      have h1 : (look u f t).holds (ρ (.tmp t)) w := hf.1
      rwa [hl] at h1
  unfold gives execOp
  rcases ho with ho | ho <;> simp only [ho] <;> exact hK _ _ (But.refl _ w) (.inr ⟨noEff_spec hn, Grows.refl w⟩) hs
end
end Go.Proofs.Ythdanjbgbbcafaa
