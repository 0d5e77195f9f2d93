/-
  No cell of these rows narrows 'for every input' (looked for: loops, veiled, ifaces, maps, wideKeys, modest, calm, conditions, laid).
  DERIVED. THE GIVEN ROWS OF THIS SEAT. 7 by the template 'for every input the law returns true; each argument reads behind the call as it read before'; 0 by the template 'total and deterministic' (their statements: YtajbbajdglnecaaTotals.lean).
  GIVEN WITH THE SEED: the statements are not yours to turn. If you find one false, say at which input.
  Laid BY PROGRAM, IN A SANDBOX (cutbox-rows.mjs): the forced cells as the released guide's own fill.sh prints them over the translation 7e061aa04721a745… (all of the seat's roots in one cut). By AI agents, Wed Nov 11 2026. No macro, syntax, notation, axiom, sorry.
-/
import Derived.Test.YtajbbajdglnecaaChecked
import GoSem.Claim
import GoSem.ClaimJoined
import GoSem.ClaimMapViews
import Derived.JoinedTies
import Derived.KernelRfl
namespace Go.Proofs.Ytajbbajdglnecaa
/- THE CELL 'sum', in the pinned program and in every row, IS THE sha256 OF THE DUMP (.gsa) THAT YtajbbajdglnecaaProg.lean LOADS. Nothing in Lean hashes anything: it is a label: what it is worth is what the hold of that sum in a sandbox is worth. -/
noncomputable def Try.pinned : Pinned := { name := "ytajbbajdglnecaa", sum := "7e061aa04721a7451311aa9abe8aeaa96228f5194f8723623cf2760fc4169a74", checked := Try.checked }
namespace Rows
def none {H : Type} : Left H := { results := [], args := [] }

/-- 'balefirelaw20.LinksQuota': WHATEVER THE INPUT: true; the input reads as it did. -/
def linksQuotaSpec : ChangeSpec := { name := "linksQuota", fn := fun _ => fun
  | [d1, d2] => { results := [.lit (.bool true)], args := [d1, d2] }
  | _ => none }
def linksQuotaRow : OpenClaim := { program := "ytajbbajdglnecaa", sum := "7e061aa04721a7451311aa9abe8aeaa96228f5194f8723623cf2760fc4169a74", func := "balefire/balefirelaw20.LinksQuota", spec := "linksQuota", apart := false }
def LinksQuotaSaid : Prop := linksQuotaRow.holds Try.pinned (OpenSpec.ofChange linksQuotaSpec)

/-- ITS FALSE NEIGHBOUR: 'it returns false'. Refute it at one input. -/
def linksQuotaWrong : ChangeSpec := { name := "linksQuota", fn := fun _ => fun
  | [d1, d2] => { results := [.lit (.bool false)], args := [d1, d2] }
  | _ => none }
def LinksQuotaWrongFalsely : Prop := linksQuotaRow.holds Try.pinned (OpenSpec.ofChange linksQuotaWrong)

/-- 'balefirelaw20.LinksFair': WHATEVER THE INPUT: true; the input reads as it did. -/
def linksFairSpec : ChangeSpec := { name := "linksFair", fn := fun _ => fun
  | [d] => { results := [.lit (.bool true)], args := [d] }
  | _ => none }
def linksFairRow : OpenClaim := { program := "ytajbbajdglnecaa", sum := "7e061aa04721a7451311aa9abe8aeaa96228f5194f8723623cf2760fc4169a74", func := "balefire/balefirelaw20.LinksFair", spec := "linksFair", apart := false }
def LinksFairSaid : Prop := linksFairRow.holds Try.pinned (OpenSpec.ofChange linksFairSpec)

/-- ITS FALSE NEIGHBOUR: 'it returns false'. Refute it at one input. -/
def linksFairWrong : ChangeSpec := { name := "linksFair", fn := fun _ => fun
  | [d] => { results := [.lit (.bool false)], args := [d] }
  | _ => none }
def LinksFairWrongFalsely : Prop := linksFairRow.holds Try.pinned (OpenSpec.ofChange linksFairWrong)

/-- 'balefirelaw05.ShasNone': WHATEVER THE INPUT: true; the input reads as it did. -/
def shasNoneSpec : ChangeSpec := { name := "shasNone", fn := fun _ => fun
  | [d] => { results := [.lit (.bool true)], args := [d] }
  | _ => none }
def shasNoneRow : OpenClaim := { program := "ytajbbajdglnecaa", sum := "7e061aa04721a7451311aa9abe8aeaa96228f5194f8723623cf2760fc4169a74", func := "balefire/balefirelaw05.ShasNone", spec := "shasNone", apart := false }
def ShasNoneSaid : Prop := shasNoneRow.holds Try.pinned (OpenSpec.ofChange shasNoneSpec)

/-- ITS FALSE NEIGHBOUR: 'it returns false'. Refute it at one input. -/
def shasNoneWrong : ChangeSpec := { name := "shasNone", fn := fun _ => fun
  | [d] => { results := [.lit (.bool false)], args := [d] }
  | _ => none }
def ShasNoneWrongFalsely : Prop := shasNoneRow.holds Try.pinned (OpenSpec.ofChange shasNoneWrong)

/-- 'balefirelaw05.ShasOf': WHATEVER THE INPUT: true; the input reads as it did. -/
def shasOfSpec : ChangeSpec := { name := "shasOf", fn := fun _ => fun
  | [d] => { results := [.lit (.bool true)], args := [d] }
  | _ => none }
def shasOfRow : OpenClaim := { program := "ytajbbajdglnecaa", sum := "7e061aa04721a7451311aa9abe8aeaa96228f5194f8723623cf2760fc4169a74", func := "balefire/balefirelaw05.ShasOf", spec := "shasOf", apart := false }
def ShasOfSaid : Prop := shasOfRow.holds Try.pinned (OpenSpec.ofChange shasOfSpec)

/-- ITS FALSE NEIGHBOUR: 'it returns false'. Refute it at one input. -/
def shasOfWrong : ChangeSpec := { name := "shasOf", fn := fun _ => fun
  | [d] => { results := [.lit (.bool false)], args := [d] }
  | _ => none }
def ShasOfWrongFalsely : Prop := shasOfRow.holds Try.pinned (OpenSpec.ofChange shasOfWrong)

/-- 'balefirelaw05.ShasParts': WHATEVER THE INPUT: true; the input reads as it did. -/
def shasPartsSpec : ChangeSpec := { name := "shasParts", fn := fun _ => fun
  | [d] => { results := [.lit (.bool true)], args := [d] }
  | _ => none }
def shasPartsRow : OpenClaim := { program := "ytajbbajdglnecaa", sum := "7e061aa04721a7451311aa9abe8aeaa96228f5194f8723623cf2760fc4169a74", func := "balefire/balefirelaw05.ShasParts", spec := "shasParts", apart := false }
def ShasPartsSaid : Prop := shasPartsRow.holds Try.pinned (OpenSpec.ofChange shasPartsSpec)

/-- ITS FALSE NEIGHBOUR: 'it returns false'. Refute it at one input. -/
def shasPartsWrong : ChangeSpec := { name := "shasParts", fn := fun _ => fun
  | [d] => { results := [.lit (.bool false)], args := [d] }
  | _ => none }
def ShasPartsWrongFalsely : Prop := shasPartsRow.holds Try.pinned (OpenSpec.ofChange shasPartsWrong)

/-- 'balefirelaw05.ShasCut': WHATEVER THE INPUT: true; the input reads as it did. -/
def shasCutSpec : ChangeSpec := { name := "shasCut", fn := fun _ => fun
  | [d1, d2] => { results := [.lit (.bool true)], args := [d1, d2] }
  | _ => none }
def shasCutRow : OpenClaim := { program := "ytajbbajdglnecaa", sum := "7e061aa04721a7451311aa9abe8aeaa96228f5194f8723623cf2760fc4169a74", func := "balefire/balefirelaw05.ShasCut", spec := "shasCut", apart := false }
def ShasCutSaid : Prop := shasCutRow.holds Try.pinned (OpenSpec.ofChange shasCutSpec)

/-- ITS FALSE NEIGHBOUR: 'it returns false'. Refute it at one input. -/
def shasCutWrong : ChangeSpec := { name := "shasCut", fn := fun _ => fun
  | [d1, d2] => { results := [.lit (.bool false)], args := [d1, d2] }
  | _ => none }
def ShasCutWrongFalsely : Prop := shasCutRow.holds Try.pinned (OpenSpec.ofChange shasCutWrong)

/-- 'balefirelaw05.ShasTwo': WHATEVER THE INPUT: true; the input reads as it did. -/
def shasTwoSpec : ChangeSpec := { name := "shasTwo", fn := fun _ => fun
  | [d1, d2] => { results := [.lit (.bool true)], args := [d1, d2] }
  | _ => none }
def shasTwoRow : OpenClaim := { program := "ytajbbajdglnecaa", sum := "7e061aa04721a7451311aa9abe8aeaa96228f5194f8723623cf2760fc4169a74", func := "balefire/balefirelaw05.ShasTwo", spec := "shasTwo", apart := false }
def ShasTwoSaid : Prop := shasTwoRow.holds Try.pinned (OpenSpec.ofChange shasTwoSpec)

/-- ITS FALSE NEIGHBOUR: 'it returns false'. Refute it at one input. -/
def shasTwoWrong : ChangeSpec := { name := "shasTwo", fn := fun _ => fun
  | [d1, d2] => { results := [.lit (.bool false)], args := [d1, d2] }
  | _ => none }
def ShasTwoWrongFalsely : Prop := shasTwoRow.holds Try.pinned (OpenSpec.ofChange shasTwoWrong)

/- THE SECOND FORM. 'bulk': how many values and letters a reading holds, each counted each time it is reached (what is shared counts as often as it is met; a slice's spare places count too). A statement '..UptoSaid' is the law's where the arguments, and the package variables that the reading takes, are together of bulk at most 1048576: NARROWER than '..Said'. Prove '..Said' where nothing that the law and all that it calls make is longer than what came in: it says more and counts as full. Else prove '..UptoSaid'. A law counts once. -/
mutual
def uptoBulk {H : Type} : DataW H → Nat
  | .lit (.string bytes) => bytes.length + 1
  | .lit _ => 1
  | .nil => 1
  | .ptr d => uptoBulk d + 1
  | .slice elems spare => uptoBulkAll elems + uptoBulkAll spare + 1
  | .agg parts => uptoBulkAll parts + 1
  | .iface _ d => uptoBulk d + 1
  | .map entries => uptoBulkEntries entries + 1
  | .held _ => 1
def uptoBulkAll {H : Type} : List (DataW H) → Nat
  | [] => 0
  | d :: r => uptoBulk d + uptoBulkAll r
def uptoBulkEntries {H : Type} : List (Lit × DataW H) → Nat
  | [] => 0
  | x :: r => uptoBulkEntry x + uptoBulkEntries r
def uptoBulkEntry {H : Type} : Lit × DataW H → Nat
  | (.string bytes, d) => bytes.length + uptoBulk d + 1
  | (_, d) => uptoBulk d + 1
 end
def uptoSmall : (H : Type) → List (DataW H) → Bool := fun _ ds => decide (uptoBulkAll ds ≤ 1048576)
def OpenSpec.upto (s : _root_.Go.ChangeSpec) : _root_.Go.OpenSpec := { _root_.Go.OpenSpec.ofChange s with cond := some uptoSmall }

/-- 'balefirelaw20.LinksQuota', WHERE WHAT IT READS IS OF BULK AT MOST 1048576: true; the input reads as it did. -/
def linksQuotaUptoRow : OpenClaim := { program := "ytajbbajdglnecaa", sum := "7e061aa04721a7451311aa9abe8aeaa96228f5194f8723623cf2760fc4169a74", func := "balefire/balefirelaw20.LinksQuota", spec := "linksQuota", apart := false, narrowed := true }
def LinksQuotaUptoSaid : Prop := linksQuotaUptoRow.holds Try.pinned (OpenSpec.upto linksQuotaSpec)

/-- 'balefirelaw20.LinksFair', WHERE WHAT IT READS IS OF BULK AT MOST 1048576: true; the input reads as it did. -/
def linksFairUptoRow : OpenClaim := { program := "ytajbbajdglnecaa", sum := "7e061aa04721a7451311aa9abe8aeaa96228f5194f8723623cf2760fc4169a74", func := "balefire/balefirelaw20.LinksFair", spec := "linksFair", apart := false, narrowed := true }
def LinksFairUptoSaid : Prop := linksFairUptoRow.holds Try.pinned (OpenSpec.upto linksFairSpec)

/-- 'balefirelaw05.ShasNone', WHERE WHAT IT READS IS OF BULK AT MOST 1048576: true; the input reads as it did. -/
def shasNoneUptoRow : OpenClaim := { program := "ytajbbajdglnecaa", sum := "7e061aa04721a7451311aa9abe8aeaa96228f5194f8723623cf2760fc4169a74", func := "balefire/balefirelaw05.ShasNone", spec := "shasNone", apart := false, narrowed := true }
def ShasNoneUptoSaid : Prop := shasNoneUptoRow.holds Try.pinned (OpenSpec.upto shasNoneSpec)

/-- 'balefirelaw05.ShasOf', WHERE WHAT IT READS IS OF BULK AT MOST 1048576: true; the input reads as it did. -/
def shasOfUptoRow : OpenClaim := { program := "ytajbbajdglnecaa", sum := "7e061aa04721a7451311aa9abe8aeaa96228f5194f8723623cf2760fc4169a74", func := "balefire/balefirelaw05.ShasOf", spec := "shasOf", apart := false, narrowed := true }
def ShasOfUptoSaid : Prop := shasOfUptoRow.holds Try.pinned (OpenSpec.upto shasOfSpec)

/-- 'balefirelaw05.ShasParts', WHERE WHAT IT READS IS OF BULK AT MOST 1048576: true; the input reads as it did. -/
def shasPartsUptoRow : OpenClaim := { program := "ytajbbajdglnecaa", sum := "7e061aa04721a7451311aa9abe8aeaa96228f5194f8723623cf2760fc4169a74", func := "balefire/balefirelaw05.ShasParts", spec := "shasParts", apart := false, narrowed := true }
def ShasPartsUptoSaid : Prop := shasPartsUptoRow.holds Try.pinned (OpenSpec.upto shasPartsSpec)

/-- 'balefirelaw05.ShasCut', WHERE WHAT IT READS IS OF BULK AT MOST 1048576: true; the input reads as it did. -/
def shasCutUptoRow : OpenClaim := { program := "ytajbbajdglnecaa", sum := "7e061aa04721a7451311aa9abe8aeaa96228f5194f8723623cf2760fc4169a74", func := "balefire/balefirelaw05.ShasCut", spec := "shasCut", apart := false, narrowed := true }
def ShasCutUptoSaid : Prop := shasCutUptoRow.holds Try.pinned (OpenSpec.upto shasCutSpec)

/-- 'balefirelaw05.ShasTwo', WHERE WHAT IT READS IS OF BULK AT MOST 1048576: true; the input reads as it did. -/
def shasTwoUptoRow : OpenClaim := { program := "ytajbbajdglnecaa", sum := "7e061aa04721a7451311aa9abe8aeaa96228f5194f8723623cf2760fc4169a74", func := "balefire/balefirelaw05.ShasTwo", spec := "shasTwo", apart := false, narrowed := true }
def ShasTwoUptoSaid : Prop := shasTwoUptoRow.holds Try.pinned (OpenSpec.upto shasTwoSpec)

end Rows
end Go.Proofs.Ytajbbajdglnecaa
