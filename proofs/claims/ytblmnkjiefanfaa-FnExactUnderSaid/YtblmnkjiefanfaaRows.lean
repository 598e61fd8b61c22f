/-
  No cell of these rows narrows 'for every input' (looked for: loops, veiled, ifaces, maps, wideKeys, modest, calm, conditions, laid).
  DERIVED. THE GIVEN ROWS OF THIS SEAT. 12 by the template 'for every input the law returns true; each argument reads behind the call as it read before'; 0 by the template 'total and deterministic' (their statements: YtblmnkjiefanfaaTotals.lean).
  GIVEN WITH THE SEED: the statements are not yours to turn. If you find one false, say at which input.
  Laid BY PROGRAM, IN A SANDBOX (cutbox-rows.mjs): the forced cells as the released guide's own fill.sh prints them over the translation 51a088c361b4b228… (all of the seat's roots in one cut). By AI agents, Wed Nov 11 2026. No macro, syntax, notation, axiom, sorry.
-/
import Derived.Test.YtblmnkjiefanfaaChecked
import GoSem.Claim
import GoSem.ClaimJoined
import GoSem.ClaimMapViews
import Derived.JoinedTies
import Derived.KernelRfl
namespace Go.Proofs.Ytblmnkjiefanfaa
/- THE CELL 'sum', in the pinned program and in every row, IS THE sha256 OF THE DUMP (.gsa) THAT YtblmnkjiefanfaaProg.lean LOADS. Nothing in Lean hashes anything: it is a label: what it is worth is what the hold of that sum in a sandbox is worth. -/
noncomputable def Try.pinned : Pinned := { name := "ytblmnkjiefanfaa", sum := "51a088c361b4b2288c053dc26b51e260cf56b5adf01f8f5e7b683852aea1bd25", checked := Try.checked }
namespace Rows
def none {H : Type} : Left H := { results := [], args := [] }

/-- 'laws.FnExactConstants': WHATEVER THE INPUT: true; the input reads as it did. -/
def fnExactConstantsSpec : ChangeSpec := { name := "fnExactConstants", fn := fun _ => fun
  | [] => { results := [.lit (.bool true)], args := [] }
  | _ => none }
def fnExactConstantsRow : OpenClaim := { program := "ytblmnkjiefanfaa", sum := "51a088c361b4b2288c053dc26b51e260cf56b5adf01f8f5e7b683852aea1bd25", func := "loop.example/g00422/laws.FnExactConstants", spec := "fnExactConstants", apart := false }
def FnExactConstantsSaid : Prop := fnExactConstantsRow.holds Try.pinned (OpenSpec.ofChange fnExactConstantsSpec)

/-- ITS FALSE NEIGHBOUR: 'it returns false'. Refute it at one input. -/
def fnExactConstantsWrong : ChangeSpec := { name := "fnExactConstants", fn := fun _ => fun
  | [] => { results := [.lit (.bool false)], args := [] }
  | _ => none }
def FnExactConstantsWrongFalsely : Prop := fnExactConstantsRow.holds Try.pinned (OpenSpec.ofChange fnExactConstantsWrong)

/-- 'laws.FnExactTypeOk': WHATEVER THE INPUT: true; the input reads as it did. -/
def fnExactTypeOkSpec : ChangeSpec := { name := "fnExactTypeOk", fn := fun _ => fun
  | [d] => { results := [.lit (.bool true)], args := [d] }
  | _ => none }
def fnExactTypeOkRow : OpenClaim := { program := "ytblmnkjiefanfaa", sum := "51a088c361b4b2288c053dc26b51e260cf56b5adf01f8f5e7b683852aea1bd25", func := "loop.example/g00422/laws.FnExactTypeOk", spec := "fnExactTypeOk", apart := false }
def FnExactTypeOkSaid : Prop := fnExactTypeOkRow.holds Try.pinned (OpenSpec.ofChange fnExactTypeOkSpec)

/-- ITS FALSE NEIGHBOUR: 'it returns false'. Refute it at one input. -/
def fnExactTypeOkWrong : ChangeSpec := { name := "fnExactTypeOk", fn := fun _ => fun
  | [d] => { results := [.lit (.bool false)], args := [d] }
  | _ => none }
def FnExactTypeOkWrongFalsely : Prop := fnExactTypeOkRow.holds Try.pinned (OpenSpec.ofChange fnExactTypeOkWrong)

/-- 'laws.FnExactGet16': WHATEVER THE INPUT: true; the input reads as it did. -/
def fnExactGet16Spec : ChangeSpec := { name := "fnExactGet16", fn := fun _ => fun
  | [d1, d2] => { results := [.lit (.bool true)], args := [d1, d2] }
  | _ => none }
def fnExactGet16Row : OpenClaim := { program := "ytblmnkjiefanfaa", sum := "51a088c361b4b2288c053dc26b51e260cf56b5adf01f8f5e7b683852aea1bd25", func := "loop.example/g00422/laws.FnExactGet16", spec := "fnExactGet16", apart := false }
def FnExactGet16Said : Prop := fnExactGet16Row.holds Try.pinned (OpenSpec.ofChange fnExactGet16Spec)

/-- ITS FALSE NEIGHBOUR: 'it returns false'. Refute it at one input. -/
def fnExactGet16Wrong : ChangeSpec := { name := "fnExactGet16", fn := fun _ => fun
  | [d1, d2] => { results := [.lit (.bool false)], args := [d1, d2] }
  | _ => none }
def FnExactGet16WrongFalsely : Prop := fnExactGet16Row.holds Try.pinned (OpenSpec.ofChange fnExactGet16Wrong)

/-- 'laws.FnExactGet32': WHATEVER THE INPUT: true; the input reads as it did. -/
def fnExactGet32Spec : ChangeSpec := { name := "fnExactGet32", fn := fun _ => fun
  | [d1, d2] => { results := [.lit (.bool true)], args := [d1, d2] }
  | _ => none }
def fnExactGet32Row : OpenClaim := { program := "ytblmnkjiefanfaa", sum := "51a088c361b4b2288c053dc26b51e260cf56b5adf01f8f5e7b683852aea1bd25", func := "loop.example/g00422/laws.FnExactGet32", spec := "fnExactGet32", apart := false }
def FnExactGet32Said : Prop := fnExactGet32Row.holds Try.pinned (OpenSpec.ofChange fnExactGet32Spec)

/-- ITS FALSE NEIGHBOUR: 'it returns false'. Refute it at one input. -/
def fnExactGet32Wrong : ChangeSpec := { name := "fnExactGet32", fn := fun _ => fun
  | [d1, d2] => { results := [.lit (.bool false)], args := [d1, d2] }
  | _ => none }
def FnExactGet32WrongFalsely : Prop := fnExactGet32Row.holds Try.pinned (OpenSpec.ofChange fnExactGet32Wrong)

/-- 'laws.FnExactLabelOk': WHATEVER THE INPUT: true; the input reads as it did. -/
def fnExactLabelOkSpec : ChangeSpec := { name := "fnExactLabelOk", fn := fun _ => fun
  | [d] => { results := [.lit (.bool true)], args := [d] }
  | _ => none }
def fnExactLabelOkRow : OpenClaim := { program := "ytblmnkjiefanfaa", sum := "51a088c361b4b2288c053dc26b51e260cf56b5adf01f8f5e7b683852aea1bd25", func := "loop.example/g00422/laws.FnExactLabelOk", spec := "fnExactLabelOk", unfollowed := true, recurses := true, apart := false }
def FnExactLabelOkSaid : Prop := fnExactLabelOkRow.holds Try.pinned (OpenSpec.ofChange fnExactLabelOkSpec)

/-- ITS FALSE NEIGHBOUR: 'it returns false'. Refute it at one input. -/
def fnExactLabelOkWrong : ChangeSpec := { name := "fnExactLabelOk", fn := fun _ => fun
  | [d] => { results := [.lit (.bool false)], args := [d] }
  | _ => none }
def FnExactLabelOkWrongFalsely : Prop := fnExactLabelOkRow.holds Try.pinned (OpenSpec.ofChange fnExactLabelOkWrong)

/-- 'laws.FnExactTake': WHATEVER THE INPUT: true; the input reads as it did. -/
def fnExactTakeSpec : ChangeSpec := { name := "fnExactTake", fn := fun _ => fun
  | [d1, d2, d3] => { results := [.lit (.bool true)], args := [d1, d2, d3] }
  | _ => none }
def fnExactTakeRow : OpenClaim := { program := "ytblmnkjiefanfaa", sum := "51a088c361b4b2288c053dc26b51e260cf56b5adf01f8f5e7b683852aea1bd25", func := "loop.example/g00422/laws.FnExactTake", spec := "fnExactTake", apart := false }
def FnExactTakeSaid : Prop := fnExactTakeRow.holds Try.pinned (OpenSpec.ofChange fnExactTakeSpec)

/-- ITS FALSE NEIGHBOUR: 'it returns false'. Refute it at one input. -/
def fnExactTakeWrong : ChangeSpec := { name := "fnExactTake", fn := fun _ => fun
  | [d1, d2, d3] => { results := [.lit (.bool false)], args := [d1, d2, d3] }
  | _ => none }
def FnExactTakeWrongFalsely : Prop := fnExactTakeRow.holds Try.pinned (OpenSpec.ofChange fnExactTakeWrong)

/-- 'laws.FnExactLower': WHATEVER THE INPUT: true; the input reads as it did. -/
def fnExactLowerSpec : ChangeSpec := { name := "fnExactLower", fn := fun _ => fun
  | [d] => { results := [.lit (.bool true)], args := [d] }
  | _ => none }
def fnExactLowerRow : OpenClaim := { program := "ytblmnkjiefanfaa", sum := "51a088c361b4b2288c053dc26b51e260cf56b5adf01f8f5e7b683852aea1bd25", func := "loop.example/g00422/laws.FnExactLower", spec := "fnExactLower", apart := false }
def FnExactLowerSaid : Prop := fnExactLowerRow.holds Try.pinned (OpenSpec.ofChange fnExactLowerSpec)

/-- ITS FALSE NEIGHBOUR: 'it returns false'. Refute it at one input. -/
def fnExactLowerWrong : ChangeSpec := { name := "fnExactLower", fn := fun _ => fun
  | [d] => { results := [.lit (.bool false)], args := [d] }
  | _ => none }
def FnExactLowerWrongFalsely : Prop := fnExactLowerRow.holds Try.pinned (OpenSpec.ofChange fnExactLowerWrong)

/-- 'laws.FnExactPut16': WHATEVER THE INPUT: true; the input reads as it did. -/
def fnExactPut16Spec : ChangeSpec := { name := "fnExactPut16", fn := fun _ => fun
  | [d1, d2] => { results := [.lit (.bool true)], args := [d1, d2] }
  | _ => none }
def fnExactPut16Row : OpenClaim := { program := "ytblmnkjiefanfaa", sum := "51a088c361b4b2288c053dc26b51e260cf56b5adf01f8f5e7b683852aea1bd25", func := "loop.example/g00422/laws.FnExactPut16", spec := "fnExactPut16", apart := false }
def FnExactPut16Said : Prop := fnExactPut16Row.holds Try.pinned (OpenSpec.ofChange fnExactPut16Spec)

/-- ITS FALSE NEIGHBOUR: 'it returns false'. Refute it at one input. -/
def fnExactPut16Wrong : ChangeSpec := { name := "fnExactPut16", fn := fun _ => fun
  | [d1, d2] => { results := [.lit (.bool false)], args := [d1, d2] }
  | _ => none }
def FnExactPut16WrongFalsely : Prop := fnExactPut16Row.holds Try.pinned (OpenSpec.ofChange fnExactPut16Wrong)

/-- 'laws.FnExactPut32': WHATEVER THE INPUT: true; the input reads as it did. -/
def fnExactPut32Spec : ChangeSpec := { name := "fnExactPut32", fn := fun _ => fun
  | [d1, d2] => { results := [.lit (.bool true)], args := [d1, d2] }
  | _ => none }
def fnExactPut32Row : OpenClaim := { program := "ytblmnkjiefanfaa", sum := "51a088c361b4b2288c053dc26b51e260cf56b5adf01f8f5e7b683852aea1bd25", func := "loop.example/g00422/laws.FnExactPut32", spec := "fnExactPut32", apart := false }
def FnExactPut32Said : Prop := fnExactPut32Row.holds Try.pinned (OpenSpec.ofChange fnExactPut32Spec)

/-- ITS FALSE NEIGHBOUR: 'it returns false'. Refute it at one input. -/
def fnExactPut32Wrong : ChangeSpec := { name := "fnExactPut32", fn := fun _ => fun
  | [d1, d2] => { results := [.lit (.bool false)], args := [d1, d2] }
  | _ => none }
def FnExactPut32WrongFalsely : Prop := fnExactPut32Row.holds Try.pinned (OpenSpec.ofChange fnExactPut32Wrong)

/-- 'laws.FnExactNameOk': WHATEVER THE INPUT: true; the input reads as it did. -/
def fnExactNameOkSpec : ChangeSpec := { name := "fnExactNameOk", fn := fun _ => fun
  | [d] => { results := [.lit (.bool true)], args := [d] }
  | _ => none }
def fnExactNameOkRow : OpenClaim := { program := "ytblmnkjiefanfaa", sum := "51a088c361b4b2288c053dc26b51e260cf56b5adf01f8f5e7b683852aea1bd25", func := "loop.example/g00422/laws.FnExactNameOk", spec := "fnExactNameOk", unfollowed := true, recurses := true, apart := false }
def FnExactNameOkSaid : Prop := fnExactNameOkRow.holds Try.pinned (OpenSpec.ofChange fnExactNameOkSpec)

/-- ITS FALSE NEIGHBOUR: 'it returns false'. Refute it at one input. -/
def fnExactNameOkWrong : ChangeSpec := { name := "fnExactNameOk", fn := fun _ => fun
  | [d] => { results := [.lit (.bool false)], args := [d] }
  | _ => none }
def FnExactNameOkWrongFalsely : Prop := fnExactNameOkRow.holds Try.pinned (OpenSpec.ofChange fnExactNameOkWrong)

/-- 'laws.FnExactUnder': WHATEVER THE INPUT: true; the input reads as it did. -/
def fnExactUnderSpec : ChangeSpec := { name := "fnExactUnder", fn := fun _ => fun
  | [d1, d2] => { results := [.lit (.bool true)], args := [d1, d2] }
  | _ => none }
def fnExactUnderRow : OpenClaim := { program := "ytblmnkjiefanfaa", sum := "51a088c361b4b2288c053dc26b51e260cf56b5adf01f8f5e7b683852aea1bd25", func := "loop.example/g00422/laws.FnExactUnder", spec := "fnExactUnder", unfollowed := true, recurses := true, apart := false }
def FnExactUnderSaid : Prop := fnExactUnderRow.holds Try.pinned (OpenSpec.ofChange fnExactUnderSpec)

/-- ITS FALSE NEIGHBOUR: 'it returns false'. Refute it at one input. -/
def fnExactUnderWrong : ChangeSpec := { name := "fnExactUnder", fn := fun _ => fun
  | [d1, d2] => { results := [.lit (.bool false)], args := [d1, d2] }
  | _ => none }
def FnExactUnderWrongFalsely : Prop := fnExactUnderRow.holds Try.pinned (OpenSpec.ofChange fnExactUnderWrong)

/-- 'laws.FnExactNameText': WHATEVER THE INPUT: true; the input reads as it did. -/
def fnExactNameTextSpec : ChangeSpec := { name := "fnExactNameText", fn := fun _ => fun
  | [d] => { results := [.lit (.bool true)], args := [d] }
  | _ => none }
def fnExactNameTextRow : OpenClaim := { program := "ytblmnkjiefanfaa", sum := "51a088c361b4b2288c053dc26b51e260cf56b5adf01f8f5e7b683852aea1bd25", func := "loop.example/g00422/laws.FnExactNameText", spec := "fnExactNameText", unfollowed := true, recurses := true, apart := false }
def FnExactNameTextSaid : Prop := fnExactNameTextRow.holds Try.pinned (OpenSpec.ofChange fnExactNameTextSpec)

/-- ITS FALSE NEIGHBOUR: 'it returns false'. Refute it at one input. -/
def fnExactNameTextWrong : ChangeSpec := { name := "fnExactNameText", fn := fun _ => fun
  | [d] => { results := [.lit (.bool false)], args := [d] }
  | _ => none }
def FnExactNameTextWrongFalsely : Prop := fnExactNameTextRow.holds Try.pinned (OpenSpec.ofChange fnExactNameTextWrong)

/- THE SECOND FORM. 'bulk': how many values and letters a reading holds, each counted each time it is reached (what is shared counts as often as it is met; a slice's spare places count too). A statement '..UptoSaid' is the law's where the arguments, and the package variables that the reading takes, are together of bulk at most 1048576: NARROWER than '..Said'. Prove '..Said' where nothing that the law and all that it calls make is longer than what came in: it says more and counts as full. Else prove '..UptoSaid'. A law counts once. -/
mutual
def uptoBulk {H : Type} : DataW H → Nat
  | .lit (.string bytes) => bytes.length + 1
  | .lit _ => 1
  | .nil => 1
  | .ptr d => uptoBulk d + 1
  | .slice elems spare => uptoBulkAll elems + uptoBulkAll spare + 1
  | .agg parts => uptoBulkAll parts + 1
  | .iface _ d => uptoBulk d + 1
  | .map entries => uptoBulkEntries entries + 1
  | .held _ => 1
def uptoBulkAll {H : Type} : List (DataW H) → Nat
  | [] => 0
  | d :: r => uptoBulk d + uptoBulkAll r
def uptoBulkEntries {H : Type} : List (Lit × DataW H) → Nat
  | [] => 0
  | x :: r => uptoBulkEntry x + uptoBulkEntries r
def uptoBulkEntry {H : Type} : Lit × DataW H → Nat
  | (.string bytes, d) => bytes.length + uptoBulk d + 1
  | (_, d) => uptoBulk d + 1
 end
def uptoSmall : (H : Type) → List (DataW H) → Bool := fun _ ds => decide (uptoBulkAll ds ≤ 1048576)
def OpenSpec.upto (s : _root_.Go.ChangeSpec) : _root_.Go.OpenSpec := { _root_.Go.OpenSpec.ofChange s with cond := some uptoSmall }

/-- 'laws.FnExactConstants', WHERE WHAT IT READS IS OF BULK AT MOST 1048576: true; the input reads as it did. -/
def fnExactConstantsUptoRow : OpenClaim := { program := "ytblmnkjiefanfaa", sum := "51a088c361b4b2288c053dc26b51e260cf56b5adf01f8f5e7b683852aea1bd25", func := "loop.example/g00422/laws.FnExactConstants", spec := "fnExactConstants", apart := false, narrowed := true }
def FnExactConstantsUptoSaid : Prop := fnExactConstantsUptoRow.holds Try.pinned (OpenSpec.upto fnExactConstantsSpec)

/-- 'laws.FnExactTypeOk', WHERE WHAT IT READS IS OF BULK AT MOST 1048576: true; the input reads as it did. -/
def fnExactTypeOkUptoRow : OpenClaim := { program := "ytblmnkjiefanfaa", sum := "51a088c361b4b2288c053dc26b51e260cf56b5adf01f8f5e7b683852aea1bd25", func := "loop.example/g00422/laws.FnExactTypeOk", spec := "fnExactTypeOk", apart := false, narrowed := true }
def FnExactTypeOkUptoSaid : Prop := fnExactTypeOkUptoRow.holds Try.pinned (OpenSpec.upto fnExactTypeOkSpec)

/-- 'laws.FnExactGet16', WHERE WHAT IT READS IS OF BULK AT MOST 1048576: true; the input reads as it did. -/
def fnExactGet16UptoRow : OpenClaim := { program := "ytblmnkjiefanfaa", sum := "51a088c361b4b2288c053dc26b51e260cf56b5adf01f8f5e7b683852aea1bd25", func := "loop.example/g00422/laws.FnExactGet16", spec := "fnExactGet16", apart := false, narrowed := true }
def FnExactGet16UptoSaid : Prop := fnExactGet16UptoRow.holds Try.pinned (OpenSpec.upto fnExactGet16Spec)

/-- 'laws.FnExactGet32', WHERE WHAT IT READS IS OF BULK AT MOST 1048576: true; the input reads as it did. -/
def fnExactGet32UptoRow : OpenClaim := { program := "ytblmnkjiefanfaa", sum := "51a088c361b4b2288c053dc26b51e260cf56b5adf01f8f5e7b683852aea1bd25", func := "loop.example/g00422/laws.FnExactGet32", spec := "fnExactGet32", apart := false, narrowed := true }
def FnExactGet32UptoSaid : Prop := fnExactGet32UptoRow.holds Try.pinned (OpenSpec.upto fnExactGet32Spec)

/-- 'laws.FnExactLabelOk', WHERE WHAT IT READS IS OF BULK AT MOST 1048576: true; the input reads as it did. -/
def fnExactLabelOkUptoRow : OpenClaim := { program := "ytblmnkjiefanfaa", sum := "51a088c361b4b2288c053dc26b51e260cf56b5adf01f8f5e7b683852aea1bd25", func := "loop.example/g00422/laws.FnExactLabelOk", spec := "fnExactLabelOk", unfollowed := true, recurses := true, apart := false, narrowed := true }
def FnExactLabelOkUptoSaid : Prop := fnExactLabelOkUptoRow.holds Try.pinned (OpenSpec.upto fnExactLabelOkSpec)

/-- 'laws.FnExactTake', WHERE WHAT IT READS IS OF BULK AT MOST 1048576: true; the input reads as it did. -/
def fnExactTakeUptoRow : OpenClaim := { program := "ytblmnkjiefanfaa", sum := "51a088c361b4b2288c053dc26b51e260cf56b5adf01f8f5e7b683852aea1bd25", func := "loop.example/g00422/laws.FnExactTake", spec := "fnExactTake", apart := false, narrowed := true }
def FnExactTakeUptoSaid : Prop := fnExactTakeUptoRow.holds Try.pinned (OpenSpec.upto fnExactTakeSpec)

/-- 'laws.FnExactLower', WHERE WHAT IT READS IS OF BULK AT MOST 1048576: true; the input reads as it did. -/
def fnExactLowerUptoRow : OpenClaim := { program := "ytblmnkjiefanfaa", sum := "51a088c361b4b2288c053dc26b51e260cf56b5adf01f8f5e7b683852aea1bd25", func := "loop.example/g00422/laws.FnExactLower", spec := "fnExactLower", apart := false, narrowed := true }
def FnExactLowerUptoSaid : Prop := fnExactLowerUptoRow.holds Try.pinned (OpenSpec.upto fnExactLowerSpec)

/-- 'laws.FnExactPut16', WHERE WHAT IT READS IS OF BULK AT MOST 1048576: true; the input reads as it did. -/
def fnExactPut16UptoRow : OpenClaim := { program := "ytblmnkjiefanfaa", sum := "51a088c361b4b2288c053dc26b51e260cf56b5adf01f8f5e7b683852aea1bd25", func := "loop.example/g00422/laws.FnExactPut16", spec := "fnExactPut16", apart := false, narrowed := true }
def FnExactPut16UptoSaid : Prop := fnExactPut16UptoRow.holds Try.pinned (OpenSpec.upto fnExactPut16Spec)

/-- 'laws.FnExactPut32', WHERE WHAT IT READS IS OF BULK AT MOST 1048576: true; the input reads as it did. -/
def fnExactPut32UptoRow : OpenClaim := { program := "ytblmnkjiefanfaa", sum := "51a088c361b4b2288c053dc26b51e260cf56b5adf01f8f5e7b683852aea1bd25", func := "loop.example/g00422/laws.FnExactPut32", spec := "fnExactPut32", apart := false, narrowed := true }
def FnExactPut32UptoSaid : Prop := fnExactPut32UptoRow.holds Try.pinned (OpenSpec.upto fnExactPut32Spec)

/-- 'laws.FnExactNameOk', WHERE WHAT IT READS IS OF BULK AT MOST 1048576: true; the input reads as it did. -/
def fnExactNameOkUptoRow : OpenClaim := { program := "ytblmnkjiefanfaa", sum := "51a088c361b4b2288c053dc26b51e260cf56b5adf01f8f5e7b683852aea1bd25", func := "loop.example/g00422/laws.FnExactNameOk", spec := "fnExactNameOk", unfollowed := true, recurses := true, apart := false, narrowed := true }
def FnExactNameOkUptoSaid : Prop := fnExactNameOkUptoRow.holds Try.pinned (OpenSpec.upto fnExactNameOkSpec)

/-- 'laws.FnExactUnder', WHERE WHAT IT READS IS OF BULK AT MOST 1048576: true; the input reads as it did. -/
def fnExactUnderUptoRow : OpenClaim := { program := "ytblmnkjiefanfaa", sum := "51a088c361b4b2288c053dc26b51e260cf56b5adf01f8f5e7b683852aea1bd25", func := "loop.example/g00422/laws.FnExactUnder", spec := "fnExactUnder", unfollowed := true, recurses := true, apart := false, narrowed := true }
def FnExactUnderUptoSaid : Prop := fnExactUnderUptoRow.holds Try.pinned (OpenSpec.upto fnExactUnderSpec)

/-- 'laws.FnExactNameText', WHERE WHAT IT READS IS OF BULK AT MOST 1048576: true; the input reads as it did. -/
def fnExactNameTextUptoRow : OpenClaim := { program := "ytblmnkjiefanfaa", sum := "51a088c361b4b2288c053dc26b51e260cf56b5adf01f8f5e7b683852aea1bd25", func := "loop.example/g00422/laws.FnExactNameText", spec := "fnExactNameText", unfollowed := true, recurses := true, apart := false, narrowed := true }
def FnExactNameTextUptoSaid : Prop := fnExactNameTextUptoRow.holds Try.pinned (OpenSpec.upto fnExactNameTextSpec)

end Rows
end Go.Proofs.Ytblmnkjiefanfaa
