/-
  No cell of these rows narrows 'for every input' (looked for: loops, veiled, ifaces, maps, wideKeys, modest, calm, conditions, laid).
  DERIVED. THE GIVEN ROWS OF THIS SEAT. 4 by the template 'for every input the law returns true; each argument reads behind the call as it read before'; 0 by the template 'total and deterministic' (their statements: YtkmchjdioplfjaaTotals.lean).
  GIVEN WITH THE SEED: the statements are not yours to turn. If you find one false, say at which input.
  Laid BY PROGRAM, IN A SANDBOX (cutbox-rows.mjs): the forced cells as the released guide's own fill.sh prints them over the translation 655d0259fcd442b5… (all of the seat's roots in one cut). By AI agents, Wed Nov 11 2026. No macro, syntax, notation, axiom, sorry.
-/
import Derived.Test.YtkmchjdioplfjaaChecked
import GoSem.Claim
import GoSem.ClaimJoined
import GoSem.ClaimMapViews
import Derived.JoinedTies
import Derived.KernelRfl
namespace Go.Proofs.Ytkmchjdioplfjaa
/- THE CELL 'sum', in the pinned program and in every row, IS THE sha256 OF THE DUMP (.gsa) THAT YtkmchjdioplfjaaProg.lean LOADS. Nothing in Lean hashes anything: it is a label: what it is worth is what the hold of that sum in a sandbox is worth. -/
noncomputable def Try.pinned : Pinned := { name := "ytkmchjdioplfjaa", sum := "655d0259fcd442b5a43f18157543e0015ac195215586698582ef2440ee34f6e1", checked := Try.checked }
namespace Rows
def none {H : Type} : Left H := { results := [], args := [] }

/-- 'laws.FnExactNameText': WHATEVER THE INPUT: true; the input reads as it did. -/
def fnExactNameTextSpec : ChangeSpec := { name := "fnExactNameText", fn := fun _ => fun
  | [d] => { results := [.lit (.bool true)], args := [d] }
  | _ => none }
def fnExactNameTextRow : OpenClaim := { program := "ytkmchjdioplfjaa", sum := "655d0259fcd442b5a43f18157543e0015ac195215586698582ef2440ee34f6e1", func := "loop.example/g00422/laws.FnExactNameText", spec := "fnExactNameText", unfollowed := true, recurses := true, apart := false }
def FnExactNameTextSaid : Prop := fnExactNameTextRow.holds Try.pinned (OpenSpec.ofChange fnExactNameTextSpec)

/-- ITS FALSE NEIGHBOUR: 'it returns false'. Refute it at one input. -/
def fnExactNameTextWrong : ChangeSpec := { name := "fnExactNameText", fn := fun _ => fun
  | [d] => { results := [.lit (.bool false)], args := [d] }
  | _ => none }
def FnExactNameTextWrongFalsely : Prop := fnExactNameTextRow.holds Try.pinned (OpenSpec.ofChange fnExactNameTextWrong)

/-- 'laws.FnExactSha256': WHATEVER THE INPUT: true; the input reads as it did. -/
def fnExactSha256Spec : ChangeSpec := { name := "fnExactSha256", fn := fun _ => fun
  | [d] => { results := [.lit (.bool true)], args := [d] }
  | _ => none }
def fnExactSha256Row : OpenClaim := { program := "ytkmchjdioplfjaa", sum := "655d0259fcd442b5a43f18157543e0015ac195215586698582ef2440ee34f6e1", func := "loop.example/g00422/laws.FnExactSha256", spec := "fnExactSha256", inPlace := ["math/bits.Add64"], unfollowed := true, recurses := true, apart := false }
def FnExactSha256Said : Prop := fnExactSha256Row.holds Try.pinned (OpenSpec.ofChange fnExactSha256Spec)

/-- ITS FALSE NEIGHBOUR: 'it returns false'. Refute it at one input. -/
def fnExactSha256Wrong : ChangeSpec := { name := "fnExactSha256", fn := fun _ => fun
  | [d] => { results := [.lit (.bool false)], args := [d] }
  | _ => none }
def FnExactSha256WrongFalsely : Prop := fnExactSha256Row.holds Try.pinned (OpenSpec.ofChange fnExactSha256Wrong)

/-- 'laws.FnExactDhcid': WHATEVER THE INPUT: true; the input reads as it did. -/
def fnExactDhcidSpec : ChangeSpec := { name := "fnExactDhcid", fn := fun _ => fun
  | [d1, d2] => { results := [.lit (.bool true)], args := [d1, d2] }
  | _ => none }
def fnExactDhcidRow : OpenClaim := { program := "ytkmchjdioplfjaa", sum := "655d0259fcd442b5a43f18157543e0015ac195215586698582ef2440ee34f6e1", func := "loop.example/g00422/laws.FnExactDhcid", spec := "fnExactDhcid", inPlace := ["math/bits.Add64"], unfollowed := true, recurses := true, apart := false }
def FnExactDhcidSaid : Prop := fnExactDhcidRow.holds Try.pinned (OpenSpec.ofChange fnExactDhcidSpec)

/-- ITS FALSE NEIGHBOUR: 'it returns false'. Refute it at one input. -/
def fnExactDhcidWrong : ChangeSpec := { name := "fnExactDhcid", fn := fun _ => fun
  | [d1, d2] => { results := [.lit (.bool false)], args := [d1, d2] }
  | _ => none }
def FnExactDhcidWrongFalsely : Prop := fnExactDhcidRow.holds Try.pinned (OpenSpec.ofChange fnExactDhcidWrong)

/-- 'laws.FnSums': WHATEVER THE INPUT: true; the input reads as it did. -/
def fnSumsSpec : ChangeSpec := { name := "fnSums", fn := fun _ => fun
  | [d] => { results := [.lit (.bool true)], args := [d] }
  | _ => none }
def fnSumsRow : OpenClaim := { program := "ytkmchjdioplfjaa", sum := "655d0259fcd442b5a43f18157543e0015ac195215586698582ef2440ee34f6e1", func := "loop.example/g00422/laws.FnSums", spec := "fnSums", inPlace := ["math/bits.Add64"], unfollowed := true, recurses := true, apart := false }
def FnSumsSaid : Prop := fnSumsRow.holds Try.pinned (OpenSpec.ofChange fnSumsSpec)

/-- ITS FALSE NEIGHBOUR: 'it returns false'. Refute it at one input. -/
def fnSumsWrong : ChangeSpec := { name := "fnSums", fn := fun _ => fun
  | [d] => { results := [.lit (.bool false)], args := [d] }
  | _ => none }
def FnSumsWrongFalsely : Prop := fnSumsRow.holds Try.pinned (OpenSpec.ofChange fnSumsWrong)

/- THE SECOND FORM. 'bulk': how many values and letters a reading holds, each counted each time it is reached (what is shared counts as often as it is met; a slice's spare places count too). A statement '..UptoSaid' is the law's where the arguments, and the package variables that the reading takes, are together of bulk at most 1048576: NARROWER than '..Said'. Prove '..Said' where nothing that the law and all that it calls make is longer than what came in: it says more and counts as full. Else prove '..UptoSaid'. A law counts once. -/
mutual
def uptoBulk {H : Type} : DataW H → Nat
  | .lit (.string bytes) => bytes.length + 1
  | .lit _ => 1
  | .nil => 1
  | .ptr d => uptoBulk d + 1
  | .slice elems spare => uptoBulkAll elems + uptoBulkAll spare + 1
  | .agg parts => uptoBulkAll parts + 1
  | .iface _ d => uptoBulk d + 1
  | .map entries => uptoBulkEntries entries + 1
  | .held _ => 1
def uptoBulkAll {H : Type} : List (DataW H) → Nat
  | [] => 0
  | d :: r => uptoBulk d + uptoBulkAll r
def uptoBulkEntries {H : Type} : List (Lit × DataW H) → Nat
  | [] => 0
  | x :: r => uptoBulkEntry x + uptoBulkEntries r
def uptoBulkEntry {H : Type} : Lit × DataW H → Nat
  | (.string bytes, d) => bytes.length + uptoBulk d + 1
  | (_, d) => uptoBulk d + 1
 end
def uptoSmall : (H : Type) → List (DataW H) → Bool := fun _ ds => decide (uptoBulkAll ds ≤ 1048576)
def OpenSpec.upto (s : _root_.Go.ChangeSpec) : _root_.Go.OpenSpec := { _root_.Go.OpenSpec.ofChange s with cond := some uptoSmall }

/-- 'laws.FnExactNameText', WHERE WHAT IT READS IS OF BULK AT MOST 1048576: true; the input reads as it did. -/
def fnExactNameTextUptoRow : OpenClaim := { program := "ytkmchjdioplfjaa", sum := "655d0259fcd442b5a43f18157543e0015ac195215586698582ef2440ee34f6e1", func := "loop.example/g00422/laws.FnExactNameText", spec := "fnExactNameText", unfollowed := true, recurses := true, apart := false, narrowed := true }
def FnExactNameTextUptoSaid : Prop := fnExactNameTextUptoRow.holds Try.pinned (OpenSpec.upto fnExactNameTextSpec)

/-- 'laws.FnExactSha256', WHERE WHAT IT READS IS OF BULK AT MOST 1048576: true; the input reads as it did. -/
def fnExactSha256UptoRow : OpenClaim := { program := "ytkmchjdioplfjaa", sum := "655d0259fcd442b5a43f18157543e0015ac195215586698582ef2440ee34f6e1", func := "loop.example/g00422/laws.FnExactSha256", spec := "fnExactSha256", inPlace := ["math/bits.Add64"], unfollowed := true, recurses := true, apart := false, narrowed := true }
def FnExactSha256UptoSaid : Prop := fnExactSha256UptoRow.holds Try.pinned (OpenSpec.upto fnExactSha256Spec)

/-- 'laws.FnExactDhcid', WHERE WHAT IT READS IS OF BULK AT MOST 1048576: true; the input reads as it did. -/
def fnExactDhcidUptoRow : OpenClaim := { program := "ytkmchjdioplfjaa", sum := "655d0259fcd442b5a43f18157543e0015ac195215586698582ef2440ee34f6e1", func := "loop.example/g00422/laws.FnExactDhcid", spec := "fnExactDhcid", inPlace := ["math/bits.Add64"], unfollowed := true, recurses := true, apart := false, narrowed := true }
def FnExactDhcidUptoSaid : Prop := fnExactDhcidUptoRow.holds Try.pinned (OpenSpec.upto fnExactDhcidSpec)

/-- 'laws.FnSums', WHERE WHAT IT READS IS OF BULK AT MOST 1048576: true; the input reads as it did. -/
def fnSumsUptoRow : OpenClaim := { program := "ytkmchjdioplfjaa", sum := "655d0259fcd442b5a43f18157543e0015ac195215586698582ef2440ee34f6e1", func := "loop.example/g00422/laws.FnSums", spec := "fnSums", inPlace := ["math/bits.Add64"], unfollowed := true, recurses := true, apart := false, narrowed := true }
def FnSumsUptoSaid : Prop := fnSumsUptoRow.holds Try.pinned (OpenSpec.upto fnSumsSpec)

end Rows
end Go.Proofs.Ytkmchjdioplfjaa
