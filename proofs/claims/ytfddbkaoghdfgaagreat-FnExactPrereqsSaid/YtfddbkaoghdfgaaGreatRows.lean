/-
  No cell of these rows narrows 'for every input' (looked for: loops, veiled, ifaces, maps, wideKeys, modest, calm, conditions, laid).
  DERIVED. THE GIVEN ROWS OF THIS SEAT. 5 by the template 'for every input the law returns true; each argument reads behind the call as it read before'; 0 by the template 'total and deterministic' (their statements: YtfddbkaoghdfgaaGreatTotals.lean).
  GIVEN WITH THE SEED: the statements are not yours to turn. If you find one false, say at which input.
  Laid BY PROGRAM, IN A SANDBOX (cutbox-rows.mjs): the forced cells as the released guide's own fill.sh prints them over the translation 71113fc02520a0cd… (all of the seat's roots in one cut). By AI agents, Wed Nov 11 2026. No macro, syntax, notation, axiom, sorry.
-/
import Derived.Test.YtfddbkaoghdfgaaGreatChecked
import GoSem.Claim
import GoSem.ClaimJoined
import GoSem.ClaimMapViews
import Derived.JoinedTies
import Derived.KernelRfl
namespace Go.Proofs.YtfddbkaoghdfgaaGreat
/- THE CELL 'sum', in the pinned program and in every row, IS THE sha256 OF THE DUMP (.gsa) THAT YtfddbkaoghdfgaaGreatProg.lean LOADS. Nothing in Lean hashes anything: it is a label: what it is worth is what the hold of that sum in a sandbox is worth. -/
noncomputable def Tryz.pinned : Pinned := { name := "ytfddbkaoghdfgaagreat", sum := "71113fc02520a0cdc73313f6a0f79efeea41357ca17c5833fe7f0bc8a1eded54", checked := Tryz.checked }
namespace Rows
def none {H : Type} : Left H := { results := [], args := [] }

/-- 'laws.FnExactTxnOk': WHATEVER THE INPUT: true; the input reads as it did. -/
def fnExactTxnOkSpec : ChangeSpec := { name := "fnExactTxnOk", fn := fun _ => fun
  | [d] => { results := [.lit (.bool true)], args := [d] }
  | _ => none }
def fnExactTxnOkRow : OpenClaim := { program := "ytfddbkaoghdfgaagreat", sum := "71113fc02520a0cdc73313f6a0f79efeea41357ca17c5833fe7f0bc8a1eded54", func := "loop.example/g00422/laws.FnExactTxnOk", spec := "fnExactTxnOk", unfollowed := true, recurses := true, apart := false }
def FnExactTxnOkSaid : Prop := fnExactTxnOkRow.holds Tryz.pinned (OpenSpec.ofChange fnExactTxnOkSpec)

/-- ITS FALSE NEIGHBOUR: 'it returns false'. Refute it at one input. -/
def fnExactTxnOkWrong : ChangeSpec := { name := "fnExactTxnOk", fn := fun _ => fun
  | [d] => { results := [.lit (.bool false)], args := [d] }
  | _ => none }
def FnExactTxnOkWrongFalsely : Prop := fnExactTxnOkRow.holds Tryz.pinned (OpenSpec.ofChange fnExactTxnOkWrong)

/-- 'laws.FnExactMsgBytes': WHATEVER THE INPUT: true; the input reads as it did. -/
def fnExactMsgBytesSpec : ChangeSpec := { name := "fnExactMsgBytes", fn := fun _ => fun
  | [d] => { results := [.lit (.bool true)], args := [d] }
  | _ => none }
def fnExactMsgBytesRow : OpenClaim := { program := "ytfddbkaoghdfgaagreat", sum := "71113fc02520a0cdc73313f6a0f79efeea41357ca17c5833fe7f0bc8a1eded54", func := "loop.example/g00422/laws.FnExactMsgBytes", spec := "fnExactMsgBytes", unfollowed := true, recurses := true, apart := false }
def FnExactMsgBytesSaid : Prop := fnExactMsgBytesRow.holds Tryz.pinned (OpenSpec.ofChange fnExactMsgBytesSpec)

/-- ITS FALSE NEIGHBOUR: 'it returns false'. Refute it at one input. -/
def fnExactMsgBytesWrong : ChangeSpec := { name := "fnExactMsgBytes", fn := fun _ => fun
  | [d] => { results := [.lit (.bool false)], args := [d] }
  | _ => none }
def FnExactMsgBytesWrongFalsely : Prop := fnExactMsgBytesRow.holds Tryz.pinned (OpenSpec.ofChange fnExactMsgBytesWrong)

/-- 'laws.FnExactTxnBytes': WHATEVER THE INPUT: true; the input reads as it did. -/
def fnExactTxnBytesSpec : ChangeSpec := { name := "fnExactTxnBytes", fn := fun _ => fun
  | [d] => { results := [.lit (.bool true)], args := [d] }
  | _ => none }
def fnExactTxnBytesRow : OpenClaim := { program := "ytfddbkaoghdfgaagreat", sum := "71113fc02520a0cdc73313f6a0f79efeea41357ca17c5833fe7f0bc8a1eded54", func := "loop.example/g00422/laws.FnExactTxnBytes", spec := "fnExactTxnBytes", unfollowed := true, recurses := true, apart := false }
def FnExactTxnBytesSaid : Prop := fnExactTxnBytesRow.holds Tryz.pinned (OpenSpec.ofChange fnExactTxnBytesSpec)

/-- ITS FALSE NEIGHBOUR: 'it returns false'. Refute it at one input. -/
def fnExactTxnBytesWrong : ChangeSpec := { name := "fnExactTxnBytes", fn := fun _ => fun
  | [d] => { results := [.lit (.bool false)], args := [d] }
  | _ => none }
def FnExactTxnBytesWrongFalsely : Prop := fnExactTxnBytesRow.holds Tryz.pinned (OpenSpec.ofChange fnExactTxnBytesWrong)

/-- 'laws.FnExactMsgRead': WHATEVER THE INPUT: true; the input reads as it did. -/
def fnExactMsgReadSpec : ChangeSpec := { name := "fnExactMsgRead", fn := fun _ => fun
  | [d] => { results := [.lit (.bool true)], args := [d] }
  | _ => none }
def fnExactMsgReadRow : OpenClaim := { program := "ytfddbkaoghdfgaagreat", sum := "71113fc02520a0cdc73313f6a0f79efeea41357ca17c5833fe7f0bc8a1eded54", func := "loop.example/g00422/laws.FnExactMsgRead", spec := "fnExactMsgRead", unfollowed := true, recurses := true, apart := false }
def FnExactMsgReadSaid : Prop := fnExactMsgReadRow.holds Tryz.pinned (OpenSpec.ofChange fnExactMsgReadSpec)

/-- ITS FALSE NEIGHBOUR: 'it returns false'. Refute it at one input. -/
def fnExactMsgReadWrong : ChangeSpec := { name := "fnExactMsgRead", fn := fun _ => fun
  | [d] => { results := [.lit (.bool false)], args := [d] }
  | _ => none }
def FnExactMsgReadWrongFalsely : Prop := fnExactMsgReadRow.holds Tryz.pinned (OpenSpec.ofChange fnExactMsgReadWrong)

/-- 'laws.FnExactPrereqs': WHATEVER THE INPUT: true; the input reads as it did. -/
def fnExactPrereqsSpec : ChangeSpec := { name := "fnExactPrereqs", fn := fun _ => fun
  | [d1, d2] => { results := [.lit (.bool true)], args := [d1, d2] }
  | _ => none }
def fnExactPrereqsRow : OpenClaim := { program := "ytfddbkaoghdfgaagreat", sum := "71113fc02520a0cdc73313f6a0f79efeea41357ca17c5833fe7f0bc8a1eded54", func := "loop.example/g00422/laws.FnExactPrereqs", spec := "fnExactPrereqs", inPlace := ["internal/bytealg.Compare"], unfollowed := true, recurses := true, apart := false }
def FnExactPrereqsSaid : Prop := fnExactPrereqsRow.holds Tryz.pinned (OpenSpec.ofChange fnExactPrereqsSpec)

/-- ITS FALSE NEIGHBOUR: 'it returns false'. Refute it at one input. -/
def fnExactPrereqsWrong : ChangeSpec := { name := "fnExactPrereqs", fn := fun _ => fun
  | [d1, d2] => { results := [.lit (.bool false)], args := [d1, d2] }
  | _ => none }
def FnExactPrereqsWrongFalsely : Prop := fnExactPrereqsRow.holds Tryz.pinned (OpenSpec.ofChange fnExactPrereqsWrong)

/- THE SECOND FORM. 'bulk': how many values and letters a reading holds, each counted each time it is reached (what is shared counts as often as it is met; a slice's spare places count too). A statement '..UptoSaid' is the law's where the arguments, and the package variables that the reading takes, are together of bulk at most 1048576: NARROWER than '..Said'. Prove '..Said' where nothing that the law and all that it calls make is longer than what came in: it says more and counts as full. Else prove '..UptoSaid'. A law counts once. -/
mutual
def uptoBulk {H : Type} : DataW H → Nat
  | .lit (.string bytes) => bytes.length + 1
  | .lit _ => 1
  | .nil => 1
  | .ptr d => uptoBulk d + 1
  | .slice elems spare => uptoBulkAll elems + uptoBulkAll spare + 1
  | .agg parts => uptoBulkAll parts + 1
  | .iface _ d => uptoBulk d + 1
  | .map entries => uptoBulkEntries entries + 1
  | .held _ => 1
def uptoBulkAll {H : Type} : List (DataW H) → Nat
  | [] => 0
  | d :: r => uptoBulk d + uptoBulkAll r
def uptoBulkEntries {H : Type} : List (Lit × DataW H) → Nat
  | [] => 0
  | x :: r => uptoBulkEntry x + uptoBulkEntries r
def uptoBulkEntry {H : Type} : Lit × DataW H → Nat
  | (.string bytes, d) => bytes.length + uptoBulk d + 1
  | (_, d) => uptoBulk d + 1
 end
def uptoSmall : (H : Type) → List (DataW H) → Bool := fun _ ds => decide (uptoBulkAll ds ≤ 1048576)
def OpenSpec.upto (s : _root_.Go.ChangeSpec) : _root_.Go.OpenSpec := { _root_.Go.OpenSpec.ofChange s with cond := some uptoSmall }

/-- 'laws.FnExactTxnOk', WHERE WHAT IT READS IS OF BULK AT MOST 1048576: true; the input reads as it did. -/
def fnExactTxnOkUptoRow : OpenClaim := { program := "ytfddbkaoghdfgaagreat", sum := "71113fc02520a0cdc73313f6a0f79efeea41357ca17c5833fe7f0bc8a1eded54", func := "loop.example/g00422/laws.FnExactTxnOk", spec := "fnExactTxnOk", unfollowed := true, recurses := true, apart := false, narrowed := true }
def FnExactTxnOkUptoSaid : Prop := fnExactTxnOkUptoRow.holds Tryz.pinned (OpenSpec.upto fnExactTxnOkSpec)

/-- 'laws.FnExactMsgBytes', WHERE WHAT IT READS IS OF BULK AT MOST 1048576: true; the input reads as it did. -/
def fnExactMsgBytesUptoRow : OpenClaim := { program := "ytfddbkaoghdfgaagreat", sum := "71113fc02520a0cdc73313f6a0f79efeea41357ca17c5833fe7f0bc8a1eded54", func := "loop.example/g00422/laws.FnExactMsgBytes", spec := "fnExactMsgBytes", unfollowed := true, recurses := true, apart := false, narrowed := true }
def FnExactMsgBytesUptoSaid : Prop := fnExactMsgBytesUptoRow.holds Tryz.pinned (OpenSpec.upto fnExactMsgBytesSpec)

/-- 'laws.FnExactTxnBytes', WHERE WHAT IT READS IS OF BULK AT MOST 1048576: true; the input reads as it did. -/
def fnExactTxnBytesUptoRow : OpenClaim := { program := "ytfddbkaoghdfgaagreat", sum := "71113fc02520a0cdc73313f6a0f79efeea41357ca17c5833fe7f0bc8a1eded54", func := "loop.example/g00422/laws.FnExactTxnBytes", spec := "fnExactTxnBytes", unfollowed := true, recurses := true, apart := false, narrowed := true }
def FnExactTxnBytesUptoSaid : Prop := fnExactTxnBytesUptoRow.holds Tryz.pinned (OpenSpec.upto fnExactTxnBytesSpec)

/-- 'laws.FnExactMsgRead', WHERE WHAT IT READS IS OF BULK AT MOST 1048576: true; the input reads as it did. -/
def fnExactMsgReadUptoRow : OpenClaim := { program := "ytfddbkaoghdfgaagreat", sum := "71113fc02520a0cdc73313f6a0f79efeea41357ca17c5833fe7f0bc8a1eded54", func := "loop.example/g00422/laws.FnExactMsgRead", spec := "fnExactMsgRead", unfollowed := true, recurses := true, apart := false, narrowed := true }
def FnExactMsgReadUptoSaid : Prop := fnExactMsgReadUptoRow.holds Tryz.pinned (OpenSpec.upto fnExactMsgReadSpec)

/-- 'laws.FnExactPrereqs', WHERE WHAT IT READS IS OF BULK AT MOST 1048576: true; the input reads as it did. -/
def fnExactPrereqsUptoRow : OpenClaim := { program := "ytfddbkaoghdfgaagreat", sum := "71113fc02520a0cdc73313f6a0f79efeea41357ca17c5833fe7f0bc8a1eded54", func := "loop.example/g00422/laws.FnExactPrereqs", spec := "fnExactPrereqs", inPlace := ["internal/bytealg.Compare"], unfollowed := true, recurses := true, apart := false, narrowed := true }
def FnExactPrereqsUptoSaid : Prop := fnExactPrereqsUptoRow.holds Tryz.pinned (OpenSpec.upto fnExactPrereqsSpec)

end Rows
end Go.Proofs.YtfddbkaoghdfgaaGreat
