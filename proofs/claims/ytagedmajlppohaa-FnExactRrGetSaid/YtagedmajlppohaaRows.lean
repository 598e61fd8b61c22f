/-
  No cell of these rows narrows 'for every input' (looked for: loops, veiled, ifaces, maps, wideKeys, modest, calm, conditions, laid).
  DERIVED. THE GIVEN ROWS OF THIS SEAT. 10 by the template 'for every input the law returns true; each argument reads behind the call as it read before'; 0 by the template 'total and deterministic' (their statements: YtagedmajlppohaaTotals.lean).
  GIVEN WITH THE SEED: the statements are not yours to turn. If you find one false, say at which input.
  Laid BY PROGRAM, IN A SANDBOX (cutbox-rows.mjs): the forced cells as the released guide's own fill.sh prints them over the translation 302e7de52ce949cb… (all of the seat's roots in one cut). By AI agents, Wed Nov 11 2026. No macro, syntax, notation, axiom, sorry.
-/
import Derived.Test.YtagedmajlppohaaChecked
import GoSem.Claim
import GoSem.ClaimJoined
import GoSem.ClaimMapViews
import Derived.JoinedTies
import Derived.KernelRfl
namespace Go.Proofs.Ytagedmajlppohaa
/- THE CELL 'sum', in the pinned program and in every row, IS THE sha256 OF THE DUMP (.gsa) THAT YtagedmajlppohaaProg.lean LOADS. Nothing in Lean hashes anything: it is a label: what it is worth is what the hold of that sum in a sandbox is worth. -/
noncomputable def Try.pinned : Pinned := { name := "ytagedmajlppohaa", sum := "302e7de52ce949cb9f27e0c9df98de6c606df47c6eff9333c8c94c390e36c424", checked := Try.checked }
namespace Rows
def none {H : Type} : Left H := { results := [], args := [] }

/-- 'laws.FnExactRrCmp': WHATEVER THE INPUT: true; the input reads as it did. -/
def fnExactRrCmpSpec : ChangeSpec := { name := "fnExactRrCmp", fn := fun _ => fun
  | [d1, d2] => { results := [.lit (.bool true)], args := [d1, d2] }
  | _ => none }
def fnExactRrCmpRow : OpenClaim := { program := "ytagedmajlppohaa", sum := "302e7de52ce949cb9f27e0c9df98de6c606df47c6eff9333c8c94c390e36c424", func := "loop.example/g00422/laws.FnExactRrCmp", spec := "fnExactRrCmp", inPlace := ["internal/bytealg.Compare"], unfollowed := true, recurses := true, apart := false }
def FnExactRrCmpSaid : Prop := fnExactRrCmpRow.holds Try.pinned (OpenSpec.ofChange fnExactRrCmpSpec)

/-- ITS FALSE NEIGHBOUR: 'it returns false'. Refute it at one input. -/
def fnExactRrCmpWrong : ChangeSpec := { name := "fnExactRrCmp", fn := fun _ => fun
  | [d1, d2] => { results := [.lit (.bool false)], args := [d1, d2] }
  | _ => none }
def FnExactRrCmpWrongFalsely : Prop := fnExactRrCmpRow.holds Try.pinned (OpenSpec.ofChange fnExactRrCmpWrong)

/-- 'laws.FnSums': WHATEVER THE INPUT: true; the input reads as it did. -/
def fnSumsSpec : ChangeSpec := { name := "fnSums", fn := fun _ => fun
  | [d] => { results := [.lit (.bool true)], args := [d] }
  | _ => none }
def fnSumsRow : OpenClaim := { program := "ytagedmajlppohaa", sum := "302e7de52ce949cb9f27e0c9df98de6c606df47c6eff9333c8c94c390e36c424", func := "loop.example/g00422/laws.FnSums", spec := "fnSums", inPlace := ["math/bits.Add64"], unfollowed := true, recurses := true, apart := false }
def FnSumsSaid : Prop := fnSumsRow.holds Try.pinned (OpenSpec.ofChange fnSumsSpec)

/-- ITS FALSE NEIGHBOUR: 'it returns false'. Refute it at one input. -/
def fnSumsWrong : ChangeSpec := { name := "fnSums", fn := fun _ => fun
  | [d] => { results := [.lit (.bool false)], args := [d] }
  | _ => none }
def FnSumsWrongFalsely : Prop := fnSumsRow.holds Try.pinned (OpenSpec.ofChange fnSumsWrong)

/-- 'laws.FnExactDataGet': WHATEVER THE INPUT: true; the input reads as it did. -/
def fnExactDataGetSpec : ChangeSpec := { name := "fnExactDataGet", fn := fun _ => fun
  | [d1, d2, d3, d4] => { results := [.lit (.bool true)], args := [d1, d2, d3, d4] }
  | _ => none }
def fnExactDataGetRow : OpenClaim := { program := "ytagedmajlppohaa", sum := "302e7de52ce949cb9f27e0c9df98de6c606df47c6eff9333c8c94c390e36c424", func := "loop.example/g00422/laws.FnExactDataGet", spec := "fnExactDataGet", unfollowed := true, recurses := true, apart := false }
def FnExactDataGetSaid : Prop := fnExactDataGetRow.holds Try.pinned (OpenSpec.ofChange fnExactDataGetSpec)

/-- ITS FALSE NEIGHBOUR: 'it returns false'. Refute it at one input. -/
def fnExactDataGetWrong : ChangeSpec := { name := "fnExactDataGet", fn := fun _ => fun
  | [d1, d2, d3, d4] => { results := [.lit (.bool false)], args := [d1, d2, d3, d4] }
  | _ => none }
def FnExactDataGetWrongFalsely : Prop := fnExactDataGetRow.holds Try.pinned (OpenSpec.ofChange fnExactDataGetWrong)

/-- 'laws.FnExactRrGet': WHATEVER THE INPUT: true; the input reads as it did. -/
def fnExactRrGetSpec : ChangeSpec := { name := "fnExactRrGet", fn := fun _ => fun
  | [d1, d2] => { results := [.lit (.bool true)], args := [d1, d2] }
  | _ => none }
def fnExactRrGetRow : OpenClaim := { program := "ytagedmajlppohaa", sum := "302e7de52ce949cb9f27e0c9df98de6c606df47c6eff9333c8c94c390e36c424", func := "loop.example/g00422/laws.FnExactRrGet", spec := "fnExactRrGet", unfollowed := true, recurses := true, apart := false }
def FnExactRrGetSaid : Prop := fnExactRrGetRow.holds Try.pinned (OpenSpec.ofChange fnExactRrGetSpec)

/-- ITS FALSE NEIGHBOUR: 'it returns false'. Refute it at one input. -/
def fnExactRrGetWrong : ChangeSpec := { name := "fnExactRrGet", fn := fun _ => fun
  | [d1, d2] => { results := [.lit (.bool false)], args := [d1, d2] }
  | _ => none }
def FnExactRrGetWrongFalsely : Prop := fnExactRrGetRow.holds Try.pinned (OpenSpec.ofChange fnExactRrGetWrong)

/-- 'laws.FnExactZoneOk': WHATEVER THE INPUT: true; the input reads as it did. -/
def fnExactZoneOkSpec : ChangeSpec := { name := "fnExactZoneOk", fn := fun _ => fun
  | [d] => { results := [.lit (.bool true)], args := [d] }
  | _ => none }
def fnExactZoneOkRow : OpenClaim := { program := "ytagedmajlppohaa", sum := "302e7de52ce949cb9f27e0c9df98de6c606df47c6eff9333c8c94c390e36c424", func := "loop.example/g00422/laws.FnExactZoneOk", spec := "fnExactZoneOk", inPlace := ["internal/bytealg.Compare"], unfollowed := true, recurses := true, apart := false }
def FnExactZoneOkSaid : Prop := fnExactZoneOkRow.holds Try.pinned (OpenSpec.ofChange fnExactZoneOkSpec)

/-- ITS FALSE NEIGHBOUR: 'it returns false'. Refute it at one input. -/
def fnExactZoneOkWrong : ChangeSpec := { name := "fnExactZoneOk", fn := fun _ => fun
  | [d] => { results := [.lit (.bool false)], args := [d] }
  | _ => none }
def FnExactZoneOkWrongFalsely : Prop := fnExactZoneOkRow.holds Try.pinned (OpenSpec.ofChange fnExactZoneOkWrong)

/-- 'laws.FnExactHasName': WHATEVER THE INPUT: true; the input reads as it did. -/
def fnExactHasNameSpec : ChangeSpec := { name := "fnExactHasName", fn := fun _ => fun
  | [d1, d2] => { results := [.lit (.bool true)], args := [d1, d2] }
  | _ => none }
def fnExactHasNameRow : OpenClaim := { program := "ytagedmajlppohaa", sum := "302e7de52ce949cb9f27e0c9df98de6c606df47c6eff9333c8c94c390e36c424", func := "loop.example/g00422/laws.FnExactHasName", spec := "fnExactHasName", inPlace := ["internal/bytealg.Compare"], unfollowed := true, recurses := true, apart := false }
def FnExactHasNameSaid : Prop := fnExactHasNameRow.holds Try.pinned (OpenSpec.ofChange fnExactHasNameSpec)

/-- ITS FALSE NEIGHBOUR: 'it returns false'. Refute it at one input. -/
def fnExactHasNameWrong : ChangeSpec := { name := "fnExactHasName", fn := fun _ => fun
  | [d1, d2] => { results := [.lit (.bool false)], args := [d1, d2] }
  | _ => none }
def FnExactHasNameWrongFalsely : Prop := fnExactHasNameRow.holds Try.pinned (OpenSpec.ofChange fnExactHasNameWrong)

/-- 'laws.FnExactSerial': WHATEVER THE INPUT: true; the input reads as it did. -/
def fnExactSerialSpec : ChangeSpec := { name := "fnExactSerial", fn := fun _ => fun
  | [d] => { results := [.lit (.bool true)], args := [d] }
  | _ => none }
def fnExactSerialRow : OpenClaim := { program := "ytagedmajlppohaa", sum := "302e7de52ce949cb9f27e0c9df98de6c606df47c6eff9333c8c94c390e36c424", func := "loop.example/g00422/laws.FnExactSerial", spec := "fnExactSerial", inPlace := ["internal/bytealg.Compare"], unfollowed := true, recurses := true, apart := false }
def FnExactSerialSaid : Prop := fnExactSerialRow.holds Try.pinned (OpenSpec.ofChange fnExactSerialSpec)

/-- ITS FALSE NEIGHBOUR: 'it returns false'. Refute it at one input. -/
def fnExactSerialWrong : ChangeSpec := { name := "fnExactSerial", fn := fun _ => fun
  | [d] => { results := [.lit (.bool false)], args := [d] }
  | _ => none }
def FnExactSerialWrongFalsely : Prop := fnExactSerialRow.holds Try.pinned (OpenSpec.ofChange fnExactSerialWrong)

/-- 'laws.FnExactOwner': WHATEVER THE INPUT: true; the input reads as it did. -/
def fnExactOwnerSpec : ChangeSpec := { name := "fnExactOwner", fn := fun _ => fun
  | [d1, d2, d3] => { results := [.lit (.bool true)], args := [d1, d2, d3] }
  | _ => none }
def fnExactOwnerRow : OpenClaim := { program := "ytagedmajlppohaa", sum := "302e7de52ce949cb9f27e0c9df98de6c606df47c6eff9333c8c94c390e36c424", func := "loop.example/g00422/laws.FnExactOwner", spec := "fnExactOwner", inPlace := ["internal/bytealg.Compare"], unfollowed := true, recurses := true, apart := false }
def FnExactOwnerSaid : Prop := fnExactOwnerRow.holds Try.pinned (OpenSpec.ofChange fnExactOwnerSpec)

/-- ITS FALSE NEIGHBOUR: 'it returns false'. Refute it at one input. -/
def fnExactOwnerWrong : ChangeSpec := { name := "fnExactOwner", fn := fun _ => fun
  | [d1, d2, d3] => { results := [.lit (.bool false)], args := [d1, d2, d3] }
  | _ => none }
def FnExactOwnerWrongFalsely : Prop := fnExactOwnerRow.holds Try.pinned (OpenSpec.ofChange fnExactOwnerWrong)

/-- 'laws.FnExactCacheOk': WHATEVER THE INPUT: true; the input reads as it did. -/
def fnExactCacheOkSpec : ChangeSpec := { name := "fnExactCacheOk", fn := fun _ => fun
  | [d] => { results := [.lit (.bool true)], args := [d] }
  | _ => none }
def fnExactCacheOkRow : OpenClaim := { program := "ytagedmajlppohaa", sum := "302e7de52ce949cb9f27e0c9df98de6c606df47c6eff9333c8c94c390e36c424", func := "loop.example/g00422/laws.FnExactCacheOk", spec := "fnExactCacheOk", inPlace := ["internal/bytealg.Compare"], unfollowed := true, recurses := true, apart := false }
def FnExactCacheOkSaid : Prop := fnExactCacheOkRow.holds Try.pinned (OpenSpec.ofChange fnExactCacheOkSpec)

/-- ITS FALSE NEIGHBOUR: 'it returns false'. Refute it at one input. -/
def fnExactCacheOkWrong : ChangeSpec := { name := "fnExactCacheOk", fn := fun _ => fun
  | [d] => { results := [.lit (.bool false)], args := [d] }
  | _ => none }
def FnExactCacheOkWrongFalsely : Prop := fnExactCacheOkRow.holds Try.pinned (OpenSpec.ofChange fnExactCacheOkWrong)

/-- 'laws.FnExactMsgOk': WHATEVER THE INPUT: true; the input reads as it did. -/
def fnExactMsgOkSpec : ChangeSpec := { name := "fnExactMsgOk", fn := fun _ => fun
  | [d] => { results := [.lit (.bool true)], args := [d] }
  | _ => none }
def fnExactMsgOkRow : OpenClaim := { program := "ytagedmajlppohaa", sum := "302e7de52ce949cb9f27e0c9df98de6c606df47c6eff9333c8c94c390e36c424", func := "loop.example/g00422/laws.FnExactMsgOk", spec := "fnExactMsgOk", unfollowed := true, recurses := true, apart := false }
def FnExactMsgOkSaid : Prop := fnExactMsgOkRow.holds Try.pinned (OpenSpec.ofChange fnExactMsgOkSpec)

/-- ITS FALSE NEIGHBOUR: 'it returns false'. Refute it at one input. -/
def fnExactMsgOkWrong : ChangeSpec := { name := "fnExactMsgOk", fn := fun _ => fun
  | [d] => { results := [.lit (.bool false)], args := [d] }
  | _ => none }
def FnExactMsgOkWrongFalsely : Prop := fnExactMsgOkRow.holds Try.pinned (OpenSpec.ofChange fnExactMsgOkWrong)

/- THE SECOND FORM. 'bulk': how many values and letters a reading holds, each counted each time it is reached (what is shared counts as often as it is met; a slice's spare places count too). A statement '..UptoSaid' is the law's where the arguments, and the package variables that the reading takes, are together of bulk at most 1048576: NARROWER than '..Said'. Prove '..Said' where nothing that the law and all that it calls make is longer than what came in: it says more and counts as full. Else prove '..UptoSaid'. A law counts once. -/
mutual
def uptoBulk {H : Type} : DataW H → Nat
  | .lit (.string bytes) => bytes.length + 1
  | .lit _ => 1
  | .nil => 1
  | .ptr d => uptoBulk d + 1
  | .slice elems spare => uptoBulkAll elems + uptoBulkAll spare + 1
  | .agg parts => uptoBulkAll parts + 1
  | .iface _ d => uptoBulk d + 1
  | .map entries => uptoBulkEntries entries + 1
  | .held _ => 1
def uptoBulkAll {H : Type} : List (DataW H) → Nat
  | [] => 0
  | d :: r => uptoBulk d + uptoBulkAll r
def uptoBulkEntries {H : Type} : List (Lit × DataW H) → Nat
  | [] => 0
  | x :: r => uptoBulkEntry x + uptoBulkEntries r
def uptoBulkEntry {H : Type} : Lit × DataW H → Nat
  | (.string bytes, d) => bytes.length + uptoBulk d + 1
  | (_, d) => uptoBulk d + 1
 end
def uptoSmall : (H : Type) → List (DataW H) → Bool := fun _ ds => decide (uptoBulkAll ds ≤ 1048576)
def OpenSpec.upto (s : _root_.Go.ChangeSpec) : _root_.Go.OpenSpec := { _root_.Go.OpenSpec.ofChange s with cond := some uptoSmall }

/-- 'laws.FnExactRrCmp', WHERE WHAT IT READS IS OF BULK AT MOST 1048576: true; the input reads as it did. -/
def fnExactRrCmpUptoRow : OpenClaim := { program := "ytagedmajlppohaa", sum := "302e7de52ce949cb9f27e0c9df98de6c606df47c6eff9333c8c94c390e36c424", func := "loop.example/g00422/laws.FnExactRrCmp", spec := "fnExactRrCmp", inPlace := ["internal/bytealg.Compare"], unfollowed := true, recurses := true, apart := false, narrowed := true }
def FnExactRrCmpUptoSaid : Prop := fnExactRrCmpUptoRow.holds Try.pinned (OpenSpec.upto fnExactRrCmpSpec)

/-- 'laws.FnSums', WHERE WHAT IT READS IS OF BULK AT MOST 1048576: true; the input reads as it did. -/
def fnSumsUptoRow : OpenClaim := { program := "ytagedmajlppohaa", sum := "302e7de52ce949cb9f27e0c9df98de6c606df47c6eff9333c8c94c390e36c424", func := "loop.example/g00422/laws.FnSums", spec := "fnSums", inPlace := ["math/bits.Add64"], unfollowed := true, recurses := true, apart := false, narrowed := true }
def FnSumsUptoSaid : Prop := fnSumsUptoRow.holds Try.pinned (OpenSpec.upto fnSumsSpec)

/-- 'laws.FnExactDataGet', WHERE WHAT IT READS IS OF BULK AT MOST 1048576: true; the input reads as it did. -/
def fnExactDataGetUptoRow : OpenClaim := { program := "ytagedmajlppohaa", sum := "302e7de52ce949cb9f27e0c9df98de6c606df47c6eff9333c8c94c390e36c424", func := "loop.example/g00422/laws.FnExactDataGet", spec := "fnExactDataGet", unfollowed := true, recurses := true, apart := false, narrowed := true }
def FnExactDataGetUptoSaid : Prop := fnExactDataGetUptoRow.holds Try.pinned (OpenSpec.upto fnExactDataGetSpec)

/-- 'laws.FnExactRrGet', WHERE WHAT IT READS IS OF BULK AT MOST 1048576: true; the input reads as it did. -/
def fnExactRrGetUptoRow : OpenClaim := { program := "ytagedmajlppohaa", sum := "302e7de52ce949cb9f27e0c9df98de6c606df47c6eff9333c8c94c390e36c424", func := "loop.example/g00422/laws.FnExactRrGet", spec := "fnExactRrGet", unfollowed := true, recurses := true, apart := false, narrowed := true }
def FnExactRrGetUptoSaid : Prop := fnExactRrGetUptoRow.holds Try.pinned (OpenSpec.upto fnExactRrGetSpec)

/-- 'laws.FnExactZoneOk', WHERE WHAT IT READS IS OF BULK AT MOST 1048576: true; the input reads as it did. -/
def fnExactZoneOkUptoRow : OpenClaim := { program := "ytagedmajlppohaa", sum := "302e7de52ce949cb9f27e0c9df98de6c606df47c6eff9333c8c94c390e36c424", func := "loop.example/g00422/laws.FnExactZoneOk", spec := "fnExactZoneOk", inPlace := ["internal/bytealg.Compare"], unfollowed := true, recurses := true, apart := false, narrowed := true }
def FnExactZoneOkUptoSaid : Prop := fnExactZoneOkUptoRow.holds Try.pinned (OpenSpec.upto fnExactZoneOkSpec)

/-- 'laws.FnExactHasName', WHERE WHAT IT READS IS OF BULK AT MOST 1048576: true; the input reads as it did. -/
def fnExactHasNameUptoRow : OpenClaim := { program := "ytagedmajlppohaa", sum := "302e7de52ce949cb9f27e0c9df98de6c606df47c6eff9333c8c94c390e36c424", func := "loop.example/g00422/laws.FnExactHasName", spec := "fnExactHasName", inPlace := ["internal/bytealg.Compare"], unfollowed := true, recurses := true, apart := false, narrowed := true }
def FnExactHasNameUptoSaid : Prop := fnExactHasNameUptoRow.holds Try.pinned (OpenSpec.upto fnExactHasNameSpec)

/-- 'laws.FnExactSerial', WHERE WHAT IT READS IS OF BULK AT MOST 1048576: true; the input reads as it did. -/
def fnExactSerialUptoRow : OpenClaim := { program := "ytagedmajlppohaa", sum := "302e7de52ce949cb9f27e0c9df98de6c606df47c6eff9333c8c94c390e36c424", func := "loop.example/g00422/laws.FnExactSerial", spec := "fnExactSerial", inPlace := ["internal/bytealg.Compare"], unfollowed := true, recurses := true, apart := false, narrowed := true }
def FnExactSerialUptoSaid : Prop := fnExactSerialUptoRow.holds Try.pinned (OpenSpec.upto fnExactSerialSpec)

/-- 'laws.FnExactOwner', WHERE WHAT IT READS IS OF BULK AT MOST 1048576: true; the input reads as it did. -/
def fnExactOwnerUptoRow : OpenClaim := { program := "ytagedmajlppohaa", sum := "302e7de52ce949cb9f27e0c9df98de6c606df47c6eff9333c8c94c390e36c424", func := "loop.example/g00422/laws.FnExactOwner", spec := "fnExactOwner", inPlace := ["internal/bytealg.Compare"], unfollowed := true, recurses := true, apart := false, narrowed := true }
def FnExactOwnerUptoSaid : Prop := fnExactOwnerUptoRow.holds Try.pinned (OpenSpec.upto fnExactOwnerSpec)

/-- 'laws.FnExactCacheOk', WHERE WHAT IT READS IS OF BULK AT MOST 1048576: true; the input reads as it did. -/
def fnExactCacheOkUptoRow : OpenClaim := { program := "ytagedmajlppohaa", sum := "302e7de52ce949cb9f27e0c9df98de6c606df47c6eff9333c8c94c390e36c424", func := "loop.example/g00422/laws.FnExactCacheOk", spec := "fnExactCacheOk", inPlace := ["internal/bytealg.Compare"], unfollowed := true, recurses := true, apart := false, narrowed := true }
def FnExactCacheOkUptoSaid : Prop := fnExactCacheOkUptoRow.holds Try.pinned (OpenSpec.upto fnExactCacheOkSpec)

/-- 'laws.FnExactMsgOk', WHERE WHAT IT READS IS OF BULK AT MOST 1048576: true; the input reads as it did. -/
def fnExactMsgOkUptoRow : OpenClaim := { program := "ytagedmajlppohaa", sum := "302e7de52ce949cb9f27e0c9df98de6c606df47c6eff9333c8c94c390e36c424", func := "loop.example/g00422/laws.FnExactMsgOk", spec := "fnExactMsgOk", unfollowed := true, recurses := true, apart := false, narrowed := true }
def FnExactMsgOkUptoSaid : Prop := fnExactMsgOkUptoRow.holds Try.pinned (OpenSpec.upto fnExactMsgOkSpec)

end Rows
end Go.Proofs.Ytagedmajlppohaa
