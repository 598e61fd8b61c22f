/-
  No cell of these rows narrows 'for every input' (looked for: loops, veiled, ifaces, maps, wideKeys, modest, calm, conditions, laid).
  DERIVED. THE GIVEN ROWS OF THIS SEAT. 10 by the template 'for every input the law returns true; each argument reads behind the call as it read before'; 0 by the template 'total and deterministic' (their statements: YtedbpnfkeabpnaaTotals.lean).
  GIVEN WITH THE SEED: the statements are not yours to turn. If you find one false, say at which input.
  Laid BY PROGRAM, IN A SANDBOX (cutbox-rows.mjs): the forced cells as the released guide's own fill.sh prints them over the translation 1586d276a1d9f7ee… (all of the seat's roots in one cut). By AI agents, Wed Nov 11 2026. No macro, syntax, notation, axiom, sorry.
-/
import Derived.Test.YtedbpnfkeabpnaaChecked
import GoSem.Claim
import GoSem.ClaimJoined
import GoSem.ClaimMapViews
import Derived.JoinedTies
import Derived.KernelRfl
namespace Go.Proofs.Ytedbpnfkeabpnaa
/- THE CELL 'sum', in the pinned program and in every row, IS THE sha256 OF THE DUMP (.gsa) THAT YtedbpnfkeabpnaaProg.lean LOADS. Nothing in Lean hashes anything: it is a label: what it is worth is what the hold of that sum in a sandbox is worth. -/
noncomputable def Try.pinned : Pinned := { name := "ytedbpnfkeabpnaa", sum := "1586d276a1d9f7ee2f46bedede2045276a33f7bb56caa0a88d22beb5d2154df2", checked := Try.checked }
namespace Rows
def none {H : Type} : Left H := { results := [], args := [] }

/-- 'laws.FnExactNameCmp': WHATEVER THE INPUT: true; the input reads as it did. -/
def fnExactNameCmpSpec : ChangeSpec := { name := "fnExactNameCmp", fn := fun _ => fun
  | [d1, d2] => { results := [.lit (.bool true)], args := [d1, d2] }
  | _ => none }
def fnExactNameCmpRow : OpenClaim := { program := "ytedbpnfkeabpnaa", sum := "1586d276a1d9f7ee2f46bedede2045276a33f7bb56caa0a88d22beb5d2154df2", func := "loop.example/g00422/laws.FnExactNameCmp", spec := "fnExactNameCmp", inPlace := ["internal/bytealg.Compare"], unfollowed := true, recurses := true, apart := false }
def FnExactNameCmpSaid : Prop := fnExactNameCmpRow.holds Try.pinned (OpenSpec.ofChange fnExactNameCmpSpec)

/-- ITS FALSE NEIGHBOUR: 'it returns false'. Refute it at one input. -/
def fnExactNameCmpWrong : ChangeSpec := { name := "fnExactNameCmp", fn := fun _ => fun
  | [d1, d2] => { results := [.lit (.bool false)], args := [d1, d2] }
  | _ => none }
def FnExactNameCmpWrongFalsely : Prop := fnExactNameCmpRow.holds Try.pinned (OpenSpec.ofChange fnExactNameCmpWrong)

/-- 'laws.FnExactNamePut': WHATEVER THE INPUT: true; the input reads as it did. -/
def fnExactNamePutSpec : ChangeSpec := { name := "fnExactNamePut", fn := fun _ => fun
  | [d1, d2] => { results := [.lit (.bool true)], args := [d1, d2] }
  | _ => none }
def fnExactNamePutRow : OpenClaim := { program := "ytedbpnfkeabpnaa", sum := "1586d276a1d9f7ee2f46bedede2045276a33f7bb56caa0a88d22beb5d2154df2", func := "loop.example/g00422/laws.FnExactNamePut", spec := "fnExactNamePut", unfollowed := true, recurses := true, apart := false }
def FnExactNamePutSaid : Prop := fnExactNamePutRow.holds Try.pinned (OpenSpec.ofChange fnExactNamePutSpec)

/-- ITS FALSE NEIGHBOUR: 'it returns false'. Refute it at one input. -/
def fnExactNamePutWrong : ChangeSpec := { name := "fnExactNamePut", fn := fun _ => fun
  | [d1, d2] => { results := [.lit (.bool false)], args := [d1, d2] }
  | _ => none }
def FnExactNamePutWrongFalsely : Prop := fnExactNamePutRow.holds Try.pinned (OpenSpec.ofChange fnExactNamePutWrong)

/-- 'laws.FnExactNameGet': WHATEVER THE INPUT: true; the input reads as it did. -/
def fnExactNameGetSpec : ChangeSpec := { name := "fnExactNameGet", fn := fun _ => fun
  | [d1, d2] => { results := [.lit (.bool true)], args := [d1, d2] }
  | _ => none }
def fnExactNameGetRow : OpenClaim := { program := "ytedbpnfkeabpnaa", sum := "1586d276a1d9f7ee2f46bedede2045276a33f7bb56caa0a88d22beb5d2154df2", func := "loop.example/g00422/laws.FnExactNameGet", spec := "fnExactNameGet", unfollowed := true, recurses := true, apart := false }
def FnExactNameGetSaid : Prop := fnExactNameGetRow.holds Try.pinned (OpenSpec.ofChange fnExactNameGetSpec)

/-- ITS FALSE NEIGHBOUR: 'it returns false'. Refute it at one input. -/
def fnExactNameGetWrong : ChangeSpec := { name := "fnExactNameGet", fn := fun _ => fun
  | [d1, d2] => { results := [.lit (.bool false)], args := [d1, d2] }
  | _ => none }
def FnExactNameGetWrongFalsely : Prop := fnExactNameGetRow.holds Try.pinned (OpenSpec.ofChange fnExactNameGetWrong)

/-- 'laws.FnExactRrOk': WHATEVER THE INPUT: true; the input reads as it did. -/
def fnExactRrOkSpec : ChangeSpec := { name := "fnExactRrOk", fn := fun _ => fun
  | [d] => { results := [.lit (.bool true)], args := [d] }
  | _ => none }
def fnExactRrOkRow : OpenClaim := { program := "ytedbpnfkeabpnaa", sum := "1586d276a1d9f7ee2f46bedede2045276a33f7bb56caa0a88d22beb5d2154df2", func := "loop.example/g00422/laws.FnExactRrOk", spec := "fnExactRrOk", unfollowed := true, recurses := true, apart := false }
def FnExactRrOkSaid : Prop := fnExactRrOkRow.holds Try.pinned (OpenSpec.ofChange fnExactRrOkSpec)

/-- ITS FALSE NEIGHBOUR: 'it returns false'. Refute it at one input. -/
def fnExactRrOkWrong : ChangeSpec := { name := "fnExactRrOk", fn := fun _ => fun
  | [d] => { results := [.lit (.bool false)], args := [d] }
  | _ => none }
def FnExactRrOkWrongFalsely : Prop := fnExactRrOkRow.holds Try.pinned (OpenSpec.ofChange fnExactRrOkWrong)

/-- 'laws.FnExactSha256': WHATEVER THE INPUT: true; the input reads as it did. -/
def fnExactSha256Spec : ChangeSpec := { name := "fnExactSha256", fn := fun _ => fun
  | [d] => { results := [.lit (.bool true)], args := [d] }
  | _ => none }
def fnExactSha256Row : OpenClaim := { program := "ytedbpnfkeabpnaa", sum := "1586d276a1d9f7ee2f46bedede2045276a33f7bb56caa0a88d22beb5d2154df2", func := "loop.example/g00422/laws.FnExactSha256", spec := "fnExactSha256", inPlace := ["math/bits.Add64"], unfollowed := true, recurses := true, apart := false }
def FnExactSha256Said : Prop := fnExactSha256Row.holds Try.pinned (OpenSpec.ofChange fnExactSha256Spec)

/-- ITS FALSE NEIGHBOUR: 'it returns false'. Refute it at one input. -/
def fnExactSha256Wrong : ChangeSpec := { name := "fnExactSha256", fn := fun _ => fun
  | [d] => { results := [.lit (.bool false)], args := [d] }
  | _ => none }
def FnExactSha256WrongFalsely : Prop := fnExactSha256Row.holds Try.pinned (OpenSpec.ofChange fnExactSha256Wrong)

/-- 'laws.FnExactWantOk': WHATEVER THE INPUT: true; the input reads as it did. -/
def fnExactWantOkSpec : ChangeSpec := { name := "fnExactWantOk", fn := fun _ => fun
  | [d] => { results := [.lit (.bool true)], args := [d] }
  | _ => none }
def fnExactWantOkRow : OpenClaim := { program := "ytedbpnfkeabpnaa", sum := "1586d276a1d9f7ee2f46bedede2045276a33f7bb56caa0a88d22beb5d2154df2", func := "loop.example/g00422/laws.FnExactWantOk", spec := "fnExactWantOk", unfollowed := true, recurses := true, apart := false }
def FnExactWantOkSaid : Prop := fnExactWantOkRow.holds Try.pinned (OpenSpec.ofChange fnExactWantOkSpec)

/-- ITS FALSE NEIGHBOUR: 'it returns false'. Refute it at one input. -/
def fnExactWantOkWrong : ChangeSpec := { name := "fnExactWantOk", fn := fun _ => fun
  | [d] => { results := [.lit (.bool false)], args := [d] }
  | _ => none }
def FnExactWantOkWrongFalsely : Prop := fnExactWantOkRow.holds Try.pinned (OpenSpec.ofChange fnExactWantOkWrong)

/-- 'laws.FnExactDataPut': WHATEVER THE INPUT: true; the input reads as it did. -/
def fnExactDataPutSpec : ChangeSpec := { name := "fnExactDataPut", fn := fun _ => fun
  | [d] => { results := [.lit (.bool true)], args := [d] }
  | _ => none }
def fnExactDataPutRow : OpenClaim := { program := "ytedbpnfkeabpnaa", sum := "1586d276a1d9f7ee2f46bedede2045276a33f7bb56caa0a88d22beb5d2154df2", func := "loop.example/g00422/laws.FnExactDataPut", spec := "fnExactDataPut", unfollowed := true, recurses := true, apart := false }
def FnExactDataPutSaid : Prop := fnExactDataPutRow.holds Try.pinned (OpenSpec.ofChange fnExactDataPutSpec)

/-- ITS FALSE NEIGHBOUR: 'it returns false'. Refute it at one input. -/
def fnExactDataPutWrong : ChangeSpec := { name := "fnExactDataPut", fn := fun _ => fun
  | [d] => { results := [.lit (.bool false)], args := [d] }
  | _ => none }
def FnExactDataPutWrongFalsely : Prop := fnExactDataPutRow.holds Try.pinned (OpenSpec.ofChange fnExactDataPutWrong)

/-- 'laws.FnExactDhcid': WHATEVER THE INPUT: true; the input reads as it did. -/
def fnExactDhcidSpec : ChangeSpec := { name := "fnExactDhcid", fn := fun _ => fun
  | [d1, d2] => { results := [.lit (.bool true)], args := [d1, d2] }
  | _ => none }
def fnExactDhcidRow : OpenClaim := { program := "ytedbpnfkeabpnaa", sum := "1586d276a1d9f7ee2f46bedede2045276a33f7bb56caa0a88d22beb5d2154df2", func := "loop.example/g00422/laws.FnExactDhcid", spec := "fnExactDhcid", inPlace := ["math/bits.Add64"], unfollowed := true, recurses := true, apart := false }
def FnExactDhcidSaid : Prop := fnExactDhcidRow.holds Try.pinned (OpenSpec.ofChange fnExactDhcidSpec)

/-- ITS FALSE NEIGHBOUR: 'it returns false'. Refute it at one input. -/
def fnExactDhcidWrong : ChangeSpec := { name := "fnExactDhcid", fn := fun _ => fun
  | [d1, d2] => { results := [.lit (.bool false)], args := [d1, d2] }
  | _ => none }
def FnExactDhcidWrongFalsely : Prop := fnExactDhcidRow.holds Try.pinned (OpenSpec.ofChange fnExactDhcidWrong)

/-- 'laws.FnExactRrSame': WHATEVER THE INPUT: true; the input reads as it did. -/
def fnExactRrSameSpec : ChangeSpec := { name := "fnExactRrSame", fn := fun _ => fun
  | [d1, d2] => { results := [.lit (.bool true)], args := [d1, d2] }
  | _ => none }
def fnExactRrSameRow : OpenClaim := { program := "ytedbpnfkeabpnaa", sum := "1586d276a1d9f7ee2f46bedede2045276a33f7bb56caa0a88d22beb5d2154df2", func := "loop.example/g00422/laws.FnExactRrSame", spec := "fnExactRrSame", inPlace := ["internal/bytealg.Compare"], unfollowed := true, recurses := true, apart := false }
def FnExactRrSameSaid : Prop := fnExactRrSameRow.holds Try.pinned (OpenSpec.ofChange fnExactRrSameSpec)

/-- ITS FALSE NEIGHBOUR: 'it returns false'. Refute it at one input. -/
def fnExactRrSameWrong : ChangeSpec := { name := "fnExactRrSame", fn := fun _ => fun
  | [d1, d2] => { results := [.lit (.bool false)], args := [d1, d2] }
  | _ => none }
def FnExactRrSameWrongFalsely : Prop := fnExactRrSameRow.holds Try.pinned (OpenSpec.ofChange fnExactRrSameWrong)

/-- 'laws.FnExactRrPut': WHATEVER THE INPUT: true; the input reads as it did. -/
def fnExactRrPutSpec : ChangeSpec := { name := "fnExactRrPut", fn := fun _ => fun
  | [d1, d2] => { results := [.lit (.bool true)], args := [d1, d2] }
  | _ => none }
def fnExactRrPutRow : OpenClaim := { program := "ytedbpnfkeabpnaa", sum := "1586d276a1d9f7ee2f46bedede2045276a33f7bb56caa0a88d22beb5d2154df2", func := "loop.example/g00422/laws.FnExactRrPut", spec := "fnExactRrPut", unfollowed := true, recurses := true, apart := false }
def FnExactRrPutSaid : Prop := fnExactRrPutRow.holds Try.pinned (OpenSpec.ofChange fnExactRrPutSpec)

/-- ITS FALSE NEIGHBOUR: 'it returns false'. Refute it at one input. -/
def fnExactRrPutWrong : ChangeSpec := { name := "fnExactRrPut", fn := fun _ => fun
  | [d1, d2] => { results := [.lit (.bool false)], args := [d1, d2] }
  | _ => none }
def FnExactRrPutWrongFalsely : Prop := fnExactRrPutRow.holds Try.pinned (OpenSpec.ofChange fnExactRrPutWrong)

/- THE SECOND FORM. 'bulk': how many values and letters a reading holds, each counted each time it is reached (what is shared counts as often as it is met; a slice's spare places count too). A statement '..UptoSaid' is the law's where the arguments, and the package variables that the reading takes, are together of bulk at most 1048576: NARROWER than '..Said'. Prove '..Said' where nothing that the law and all that it calls make is longer than what came in: it says more and counts as full. Else prove '..UptoSaid'. A law counts once. -/
mutual
def uptoBulk {H : Type} : DataW H → Nat
  | .lit (.string bytes) => bytes.length + 1
  | .lit _ => 1
  | .nil => 1
  | .ptr d => uptoBulk d + 1
  | .slice elems spare => uptoBulkAll elems + uptoBulkAll spare + 1
  | .agg parts => uptoBulkAll parts + 1
  | .iface _ d => uptoBulk d + 1
  | .map entries => uptoBulkEntries entries + 1
  | .held _ => 1
def uptoBulkAll {H : Type} : List (DataW H) → Nat
  | [] => 0
  | d :: r => uptoBulk d + uptoBulkAll r
def uptoBulkEntries {H : Type} : List (Lit × DataW H) → Nat
  | [] => 0
  | x :: r => uptoBulkEntry x + uptoBulkEntries r
def uptoBulkEntry {H : Type} : Lit × DataW H → Nat
  | (.string bytes, d) => bytes.length + uptoBulk d + 1
  | (_, d) => uptoBulk d + 1
 end
def uptoSmall : (H : Type) → List (DataW H) → Bool := fun _ ds => decide (uptoBulkAll ds ≤ 1048576)
def OpenSpec.upto (s : _root_.Go.ChangeSpec) : _root_.Go.OpenSpec := { _root_.Go.OpenSpec.ofChange s with cond := some uptoSmall }

/-- 'laws.FnExactNameCmp', WHERE WHAT IT READS IS OF BULK AT MOST 1048576: true; the input reads as it did. -/
def fnExactNameCmpUptoRow : OpenClaim := { program := "ytedbpnfkeabpnaa", sum := "1586d276a1d9f7ee2f46bedede2045276a33f7bb56caa0a88d22beb5d2154df2", func := "loop.example/g00422/laws.FnExactNameCmp", spec := "fnExactNameCmp", inPlace := ["internal/bytealg.Compare"], unfollowed := true, recurses := true, apart := false, narrowed := true }
def FnExactNameCmpUptoSaid : Prop := fnExactNameCmpUptoRow.holds Try.pinned (OpenSpec.upto fnExactNameCmpSpec)

/-- 'laws.FnExactNamePut', WHERE WHAT IT READS IS OF BULK AT MOST 1048576: true; the input reads as it did. -/
def fnExactNamePutUptoRow : OpenClaim := { program := "ytedbpnfkeabpnaa", sum := "1586d276a1d9f7ee2f46bedede2045276a33f7bb56caa0a88d22beb5d2154df2", func := "loop.example/g00422/laws.FnExactNamePut", spec := "fnExactNamePut", unfollowed := true, recurses := true, apart := false, narrowed := true }
def FnExactNamePutUptoSaid : Prop := fnExactNamePutUptoRow.holds Try.pinned (OpenSpec.upto fnExactNamePutSpec)

/-- 'laws.FnExactNameGet', WHERE WHAT IT READS IS OF BULK AT MOST 1048576: true; the input reads as it did. -/
def fnExactNameGetUptoRow : OpenClaim := { program := "ytedbpnfkeabpnaa", sum := "1586d276a1d9f7ee2f46bedede2045276a33f7bb56caa0a88d22beb5d2154df2", func := "loop.example/g00422/laws.FnExactNameGet", spec := "fnExactNameGet", unfollowed := true, recurses := true, apart := false, narrowed := true }
def FnExactNameGetUptoSaid : Prop := fnExactNameGetUptoRow.holds Try.pinned (OpenSpec.upto fnExactNameGetSpec)

/-- 'laws.FnExactRrOk', WHERE WHAT IT READS IS OF BULK AT MOST 1048576: true; the input reads as it did. -/
def fnExactRrOkUptoRow : OpenClaim := { program := "ytedbpnfkeabpnaa", sum := "1586d276a1d9f7ee2f46bedede2045276a33f7bb56caa0a88d22beb5d2154df2", func := "loop.example/g00422/laws.FnExactRrOk", spec := "fnExactRrOk", unfollowed := true, recurses := true, apart := false, narrowed := true }
def FnExactRrOkUptoSaid : Prop := fnExactRrOkUptoRow.holds Try.pinned (OpenSpec.upto fnExactRrOkSpec)

/-- 'laws.FnExactSha256', WHERE WHAT IT READS IS OF BULK AT MOST 1048576: true; the input reads as it did. -/
def fnExactSha256UptoRow : OpenClaim := { program := "ytedbpnfkeabpnaa", sum := "1586d276a1d9f7ee2f46bedede2045276a33f7bb56caa0a88d22beb5d2154df2", func := "loop.example/g00422/laws.FnExactSha256", spec := "fnExactSha256", inPlace := ["math/bits.Add64"], unfollowed := true, recurses := true, apart := false, narrowed := true }
def FnExactSha256UptoSaid : Prop := fnExactSha256UptoRow.holds Try.pinned (OpenSpec.upto fnExactSha256Spec)

/-- 'laws.FnExactWantOk', WHERE WHAT IT READS IS OF BULK AT MOST 1048576: true; the input reads as it did. -/
def fnExactWantOkUptoRow : OpenClaim := { program := "ytedbpnfkeabpnaa", sum := "1586d276a1d9f7ee2f46bedede2045276a33f7bb56caa0a88d22beb5d2154df2", func := "loop.example/g00422/laws.FnExactWantOk", spec := "fnExactWantOk", unfollowed := true, recurses := true, apart := false, narrowed := true }
def FnExactWantOkUptoSaid : Prop := fnExactWantOkUptoRow.holds Try.pinned (OpenSpec.upto fnExactWantOkSpec)

/-- 'laws.FnExactDataPut', WHERE WHAT IT READS IS OF BULK AT MOST 1048576: true; the input reads as it did. -/
def fnExactDataPutUptoRow : OpenClaim := { program := "ytedbpnfkeabpnaa", sum := "1586d276a1d9f7ee2f46bedede2045276a33f7bb56caa0a88d22beb5d2154df2", func := "loop.example/g00422/laws.FnExactDataPut", spec := "fnExactDataPut", unfollowed := true, recurses := true, apart := false, narrowed := true }
def FnExactDataPutUptoSaid : Prop := fnExactDataPutUptoRow.holds Try.pinned (OpenSpec.upto fnExactDataPutSpec)

/-- 'laws.FnExactDhcid', WHERE WHAT IT READS IS OF BULK AT MOST 1048576: true; the input reads as it did. -/
def fnExactDhcidUptoRow : OpenClaim := { program := "ytedbpnfkeabpnaa", sum := "1586d276a1d9f7ee2f46bedede2045276a33f7bb56caa0a88d22beb5d2154df2", func := "loop.example/g00422/laws.FnExactDhcid", spec := "fnExactDhcid", inPlace := ["math/bits.Add64"], unfollowed := true, recurses := true, apart := false, narrowed := true }
def FnExactDhcidUptoSaid : Prop := fnExactDhcidUptoRow.holds Try.pinned (OpenSpec.upto fnExactDhcidSpec)

/-- 'laws.FnExactRrSame', WHERE WHAT IT READS IS OF BULK AT MOST 1048576: true; the input reads as it did. -/
def fnExactRrSameUptoRow : OpenClaim := { program := "ytedbpnfkeabpnaa", sum := "1586d276a1d9f7ee2f46bedede2045276a33f7bb56caa0a88d22beb5d2154df2", func := "loop.example/g00422/laws.FnExactRrSame", spec := "fnExactRrSame", inPlace := ["internal/bytealg.Compare"], unfollowed := true, recurses := true, apart := false, narrowed := true }
def FnExactRrSameUptoSaid : Prop := fnExactRrSameUptoRow.holds Try.pinned (OpenSpec.upto fnExactRrSameSpec)

/-- 'laws.FnExactRrPut', WHERE WHAT IT READS IS OF BULK AT MOST 1048576: true; the input reads as it did. -/
def fnExactRrPutUptoRow : OpenClaim := { program := "ytedbpnfkeabpnaa", sum := "1586d276a1d9f7ee2f46bedede2045276a33f7bb56caa0a88d22beb5d2154df2", func := "loop.example/g00422/laws.FnExactRrPut", spec := "fnExactRrPut", unfollowed := true, recurses := true, apart := false, narrowed := true }
def FnExactRrPutUptoSaid : Prop := fnExactRrPutUptoRow.holds Try.pinned (OpenSpec.upto fnExactRrPutSpec)

end Rows
end Go.Proofs.Ytedbpnfkeabpnaa
