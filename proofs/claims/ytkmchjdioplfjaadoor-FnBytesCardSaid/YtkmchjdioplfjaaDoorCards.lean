/-
  DERIVED. GIVEN WITH THE SEED: THE CARDS: each row of YtkmchjdioplfjaaDoorRows.lean that lists a variable, with what it lists TIED to the program's text (the seventh form; the later family's looks); each row that meets fmt, with fmt's text TOLD by the authors' own Lean function (tested against real Go, not proved from fmt's source: count such statements apart). THE CARD IS WHAT COUNTS. Prove the row's statement (the work); the ties are given (YtkmchjdioplfjaaDoorTie.lean); close each card by the builder's one call (the guide's Derived/Test/ToyasCard.lean, 'card_holds'). Laid BY PROGRAM, IN A SANDBOX (cutbox-door.mjs). By AI agents, Wed Nov 11 2026. No macro, syntax, notation, axiom, sorry.
-/
import Derived.Test.YtkmchjdioplfjaaDoorRows
import GoSem.ClaimSeven
namespace Go.Proofs.YtkmchjdioplfjaaDoor
namespace Rows

/-- THE TIED CARD OF 'laws.FnExactDotted'. -/
def fnExactDottedCard : Claim7 := { stood := { row := fnExactDottedRow, standIns := [], harness := (true, "310ea00eff4c3294a380984402e3c5016447f1790d69ae53d53a9bb8aab6d55c"), looks := true }, kinds := [], alts := [], laidByText := true, laidKinds := [.data, .data, .data], laidTests := true, laidLooks := .later }
def FnExactDottedCardSaid : Prop := Claim7.holds Tryd.pinned (.plain (OpenSpec.ofChange fnExactDottedSpec)) fnExactDottedCard

/-- THE TIED CARD OF 'laws.FnExactReverse'. -/
def fnExactReverseCard : Claim7 := { stood := { row := fnExactReverseRow, standIns := [], harness := (true, "310ea00eff4c3294a380984402e3c5016447f1790d69ae53d53a9bb8aab6d55c"), looks := true }, kinds := [], alts := [], laidByText := true, laidKinds := [.data, .data, .data], laidTests := true, laidLooks := .later }
def FnExactReverseCardSaid : Prop := Claim7.holds Tryd.pinned (.plain (OpenSpec.ofChange fnExactReverseSpec)) fnExactReverseCard

/-- THE TIED CARD OF 'laws.FnExactDottedRead'. -/
def fnExactDottedReadCard : Claim7 := { stood := { row := fnExactDottedReadRow, standIns := [], harness := (true, "310ea00eff4c3294a380984402e3c5016447f1790d69ae53d53a9bb8aab6d55c"), looks := true }, kinds := [], alts := [], laidByText := true, laidKinds := [.data, .data, .data, .data, .sentinel, .sentinel, .pinned], laidTests := true, laidLooks := .later }
def FnExactDottedReadCardSaid : Prop := Claim7.holds Tryd.pinned (.plain (OpenSpec.ofChange fnExactDottedReadSpec)) fnExactDottedReadCard

/-- THE TIED CARD OF 'laws.FnBytes'. -/
def fnBytesCard : Claim7 := { stood := { row := fnBytesRow, standIns := [], harness := (true, "310ea00eff4c3294a380984402e3c5016447f1790d69ae53d53a9bb8aab6d55c"), looks := true }, kinds := [], alts := [], laidByText := true, laidKinds := [.data, .data, .data, .data, .sentinel, .sentinel, .pinned], laidTests := true, laidLooks := .later }
def FnBytesCardSaid : Prop := Claim7.holds Tryd.pinned (.plain (OpenSpec.ofChange fnBytesSpec)) fnBytesCard

/-- THE TIED CARD OF 'laws.FnExactRrText'. -/
def fnExactRrTextCard : Claim7 := { stood := { row := fnExactRrTextRow, standIns := [], harness := (true, "310ea00eff4c3294a380984402e3c5016447f1790d69ae53d53a9bb8aab6d55c"), looks := true }, kinds := [], alts := [], laidByText := true, laidKinds := [.data, .data, .data], laidTests := true, laidLooks := .later }
def FnExactRrTextCardSaid : Prop := Claim7.holds Tryd.pinned (.plain (OpenSpec.ofChange fnExactRrTextSpec)) fnExactRrTextCard

/-- THE SECOND FORM's CARD OF 'laws.FnExactDotted'. -/
def fnExactDottedUptoCard : Claim7 := { stood := { row := fnExactDottedUptoRow, standIns := [], harness := (true, "310ea00eff4c3294a380984402e3c5016447f1790d69ae53d53a9bb8aab6d55c"), looks := true }, kinds := [], alts := [], laidByText := true, laidKinds := [.data, .data, .data], laidTests := true, laidLooks := .later }
def FnExactDottedUptoCardSaid : Prop := Claim7.holds Tryd.pinned (.plain (OpenSpec.upto fnExactDottedSpec)) fnExactDottedUptoCard

/-- THE SECOND FORM's CARD OF 'laws.FnExactReverse'. -/
def fnExactReverseUptoCard : Claim7 := { stood := { row := fnExactReverseUptoRow, standIns := [], harness := (true, "310ea00eff4c3294a380984402e3c5016447f1790d69ae53d53a9bb8aab6d55c"), looks := true }, kinds := [], alts := [], laidByText := true, laidKinds := [.data, .data, .data], laidTests := true, laidLooks := .later }
def FnExactReverseUptoCardSaid : Prop := Claim7.holds Tryd.pinned (.plain (OpenSpec.upto fnExactReverseSpec)) fnExactReverseUptoCard

/-- THE SECOND FORM's CARD OF 'laws.FnExactDottedRead'. -/
def fnExactDottedReadUptoCard : Claim7 := { stood := { row := fnExactDottedReadUptoRow, standIns := [], harness := (true, "310ea00eff4c3294a380984402e3c5016447f1790d69ae53d53a9bb8aab6d55c"), looks := true }, kinds := [], alts := [], laidByText := true, laidKinds := [.data, .data, .data, .data, .sentinel, .sentinel, .pinned], laidTests := true, laidLooks := .later }
def FnExactDottedReadUptoCardSaid : Prop := Claim7.holds Tryd.pinned (.plain (OpenSpec.upto fnExactDottedReadSpec)) fnExactDottedReadUptoCard

/-- THE SECOND FORM's CARD OF 'laws.FnBytes'. -/
def fnBytesUptoCard : Claim7 := { stood := { row := fnBytesUptoRow, standIns := [], harness := (true, "310ea00eff4c3294a380984402e3c5016447f1790d69ae53d53a9bb8aab6d55c"), looks := true }, kinds := [], alts := [], laidByText := true, laidKinds := [.data, .data, .data, .data, .sentinel, .sentinel, .pinned], laidTests := true, laidLooks := .later }
def FnBytesUptoCardSaid : Prop := Claim7.holds Tryd.pinned (.plain (OpenSpec.upto fnBytesSpec)) fnBytesUptoCard

/-- THE SECOND FORM's CARD OF 'laws.FnExactRrText'. -/
def fnExactRrTextUptoCard : Claim7 := { stood := { row := fnExactRrTextUptoRow, standIns := [], harness := (true, "310ea00eff4c3294a380984402e3c5016447f1790d69ae53d53a9bb8aab6d55c"), looks := true }, kinds := [], alts := [], laidByText := true, laidKinds := [.data, .data, .data], laidTests := true, laidLooks := .later }
def FnExactRrTextUptoCardSaid : Prop := Claim7.holds Tryd.pinned (.plain (OpenSpec.upto fnExactRrTextSpec)) fnExactRrTextUptoCard
end Rows
end Go.Proofs.YtkmchjdioplfjaaDoor
