/-
  DERIVED. GIVEN WITH THE SEED: THE CARDS: each row of YtcaemkcglflmnaaDoorRows.lean that lists a variable, with what it lists TIED to the program's text (the seventh form; the later family's looks); each row that meets fmt, with fmt's text TOLD by the authors' own Lean function (tested against real Go, not proved from fmt's source: count such statements apart). THE CARD IS WHAT COUNTS. Prove the row's statement (the work); the ties are given (YtcaemkcglflmnaaDoorTie.lean); close each card by the builder's one call (the guide's Derived/Test/ToyasCard.lean, 'card_holds'). Laid BY PROGRAM, IN A SANDBOX (cutbox-door.mjs). By AI agents, Wed Nov 11 2026. No macro, syntax, notation, axiom, sorry.
-/
import Derived.Test.YtcaemkcglflmnaaDoorRows
import GoSem.ClaimSeven
namespace Go.Proofs.YtcaemkcglflmnaaDoor
namespace Rows

/-- THE TIED CARD OF 'laws.FnExactWordOfShort'. -/
def fnExactWordOfShortCard : Claim7 := { stood := { row := fnExactWordOfShortRow, standIns := [], harness := (true, "eeddf57f601a29a6e486013fcf47e34ead1e9dd2c692635bcd6ef2b52fa83939"), looks := false }, kinds := [], alts := [], laidByText := true, laidKinds := [.data, .pinned], laidTests := true, laidLooks := .later }
def FnExactWordOfShortCardSaid : Prop := Claim7.holds Tryd.pinned (.plain (OpenSpec.ofChange fnExactWordOfShortSpec)) fnExactWordOfShortCard

/-- THE TIED CARD OF 'laws.FnExactWordText'. -/
def fnExactWordTextCard : Claim7 := { stood := { row := fnExactWordTextRow, standIns := [], harness := (true, "eeddf57f601a29a6e486013fcf47e34ead1e9dd2c692635bcd6ef2b52fa83939"), looks := false }, kinds := [], alts := [], laidByText := true, laidKinds := [.data, .data, .data], laidTests := true, laidLooks := .later }
def FnExactWordTextCardSaid : Prop := Claim7.holds Tryd.pinned (.plain (OpenSpec.ofChange fnExactWordTextSpec)) fnExactWordTextCard

/-- THE TIED CARD OF 'laws.FnExactNotebookText'. -/
def fnExactNotebookTextCard : Claim7 := { stood := { row := fnExactNotebookTextRow, standIns := [], harness := (true, "eeddf57f601a29a6e486013fcf47e34ead1e9dd2c692635bcd6ef2b52fa83939"), looks := false }, kinds := [], alts := [], laidByText := true, laidKinds := [.data, .data, .data], laidTests := true, laidLooks := .later }
def FnExactNotebookTextCardSaid : Prop := Claim7.holds Tryd.pinned (.plain (OpenSpec.ofChange fnExactNotebookTextSpec)) fnExactNotebookTextCard

/-- THE SECOND FORM's CARD OF 'laws.FnExactWordOfShort'. -/
def fnExactWordOfShortUptoCard : Claim7 := { stood := { row := fnExactWordOfShortUptoRow, standIns := [], harness := (true, "eeddf57f601a29a6e486013fcf47e34ead1e9dd2c692635bcd6ef2b52fa83939"), looks := false }, kinds := [], alts := [], laidByText := true, laidKinds := [.data, .pinned], laidTests := true, laidLooks := .later }
def FnExactWordOfShortUptoCardSaid : Prop := Claim7.holds Tryd.pinned (.plain (OpenSpec.upto fnExactWordOfShortSpec)) fnExactWordOfShortUptoCard

/-- THE SECOND FORM's CARD OF 'laws.FnExactWordText'. -/
def fnExactWordTextUptoCard : Claim7 := { stood := { row := fnExactWordTextUptoRow, standIns := [], harness := (true, "eeddf57f601a29a6e486013fcf47e34ead1e9dd2c692635bcd6ef2b52fa83939"), looks := false }, kinds := [], alts := [], laidByText := true, laidKinds := [.data, .data, .data], laidTests := true, laidLooks := .later }
def FnExactWordTextUptoCardSaid : Prop := Claim7.holds Tryd.pinned (.plain (OpenSpec.upto fnExactWordTextSpec)) fnExactWordTextUptoCard

/-- THE SECOND FORM's CARD OF 'laws.FnExactNotebookText'. -/
def fnExactNotebookTextUptoCard : Claim7 := { stood := { row := fnExactNotebookTextUptoRow, standIns := [], harness := (true, "eeddf57f601a29a6e486013fcf47e34ead1e9dd2c692635bcd6ef2b52fa83939"), looks := false }, kinds := [], alts := [], laidByText := true, laidKinds := [.data, .data, .data], laidTests := true, laidLooks := .later }
def FnExactNotebookTextUptoCardSaid : Prop := Claim7.holds Tryd.pinned (.plain (OpenSpec.upto fnExactNotebookTextSpec)) fnExactNotebookTextUptoCard
end Rows
end Go.Proofs.YtcaemkcglflmnaaDoor
