/-
  DERIVED. GIVEN WITH THE SEED: THE CARDS: each row of YtijemcbcchnnjaaDoorRows.lean that lists a variable, with what it lists TIED to the program's text (the seventh form; the later family's looks); each row that meets fmt, with fmt's text TOLD by the authors' own Lean function (tested against real Go, not proved from fmt's source: count such statements apart). THE CARD IS WHAT COUNTS. Prove the row's statement (the work); the ties are given (YtijemcbcchnnjaaDoorTie.lean); close each card by the builder's one call (the guide's Derived/Test/ToyasCard.lean, 'card_holds'). Laid BY PROGRAM, IN A SANDBOX (cutbox-door.mjs). By AI agents, Wed Nov 11 2026. No macro, syntax, notation, axiom, sorry.
-/
import Derived.Test.YtijemcbcchnnjaaDoorRows
import GoSem.ClaimSeven
namespace Go.Proofs.YtijemcbcchnnjaaDoor
namespace Rows

/-- THE TIED CARD OF 'laws.FnExactChangeText'. -/
def fnExactChangeTextCard : Claim7 := { stood := { row := fnExactChangeTextRow, standIns := [], harness := (true, "f33ce22e56b9bc764aa61ebef71ceedb6ba354f076711c9887b7b65795176616"), looks := true }, kinds := [], alts := [], laidByText := true, laidKinds := [.data, .data, .data], laidTests := true, laidLooks := .later }
def FnExactChangeTextCardSaid : Prop := Claim7.holds Tryd.pinned (.plain (OpenSpec.ofChange fnExactChangeTextSpec)) fnExactChangeTextCard

/-- THE TIED CARD OF 'laws.FnExactReadChangeText'. -/
def fnExactReadChangeTextCard : Claim7 := { stood := { row := fnExactReadChangeTextRow, standIns := [], harness := (true, "f33ce22e56b9bc764aa61ebef71ceedb6ba354f076711c9887b7b65795176616"), looks := true }, kinds := [], alts := [], laidByText := true, laidKinds := [.data, .data, .data, .data, .sentinel, .sentinel, .pinned], laidTests := true, laidLooks := .later }
def FnExactReadChangeTextCardSaid : Prop := Claim7.holds Tryd.pinned (.plain (OpenSpec.ofChange fnExactReadChangeTextSpec)) fnExactReadChangeTextCard

/-- THE TIED CARD OF 'laws.FnTexts'. -/
def fnTextsCard : Claim7 := { stood := { row := fnTextsRow, standIns := [], harness := (true, "f33ce22e56b9bc764aa61ebef71ceedb6ba354f076711c9887b7b65795176616"), looks := true }, kinds := [], alts := [], laidByText := true, laidKinds := [.data, .data, .data, .data, .sentinel, .sentinel, .pinned], laidTests := true, laidLooks := .later }
def FnTextsCardSaid : Prop := Claim7.holds Tryd.pinned (.plain (OpenSpec.ofChange fnTextsSpec)) fnTextsCard

/-- THE SECOND FORM's CARD OF 'laws.FnExactChangeText'. -/
def fnExactChangeTextUptoCard : Claim7 := { stood := { row := fnExactChangeTextUptoRow, standIns := [], harness := (true, "f33ce22e56b9bc764aa61ebef71ceedb6ba354f076711c9887b7b65795176616"), looks := true }, kinds := [], alts := [], laidByText := true, laidKinds := [.data, .data, .data], laidTests := true, laidLooks := .later }
def FnExactChangeTextUptoCardSaid : Prop := Claim7.holds Tryd.pinned (.plain (OpenSpec.upto fnExactChangeTextSpec)) fnExactChangeTextUptoCard

/-- THE SECOND FORM's CARD OF 'laws.FnExactReadChangeText'. -/
def fnExactReadChangeTextUptoCard : Claim7 := { stood := { row := fnExactReadChangeTextUptoRow, standIns := [], harness := (true, "f33ce22e56b9bc764aa61ebef71ceedb6ba354f076711c9887b7b65795176616"), looks := true }, kinds := [], alts := [], laidByText := true, laidKinds := [.data, .data, .data, .data, .sentinel, .sentinel, .pinned], laidTests := true, laidLooks := .later }
def FnExactReadChangeTextUptoCardSaid : Prop := Claim7.holds Tryd.pinned (.plain (OpenSpec.upto fnExactReadChangeTextSpec)) fnExactReadChangeTextUptoCard

/-- THE SECOND FORM's CARD OF 'laws.FnTexts'. -/
def fnTextsUptoCard : Claim7 := { stood := { row := fnTextsUptoRow, standIns := [], harness := (true, "f33ce22e56b9bc764aa61ebef71ceedb6ba354f076711c9887b7b65795176616"), looks := true }, kinds := [], alts := [], laidByText := true, laidKinds := [.data, .data, .data, .data, .sentinel, .sentinel, .pinned], laidTests := true, laidLooks := .later }
def FnTextsUptoCardSaid : Prop := Claim7.holds Tryd.pinned (.plain (OpenSpec.upto fnTextsSpec)) fnTextsUptoCard
end Rows
end Go.Proofs.YtijemcbcchnnjaaDoor
