/-
  DERIVED. GIVEN WITH THE SEED: THE CARDS: each row of YtomdhiphiediaaaDoorRows.lean that lists a variable, with what it lists TIED to the program's text (the seventh form; the later family's looks); each row that meets fmt, with fmt's text TOLD by the authors' own Lean function (tested against real Go, not proved from fmt's source: count such statements apart). THE CARD IS WHAT COUNTS. Prove the row's statement (the work); the ties are given (YtomdhiphiediaaaDoorTie.lean); close each card by the builder's one call (the guide's Derived/Test/ToyasCard.lean, 'card_holds'). Laid BY PROGRAM, IN A SANDBOX (cutbox-door.mjs). By AI agents, Wed Nov 11 2026. No macro, syntax, notation, axiom, sorry.
-/
import Derived.Test.YtomdhiphiediaaaDoorRows
import GoSem.ClaimSeven
namespace Go.Proofs.YtomdhiphiediaaaDoor
namespace Rows

/-- THE TIED CARD OF 'lanyardlaw22.MacroPlain'. -/
def macroPlainCard : Claim7 := { stood := { row := macroPlainRow, standIns := [], harness := (true, "803ae0c87ddd0f0687bba798e6f62050c601535bd9b06bbe687e235042b63fe4"), looks := false }, kinds := [], alts := [], laidByText := true, laidKinds := [.data, .pinned], laidTests := true, laidLooks := .later }
def MacroPlainCardSaid : Prop := Claim7.holds Tryd.pinned (.plain (OpenSpec.ofChange macroPlainSpec)) macroPlainCard

/-- THE TIED CARD OF 'lanyardlaw22.MacroNone'. -/
def macroNoneCard : Claim7 := { stood := { row := macroNoneRow, standIns := [], harness := (true, "803ae0c87ddd0f0687bba798e6f62050c601535bd9b06bbe687e235042b63fe4"), looks := false }, kinds := [], alts := [], laidByText := true, laidKinds := [.data, .pinned], laidTests := true, laidLooks := .later }
def MacroNoneCardSaid : Prop := Claim7.holds Tryd.pinned (.plain (OpenSpec.ofChange macroNoneSpec)) macroNoneCard

/-- THE TIED CARD OF 'lanyardlaw22.MacroPastes'. -/
def macroPastesCard : Claim7 := { stood := { row := macroPastesRow, standIns := [], harness := (true, "803ae0c87ddd0f0687bba798e6f62050c601535bd9b06bbe687e235042b63fe4"), looks := false }, kinds := [], alts := [], laidByText := true, laidKinds := [.data, .pinned], laidTests := true, laidLooks := .later }
def MacroPastesCardSaid : Prop := Claim7.holds Tryd.pinned (.plain (OpenSpec.ofChange macroPastesSpec)) macroPastesCard

/-- THE SECOND FORM's CARD OF 'lanyardlaw22.MacroPlain'. -/
def macroPlainUptoCard : Claim7 := { stood := { row := macroPlainUptoRow, standIns := [], harness := (true, "803ae0c87ddd0f0687bba798e6f62050c601535bd9b06bbe687e235042b63fe4"), looks := false }, kinds := [], alts := [], laidByText := true, laidKinds := [.data, .pinned], laidTests := true, laidLooks := .later }
def MacroPlainUptoCardSaid : Prop := Claim7.holds Tryd.pinned (.plain (OpenSpec.upto macroPlainSpec)) macroPlainUptoCard

/-- THE SECOND FORM's CARD OF 'lanyardlaw22.MacroNone'. -/
def macroNoneUptoCard : Claim7 := { stood := { row := macroNoneUptoRow, standIns := [], harness := (true, "803ae0c87ddd0f0687bba798e6f62050c601535bd9b06bbe687e235042b63fe4"), looks := false }, kinds := [], alts := [], laidByText := true, laidKinds := [.data, .pinned], laidTests := true, laidLooks := .later }
def MacroNoneUptoCardSaid : Prop := Claim7.holds Tryd.pinned (.plain (OpenSpec.upto macroNoneSpec)) macroNoneUptoCard

/-- THE SECOND FORM's CARD OF 'lanyardlaw22.MacroPastes'. -/
def macroPastesUptoCard : Claim7 := { stood := { row := macroPastesUptoRow, standIns := [], harness := (true, "803ae0c87ddd0f0687bba798e6f62050c601535bd9b06bbe687e235042b63fe4"), looks := false }, kinds := [], alts := [], laidByText := true, laidKinds := [.data, .pinned], laidTests := true, laidLooks := .later }
def MacroPastesUptoCardSaid : Prop := Claim7.holds Tryd.pinned (.plain (OpenSpec.upto macroPastesSpec)) macroPastesUptoCard
end Rows
end Go.Proofs.YtomdhiphiediaaaDoor
