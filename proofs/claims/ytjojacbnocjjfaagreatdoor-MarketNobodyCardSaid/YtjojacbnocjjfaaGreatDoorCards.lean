/-
  DERIVED. GIVEN WITH THE SEED: THE CARDS: each row of YtjojacbnocjjfaaGreatDoorRows.lean that lists a variable, with what it lists TIED to the program's text (the seventh form; the later family's looks); each row that meets fmt, with fmt's text TOLD by the authors' own Lean function (tested against real Go, not proved from fmt's source: count such statements apart). THE CARD IS WHAT COUNTS. Prove the row's statement (the work); the ties are given (YtjojacbnocjjfaaGreatDoorTie.lean); close each card by the builder's one call (the guide's Derived/Test/ToyasCard.lean, 'card_holds'). Laid BY PROGRAM, IN A SANDBOX (cutbox-door.mjs). By AI agents, Wed Nov 11 2026. No macro, syntax, notation, axiom, sorry.
-/
import Derived.Test.YtjojacbnocjjfaaGreatDoorRows
import GoSem.ClaimSeven
namespace Go.Proofs.YtjojacbnocjjfaaGreatDoor
namespace Rows

/-- THE TIED CARD OF 'jobberlaw22.MarketNobody'. -/
def marketNobodyCard : Claim7 := { stood := { row := marketNobodyRow, standIns := [], harness := (true, "e6782223ca8305ddc808ad95a8550713418b6db27573b5795e11bc027556d539"), looks := true }, kinds := [], alts := [], laidByText := true, laidKinds := [.handle], laidTests := true, laidLooks := .later }
def MarketNobodyCardSaid : Prop := Claim7.holds Tryz.pinned (.plain (OpenSpec.ofChange marketNobodySpec)) marketNobodyCard

/-- THE SECOND FORM's CARD OF 'jobberlaw22.MarketNobody'. -/
def marketNobodyUptoCard : Claim7 := { stood := { row := marketNobodyUptoRow, standIns := [], harness := (true, "e6782223ca8305ddc808ad95a8550713418b6db27573b5795e11bc027556d539"), looks := true }, kinds := [], alts := [], laidByText := true, laidKinds := [.handle], laidTests := true, laidLooks := .later }
def MarketNobodyUptoCardSaid : Prop := Claim7.holds Tryz.pinned (.plain (OpenSpec.upto marketNobodySpec)) marketNobodyUptoCard
end Rows
end Go.Proofs.YtjojacbnocjjfaaGreatDoor
