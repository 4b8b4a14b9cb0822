/-
  DERIVED. GIVEN WITH THE SEED: THE CARDS: each row of YthnodmbenbiahaaGreatDoorRows.lean that lists a variable, with what it lists TIED to the program's text (the seventh form; the later family's looks); each row that meets fmt, with fmt's text TOLD by the authors' own Lean function (tested against real Go, not proved from fmt's source: count such statements apart). THE CARD IS WHAT COUNTS. Prove the row's statement (the work); the ties are given (YthnodmbenbiahaaGreatDoorTie.lean); close each card by the builder's one call (the guide's Derived/Test/ToyasCard.lean, 'card_holds'). Laid BY PROGRAM, IN A SANDBOX (cutbox-door.mjs). By AI agents, Wed Nov 11 2026. No macro, syntax, notation, axiom, sorry.
-/
import Derived.Test.YthnodmbenbiahaaGreatDoorRows
import GoSem.ClaimSeven
namespace Go.Proofs.YthnodmbenbiahaaGreatDoor
namespace Rows

/-- THE TIED CARD OF 'gudgeonlaw08.SnapLoads'. -/
def snapLoadsCard : Claim7 := { stood := { row := snapLoadsRow, standIns := [], harness := (true, "64235f4845567d5e4540342690562ede08653a38e5845cefeff1aa29e0a76de6"), looks := true }, kinds := [], alts := [], laidByText := true, laidKinds := [.data, .data, .data, .data, .data, .pinned], laidTests := true, laidLooks := .later }
def SnapLoadsCardSaid : Prop := Claim7.holds Tryz.pinned (.plain (OpenSpec.ofChange snapLoadsSpec)) snapLoadsCard

/-- THE TIED CARD OF 'gudgeonlaw08.SnapActs'. -/
def snapActsCard : Claim7 := { stood := { row := snapActsRow, standIns := [], harness := (true, "64235f4845567d5e4540342690562ede08653a38e5845cefeff1aa29e0a76de6"), looks := true }, kinds := [], alts := [], laidByText := true, laidKinds := [.data, .data, .data, .data, .data, .pinned], laidTests := true, laidLooks := .later }
def SnapActsCardSaid : Prop := Claim7.holds Tryz.pinned (.plain (OpenSpec.ofChange snapActsSpec)) snapActsCard

/-- THE TIED CARD OF 'gudgeonlaw07.HardDecodes'. -/
def hardDecodesCard : Claim7 := { stood := { row := hardDecodesRow, standIns := [], harness := (true, "64235f4845567d5e4540342690562ede08653a38e5845cefeff1aa29e0a76de6"), looks := true }, kinds := [], alts := [], laidByText := true, laidKinds := [.data, .data, .data, .data, .data, .pinned], laidTests := true, laidLooks := .later }
def HardDecodesCardSaid : Prop := Claim7.holds Tryz.pinned (.plain (OpenSpec.ofChange hardDecodesSpec)) hardDecodesCard

/-- THE TIED CARD OF 'gudgeonlaw07.HardCodes'. -/
def hardCodesCard : Claim7 := { stood := { row := hardCodesRow, standIns := [], harness := (true, "64235f4845567d5e4540342690562ede08653a38e5845cefeff1aa29e0a76de6"), looks := true }, kinds := [], alts := [], laidByText := true, laidKinds := [.data, .data, .data, .data, .data, .pinned], laidTests := true, laidLooks := .later }
def HardCodesCardSaid : Prop := Claim7.holds Tryz.pinned (.plain (OpenSpec.ofChange hardCodesSpec)) hardCodesCard

/-- THE TIED CARD OF 'gudgeonlaw08.SnapGathers'. -/
def snapGathersCard : Claim7 := { stood := { row := snapGathersRow, standIns := [], harness := (true, "64235f4845567d5e4540342690562ede08653a38e5845cefeff1aa29e0a76de6"), looks := true }, kinds := [], alts := [], laidByText := true, laidKinds := [.data, .data, .data, .data, .data, .pinned], laidTests := true, laidLooks := .later }
def SnapGathersCardSaid : Prop := Claim7.holds Tryz.pinned (.plain (OpenSpec.ofChange snapGathersSpec)) snapGathersCard

/-- THE TIED CARD OF 'gudgeonlaw08.SnapNobody'. -/
def snapNobodyCard : Claim7 := { stood := { row := snapNobodyRow, standIns := [], harness := (true, "64235f4845567d5e4540342690562ede08653a38e5845cefeff1aa29e0a76de6"), looks := true }, kinds := [], alts := [], laidByText := true, laidKinds := [.data, .data, .data, .data, .data, .pinned], laidTests := true, laidLooks := .later }
def SnapNobodyCardSaid : Prop := Claim7.holds Tryz.pinned (.plain (OpenSpec.ofChange snapNobodySpec)) snapNobodyCard

/-- THE TIED CARD OF 'gudgeonlaw07.HardActs'. -/
def hardActsCard : Claim7 := { stood := { row := hardActsRow, standIns := [], harness := (true, "64235f4845567d5e4540342690562ede08653a38e5845cefeff1aa29e0a76de6"), looks := true }, kinds := [], alts := [], laidByText := true, laidKinds := [.data, .data, .data, .data, .data, .pinned], laidTests := true, laidLooks := .later }
def HardActsCardSaid : Prop := Claim7.holds Tryz.pinned (.plain (OpenSpec.ofChange hardActsSpec)) hardActsCard

/-- THE TIED CARD OF 'gudgeonlaw06.WalSafe'. -/
def walSafeCard : Claim7 := { stood := { row := walSafeRow, standIns := [], harness := (true, "64235f4845567d5e4540342690562ede08653a38e5845cefeff1aa29e0a76de6"), looks := true }, kinds := [], alts := [], laidByText := true, laidKinds := [.data, .data, .data, .data, .data, .sentinel, .sentinel, .pinned], laidTests := true, laidLooks := .later }
def WalSafeCardSaid : Prop := Claim7.holds Tryz.pinned (.plain (OpenSpec.ofChange walSafeSpec)) walSafeCard

/-- THE TIED CARD OF 'gudgeonlaw06.WalActs'. -/
def walActsCard : Claim7 := { stood := { row := walActsRow, standIns := [], harness := (true, "64235f4845567d5e4540342690562ede08653a38e5845cefeff1aa29e0a76de6"), looks := true }, kinds := [], alts := [], laidByText := true, laidKinds := [.data, .data, .data, .data, .data, .sentinel, .sentinel, .pinned], laidTests := true, laidLooks := .later }
def WalActsCardSaid : Prop := Claim7.holds Tryz.pinned (.plain (OpenSpec.ofChange walActsSpec)) walActsCard

/-- THE TIED CARD OF 'gudgeonlaw06.WalNobody'. -/
def walNobodyCard : Claim7 := { stood := { row := walNobodyRow, standIns := [], harness := (true, "64235f4845567d5e4540342690562ede08653a38e5845cefeff1aa29e0a76de6"), looks := true }, kinds := [], alts := [], laidByText := true, laidKinds := [.data, .data, .data, .data, .data, .sentinel, .sentinel, .pinned], laidTests := true, laidLooks := .later }
def WalNobodyCardSaid : Prop := Claim7.holds Tryz.pinned (.plain (OpenSpec.ofChange walNobodySpec)) walNobodyCard

/-- THE SECOND FORM's CARD OF 'gudgeonlaw08.SnapLoads'. -/
def snapLoadsUptoCard : Claim7 := { stood := { row := snapLoadsUptoRow, standIns := [], harness := (true, "64235f4845567d5e4540342690562ede08653a38e5845cefeff1aa29e0a76de6"), looks := true }, kinds := [], alts := [], laidByText := true, laidKinds := [.data, .data, .data, .data, .data, .pinned], laidTests := true, laidLooks := .later }
def SnapLoadsUptoCardSaid : Prop := Claim7.holds Tryz.pinned (.plain (OpenSpec.upto snapLoadsSpec)) snapLoadsUptoCard

/-- THE SECOND FORM's CARD OF 'gudgeonlaw08.SnapActs'. -/
def snapActsUptoCard : Claim7 := { stood := { row := snapActsUptoRow, standIns := [], harness := (true, "64235f4845567d5e4540342690562ede08653a38e5845cefeff1aa29e0a76de6"), looks := true }, kinds := [], alts := [], laidByText := true, laidKinds := [.data, .data, .data, .data, .data, .pinned], laidTests := true, laidLooks := .later }
def SnapActsUptoCardSaid : Prop := Claim7.holds Tryz.pinned (.plain (OpenSpec.upto snapActsSpec)) snapActsUptoCard

/-- THE SECOND FORM's CARD OF 'gudgeonlaw07.HardDecodes'. -/
def hardDecodesUptoCard : Claim7 := { stood := { row := hardDecodesUptoRow, standIns := [], harness := (true, "64235f4845567d5e4540342690562ede08653a38e5845cefeff1aa29e0a76de6"), looks := true }, kinds := [], alts := [], laidByText := true, laidKinds := [.data, .data, .data, .data, .data, .pinned], laidTests := true, laidLooks := .later }
def HardDecodesUptoCardSaid : Prop := Claim7.holds Tryz.pinned (.plain (OpenSpec.upto hardDecodesSpec)) hardDecodesUptoCard

/-- THE SECOND FORM's CARD OF 'gudgeonlaw07.HardCodes'. -/
def hardCodesUptoCard : Claim7 := { stood := { row := hardCodesUptoRow, standIns := [], harness := (true, "64235f4845567d5e4540342690562ede08653a38e5845cefeff1aa29e0a76de6"), looks := true }, kinds := [], alts := [], laidByText := true, laidKinds := [.data, .data, .data, .data, .data, .pinned], laidTests := true, laidLooks := .later }
def HardCodesUptoCardSaid : Prop := Claim7.holds Tryz.pinned (.plain (OpenSpec.upto hardCodesSpec)) hardCodesUptoCard

/-- THE SECOND FORM's CARD OF 'gudgeonlaw08.SnapGathers'. -/
def snapGathersUptoCard : Claim7 := { stood := { row := snapGathersUptoRow, standIns := [], harness := (true, "64235f4845567d5e4540342690562ede08653a38e5845cefeff1aa29e0a76de6"), looks := true }, kinds := [], alts := [], laidByText := true, laidKinds := [.data, .data, .data, .data, .data, .pinned], laidTests := true, laidLooks := .later }
def SnapGathersUptoCardSaid : Prop := Claim7.holds Tryz.pinned (.plain (OpenSpec.upto snapGathersSpec)) snapGathersUptoCard

/-- THE SECOND FORM's CARD OF 'gudgeonlaw08.SnapNobody'. -/
def snapNobodyUptoCard : Claim7 := { stood := { row := snapNobodyUptoRow, standIns := [], harness := (true, "64235f4845567d5e4540342690562ede08653a38e5845cefeff1aa29e0a76de6"), looks := true }, kinds := [], alts := [], laidByText := true, laidKinds := [.data, .data, .data, .data, .data, .pinned], laidTests := true, laidLooks := .later }
def SnapNobodyUptoCardSaid : Prop := Claim7.holds Tryz.pinned (.plain (OpenSpec.upto snapNobodySpec)) snapNobodyUptoCard

/-- THE SECOND FORM's CARD OF 'gudgeonlaw07.HardActs'. -/
def hardActsUptoCard : Claim7 := { stood := { row := hardActsUptoRow, standIns := [], harness := (true, "64235f4845567d5e4540342690562ede08653a38e5845cefeff1aa29e0a76de6"), looks := true }, kinds := [], alts := [], laidByText := true, laidKinds := [.data, .data, .data, .data, .data, .pinned], laidTests := true, laidLooks := .later }
def HardActsUptoCardSaid : Prop := Claim7.holds Tryz.pinned (.plain (OpenSpec.upto hardActsSpec)) hardActsUptoCard

/-- THE SECOND FORM's CARD OF 'gudgeonlaw06.WalSafe'. -/
def walSafeUptoCard : Claim7 := { stood := { row := walSafeUptoRow, standIns := [], harness := (true, "64235f4845567d5e4540342690562ede08653a38e5845cefeff1aa29e0a76de6"), looks := true }, kinds := [], alts := [], laidByText := true, laidKinds := [.data, .data, .data, .data, .data, .sentinel, .sentinel, .pinned], laidTests := true, laidLooks := .later }
def WalSafeUptoCardSaid : Prop := Claim7.holds Tryz.pinned (.plain (OpenSpec.upto walSafeSpec)) walSafeUptoCard

/-- THE SECOND FORM's CARD OF 'gudgeonlaw06.WalActs'. -/
def walActsUptoCard : Claim7 := { stood := { row := walActsUptoRow, standIns := [], harness := (true, "64235f4845567d5e4540342690562ede08653a38e5845cefeff1aa29e0a76de6"), looks := true }, kinds := [], alts := [], laidByText := true, laidKinds := [.data, .data, .data, .data, .data, .sentinel, .sentinel, .pinned], laidTests := true, laidLooks := .later }
def WalActsUptoCardSaid : Prop := Claim7.holds Tryz.pinned (.plain (OpenSpec.upto walActsSpec)) walActsUptoCard

/-- THE SECOND FORM's CARD OF 'gudgeonlaw06.WalNobody'. -/
def walNobodyUptoCard : Claim7 := { stood := { row := walNobodyUptoRow, standIns := [], harness := (true, "64235f4845567d5e4540342690562ede08653a38e5845cefeff1aa29e0a76de6"), looks := true }, kinds := [], alts := [], laidByText := true, laidKinds := [.data, .data, .data, .data, .data, .sentinel, .sentinel, .pinned], laidTests := true, laidLooks := .later }
def WalNobodyUptoCardSaid : Prop := Claim7.holds Tryz.pinned (.plain (OpenSpec.upto walNobodySpec)) walNobodyUptoCard
end Rows
end Go.Proofs.YthnodmbenbiahaaGreatDoor
