/-
  DERIVED. GIVEN WITH THE SEED: THE CARDS: each row of YtbmplclnondfnaaGreatDoorRows.lean that lists a variable, with what it lists TIED to the program's text (the seventh form; the later family's looks); each row that meets fmt, with fmt's text TOLD by the authors' own Lean function (tested against real Go, not proved from fmt's source: count such statements apart). THE CARD IS WHAT COUNTS. Prove the row's statement (the work); the ties are given (YtbmplclnondfnaaGreatDoorTie.lean); close each card by the builder's one call (the guide's Derived/Test/ToyasCard.lean, 'card_holds'). Laid BY PROGRAM, IN A SANDBOX (cutbox-door.mjs). By AI agents, Wed Nov 11 2026. No macro, syntax, notation, axiom, sorry.
-/
import Derived.Test.YtbmplclnondfnaaGreatDoorRows
import GoSem.ClaimSeven
namespace Go.Proofs.YtbmplclnondfnaaGreatDoor
namespace Rows

/-- THE TIED CARD OF 'quirelaw08.ValuePointers'. -/
def valuePointersCard : Claim7 := { stood := { row := valuePointersRow, standIns := [], harness := (true, "37bd18379f31bfce5f0c66b80177295b4bf5fc6cc3414c54bdae46c186baf685"), looks := true }, kinds := [], alts := [], laidByText := true, laidKinds := [.data, .data, .data, .data, .pinned], laidTests := true, laidLooks := .later }
def ValuePointersCardSaid : Prop := Claim7.holds Tryz.pinned (.plain (OpenSpec.ofChange valuePointersSpec)) valuePointersCard

/-- THE TIED CARD OF 'quirelaw08.ValueMusts'. -/
def valueMustsCard : Claim7 := { stood := { row := valueMustsRow, standIns := [], harness := (true, "37bd18379f31bfce5f0c66b80177295b4bf5fc6cc3414c54bdae46c186baf685"), looks := true }, kinds := [], alts := [], laidByText := true, laidKinds := [.data, .data, .data, .data, .pinned], laidTests := true, laidLooks := .later }
def ValueMustsCardSaid : Prop := Claim7.holds Tryz.pinned (.plain (OpenSpec.ofChange valueMustsSpec)) valueMustsCard

/-- THE TIED CARD OF 'quirelaw08.ValueEqual'. -/
def valueEqualCard : Claim7 := { stood := { row := valueEqualRow, standIns := [], harness := (true, "37bd18379f31bfce5f0c66b80177295b4bf5fc6cc3414c54bdae46c186baf685"), looks := true }, kinds := [], alts := [], laidByText := true, laidKinds := [.data, .data, .data, .data, .pinned], laidTests := true, laidLooks := .later }
def ValueEqualCardSaid : Prop := Claim7.holds Tryz.pinned (.plain (OpenSpec.ofChange valueEqualSpec)) valueEqualCard

/-- THE TIED CARD OF 'quirelaw08.ValuePlays'. -/
def valuePlaysCard : Claim7 := { stood := { row := valuePlaysRow, standIns := [], harness := (true, "37bd18379f31bfce5f0c66b80177295b4bf5fc6cc3414c54bdae46c186baf685"), looks := true }, kinds := [], alts := [], laidByText := true, laidKinds := [.data, .data, .data, .data, .pinned], laidTests := true, laidLooks := .later }
def ValuePlaysCardSaid : Prop := Claim7.holds Tryz.pinned (.plain (OpenSpec.ofChange valuePlaysSpec)) valuePlaysCard

/-- THE TIED CARD OF 'quirelaw08.ValueOrder'. -/
def valueOrderCard : Claim7 := { stood := { row := valueOrderRow, standIns := [], harness := (true, "37bd18379f31bfce5f0c66b80177295b4bf5fc6cc3414c54bdae46c186baf685"), looks := true }, kinds := [], alts := [], laidByText := true, laidKinds := [.data, .data, .data, .data, .pinned], laidTests := true, laidLooks := .later }
def ValueOrderCardSaid : Prop := Claim7.holds Tryz.pinned (.plain (OpenSpec.ofChange valueOrderSpec)) valueOrderCard

/-- THE TIED CARD OF 'quirelaw08.ValueKeeps'. -/
def valueKeepsCard : Claim7 := { stood := { row := valueKeepsRow, standIns := [], harness := (true, "37bd18379f31bfce5f0c66b80177295b4bf5fc6cc3414c54bdae46c186baf685"), looks := true }, kinds := [], alts := [], laidByText := true, laidKinds := [.data, .data, .data, .data, .pinned], laidTests := true, laidLooks := .later }
def ValueKeepsCardSaid : Prop := Claim7.holds Tryz.pinned (.plain (OpenSpec.ofChange valueKeepsSpec)) valueKeepsCard

/-- THE TIED CARD OF 'quirelaw07.ParseKeeps'. -/
def parseKeepsCard : Claim7 := { stood := { row := parseKeepsRow, standIns := [], harness := (true, "37bd18379f31bfce5f0c66b80177295b4bf5fc6cc3414c54bdae46c186baf685"), looks := true }, kinds := [], alts := [], laidByText := true, laidKinds := [.data, .data, .data, .data, .pinned], laidTests := true, laidLooks := .later }
def ParseKeepsCardSaid : Prop := Claim7.holds Tryz.pinned (.plain (OpenSpec.ofChange parseKeepsSpec)) parseKeepsCard

/-- THE SECOND FORM's CARD OF 'quirelaw08.ValuePointers'. -/
def valuePointersUptoCard : Claim7 := { stood := { row := valuePointersUptoRow, standIns := [], harness := (true, "37bd18379f31bfce5f0c66b80177295b4bf5fc6cc3414c54bdae46c186baf685"), looks := true }, kinds := [], alts := [], laidByText := true, laidKinds := [.data, .data, .data, .data, .pinned], laidTests := true, laidLooks := .later }
def ValuePointersUptoCardSaid : Prop := Claim7.holds Tryz.pinned (.plain (OpenSpec.upto valuePointersSpec)) valuePointersUptoCard

/-- THE SECOND FORM's CARD OF 'quirelaw08.ValueMusts'. -/
def valueMustsUptoCard : Claim7 := { stood := { row := valueMustsUptoRow, standIns := [], harness := (true, "37bd18379f31bfce5f0c66b80177295b4bf5fc6cc3414c54bdae46c186baf685"), looks := true }, kinds := [], alts := [], laidByText := true, laidKinds := [.data, .data, .data, .data, .pinned], laidTests := true, laidLooks := .later }
def ValueMustsUptoCardSaid : Prop := Claim7.holds Tryz.pinned (.plain (OpenSpec.upto valueMustsSpec)) valueMustsUptoCard

/-- THE SECOND FORM's CARD OF 'quirelaw08.ValueEqual'. -/
def valueEqualUptoCard : Claim7 := { stood := { row := valueEqualUptoRow, standIns := [], harness := (true, "37bd18379f31bfce5f0c66b80177295b4bf5fc6cc3414c54bdae46c186baf685"), looks := true }, kinds := [], alts := [], laidByText := true, laidKinds := [.data, .data, .data, .data, .pinned], laidTests := true, laidLooks := .later }
def ValueEqualUptoCardSaid : Prop := Claim7.holds Tryz.pinned (.plain (OpenSpec.upto valueEqualSpec)) valueEqualUptoCard

/-- THE SECOND FORM's CARD OF 'quirelaw08.ValuePlays'. -/
def valuePlaysUptoCard : Claim7 := { stood := { row := valuePlaysUptoRow, standIns := [], harness := (true, "37bd18379f31bfce5f0c66b80177295b4bf5fc6cc3414c54bdae46c186baf685"), looks := true }, kinds := [], alts := [], laidByText := true, laidKinds := [.data, .data, .data, .data, .pinned], laidTests := true, laidLooks := .later }
def ValuePlaysUptoCardSaid : Prop := Claim7.holds Tryz.pinned (.plain (OpenSpec.upto valuePlaysSpec)) valuePlaysUptoCard

/-- THE SECOND FORM's CARD OF 'quirelaw08.ValueOrder'. -/
def valueOrderUptoCard : Claim7 := { stood := { row := valueOrderUptoRow, standIns := [], harness := (true, "37bd18379f31bfce5f0c66b80177295b4bf5fc6cc3414c54bdae46c186baf685"), looks := true }, kinds := [], alts := [], laidByText := true, laidKinds := [.data, .data, .data, .data, .pinned], laidTests := true, laidLooks := .later }
def ValueOrderUptoCardSaid : Prop := Claim7.holds Tryz.pinned (.plain (OpenSpec.upto valueOrderSpec)) valueOrderUptoCard

/-- THE SECOND FORM's CARD OF 'quirelaw08.ValueKeeps'. -/
def valueKeepsUptoCard : Claim7 := { stood := { row := valueKeepsUptoRow, standIns := [], harness := (true, "37bd18379f31bfce5f0c66b80177295b4bf5fc6cc3414c54bdae46c186baf685"), looks := true }, kinds := [], alts := [], laidByText := true, laidKinds := [.data, .data, .data, .data, .pinned], laidTests := true, laidLooks := .later }
def ValueKeepsUptoCardSaid : Prop := Claim7.holds Tryz.pinned (.plain (OpenSpec.upto valueKeepsSpec)) valueKeepsUptoCard

/-- THE SECOND FORM's CARD OF 'quirelaw07.ParseKeeps'. -/
def parseKeepsUptoCard : Claim7 := { stood := { row := parseKeepsUptoRow, standIns := [], harness := (true, "37bd18379f31bfce5f0c66b80177295b4bf5fc6cc3414c54bdae46c186baf685"), looks := true }, kinds := [], alts := [], laidByText := true, laidKinds := [.data, .data, .data, .data, .pinned], laidTests := true, laidLooks := .later }
def ParseKeepsUptoCardSaid : Prop := Claim7.holds Tryz.pinned (.plain (OpenSpec.upto parseKeepsSpec)) parseKeepsUptoCard
end Rows
end Go.Proofs.YtbmplclnondfnaaGreatDoor
