/-
  DERIVED. GIVEN WITH THE SEED: THE CARDS: each row of YtonkeklageehbaaGreatDoorRows.lean that lists a variable, with what it lists TIED to the program's text (the seventh form; the later family's looks); each row that meets fmt, with fmt's text TOLD by the authors' own Lean function (tested against real Go, not proved from fmt's source: count such statements apart). THE CARD IS WHAT COUNTS. Prove the row's statement (the work); the ties are given (YtonkeklageehbaaGreatDoorTie.lean); close each card by the builder's one call (the guide's Derived/Test/ToyasCard.lean, 'card_holds'). Laid BY PROGRAM, IN A SANDBOX (cutbox-door.mjs). By AI agents, Wed Nov 11 2026. No macro, syntax, notation, axiom, sorry.
-/
import Derived.Test.YtonkeklageehbaaGreatDoorRows
import GoSem.ClaimSeven
namespace Go.Proofs.YtonkeklageehbaaGreatDoor
namespace Rows

/-- THE TIED CARD OF 'quirelaw18.LinkPlays'. -/
def linkPlaysCard : Claim7 := { stood := { row := linkPlaysRow, standIns := [], harness := (true, "59c0e426099ad44e363a5a8f00a9e3d25018f76816d4aac0852bea5999eed1cd"), looks := true }, kinds := [], alts := [], laidByText := true, laidKinds := [.data, .listed, .data, .pinned], laidTests := true, laidLooks := .later }
def LinkPlaysCardSaid : Prop := Claim7.holds Tryz.pinned (.plain (OpenSpec.ofChange linkPlaysSpec)) linkPlaysCard

/-- THE TIED CARD OF 'quirelaw18.LinkKeeps'. -/
def linkKeepsCard : Claim7 := { stood := { row := linkKeepsRow, standIns := [], harness := (true, "59c0e426099ad44e363a5a8f00a9e3d25018f76816d4aac0852bea5999eed1cd"), looks := true }, kinds := [], alts := [], laidByText := true, laidKinds := [.data, .listed, .data, .pinned], laidTests := true, laidLooks := .later }
def LinkKeepsCardSaid : Prop := Claim7.holds Tryz.pinned (.plain (OpenSpec.ofChange linkKeepsSpec)) linkKeepsCard

/-- THE TIED CARD OF 'quirelaw18.LinkBack'. -/
def linkBackCard : Claim7 := { stood := { row := linkBackRow, standIns := [], harness := (true, "59c0e426099ad44e363a5a8f00a9e3d25018f76816d4aac0852bea5999eed1cd"), looks := true }, kinds := [], alts := [], laidByText := true, laidKinds := [.data, .listed, .data, .pinned], laidTests := true, laidLooks := .later }
def LinkBackCardSaid : Prop := Claim7.holds Tryz.pinned (.plain (OpenSpec.ofChange linkBackSpec)) linkBackCard

/-- THE SECOND FORM's CARD OF 'quirelaw18.LinkPlays'. -/
def linkPlaysUptoCard : Claim7 := { stood := { row := linkPlaysUptoRow, standIns := [], harness := (true, "59c0e426099ad44e363a5a8f00a9e3d25018f76816d4aac0852bea5999eed1cd"), looks := true }, kinds := [], alts := [], laidByText := true, laidKinds := [.data, .listed, .data, .pinned], laidTests := true, laidLooks := .later }
def LinkPlaysUptoCardSaid : Prop := Claim7.holds Tryz.pinned (.plain (OpenSpec.upto linkPlaysSpec)) linkPlaysUptoCard

/-- THE SECOND FORM's CARD OF 'quirelaw18.LinkKeeps'. -/
def linkKeepsUptoCard : Claim7 := { stood := { row := linkKeepsUptoRow, standIns := [], harness := (true, "59c0e426099ad44e363a5a8f00a9e3d25018f76816d4aac0852bea5999eed1cd"), looks := true }, kinds := [], alts := [], laidByText := true, laidKinds := [.data, .listed, .data, .pinned], laidTests := true, laidLooks := .later }
def LinkKeepsUptoCardSaid : Prop := Claim7.holds Tryz.pinned (.plain (OpenSpec.upto linkKeepsSpec)) linkKeepsUptoCard

/-- THE SECOND FORM's CARD OF 'quirelaw18.LinkBack'. -/
def linkBackUptoCard : Claim7 := { stood := { row := linkBackUptoRow, standIns := [], harness := (true, "59c0e426099ad44e363a5a8f00a9e3d25018f76816d4aac0852bea5999eed1cd"), looks := true }, kinds := [], alts := [], laidByText := true, laidKinds := [.data, .listed, .data, .pinned], laidTests := true, laidLooks := .later }
def LinkBackUptoCardSaid : Prop := Claim7.holds Tryz.pinned (.plain (OpenSpec.upto linkBackSpec)) linkBackUptoCard
end Rows
end Go.Proofs.YtonkeklageehbaaGreatDoor
