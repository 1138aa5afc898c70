/-
  DERIVED. GIVEN WITH THE SEED: THE CARDS: each row of YtliabblchkgclaaDoorRows.lean that lists a variable, with what it lists TIED to the program's text (the seventh form; the later family's looks); each row that meets fmt, with fmt's text TOLD by the authors' own Lean function (tested against real Go, not proved from fmt's source: count such statements apart). THE CARD IS WHAT COUNTS. Prove the row's statement (the work); the ties are given (YtliabblchkgclaaDoorTie.lean); close each card by the builder's one call (the guide's Derived/Test/ToyasCard.lean, 'card_holds'). Laid BY PROGRAM, IN A SANDBOX (cutbox-door.mjs). By AI agents, Wed Nov 11 2026. No macro, syntax, notation, axiom, sorry.
-/
import Derived.Test.YtliabblchkgclaaDoorRows
import GoSem.ClaimSeven
namespace Go.Proofs.YtliabblchkgclaaDoor
namespace Rows

/-- THE TIED CARD OF 'quirelaw09.EffectQuotes'. -/
def effectQuotesCard : Claim7 := { stood := { row := effectQuotesRow, standIns := [], harness := (true, "10ae209e0c490e8cbd0a13c50b36bf8745427a1a8ea1a769ca2558ca5551ab9a"), looks := true }, kinds := [], alts := [], laidByText := true, laidKinds := [.data, .listed, .data, .pinned], laidTests := true, laidLooks := .later }
def EffectQuotesCardSaid : Prop := Claim7.holds Tryd.pinned (.plain (OpenSpec.ofChange effectQuotesSpec)) effectQuotesCard

/-- THE TIED CARD OF 'quirelaw09.EffectKeeps'. -/
def effectKeepsCard : Claim7 := { stood := { row := effectKeepsRow, standIns := [], harness := (true, "10ae209e0c490e8cbd0a13c50b36bf8745427a1a8ea1a769ca2558ca5551ab9a"), looks := true }, kinds := [], alts := [], laidByText := true, laidKinds := [.data, .listed, .data, .pinned], laidTests := true, laidLooks := .later }
def EffectKeepsCardSaid : Prop := Claim7.holds Tryd.pinned (.plain (OpenSpec.ofChange effectKeepsSpec)) effectKeepsCard

/-- THE TIED CARD OF 'quirelaw09.EffectJoins'. -/
def effectJoinsCard : Claim7 := { stood := { row := effectJoinsRow, standIns := [], harness := (true, "10ae209e0c490e8cbd0a13c50b36bf8745427a1a8ea1a769ca2558ca5551ab9a"), looks := true }, kinds := [], alts := [], laidByText := true, laidKinds := [.data, .listed, .data, .pinned], laidTests := true, laidLooks := .later }
def EffectJoinsCardSaid : Prop := Claim7.holds Tryd.pinned (.plain (OpenSpec.ofChange effectJoinsSpec)) effectJoinsCard

/-- THE SECOND FORM's CARD OF 'quirelaw09.EffectQuotes'. -/
def effectQuotesUptoCard : Claim7 := { stood := { row := effectQuotesUptoRow, standIns := [], harness := (true, "10ae209e0c490e8cbd0a13c50b36bf8745427a1a8ea1a769ca2558ca5551ab9a"), looks := true }, kinds := [], alts := [], laidByText := true, laidKinds := [.data, .listed, .data, .pinned], laidTests := true, laidLooks := .later }
def EffectQuotesUptoCardSaid : Prop := Claim7.holds Tryd.pinned (.plain (OpenSpec.upto effectQuotesSpec)) effectQuotesUptoCard

/-- THE SECOND FORM's CARD OF 'quirelaw09.EffectKeeps'. -/
def effectKeepsUptoCard : Claim7 := { stood := { row := effectKeepsUptoRow, standIns := [], harness := (true, "10ae209e0c490e8cbd0a13c50b36bf8745427a1a8ea1a769ca2558ca5551ab9a"), looks := true }, kinds := [], alts := [], laidByText := true, laidKinds := [.data, .listed, .data, .pinned], laidTests := true, laidLooks := .later }
def EffectKeepsUptoCardSaid : Prop := Claim7.holds Tryd.pinned (.plain (OpenSpec.upto effectKeepsSpec)) effectKeepsUptoCard

/-- THE SECOND FORM's CARD OF 'quirelaw09.EffectJoins'. -/
def effectJoinsUptoCard : Claim7 := { stood := { row := effectJoinsUptoRow, standIns := [], harness := (true, "10ae209e0c490e8cbd0a13c50b36bf8745427a1a8ea1a769ca2558ca5551ab9a"), looks := true }, kinds := [], alts := [], laidByText := true, laidKinds := [.data, .listed, .data, .pinned], laidTests := true, laidLooks := .later }
def EffectJoinsUptoCardSaid : Prop := Claim7.holds Tryd.pinned (.plain (OpenSpec.upto effectJoinsSpec)) effectJoinsUptoCard
end Rows
end Go.Proofs.YtliabblchkgclaaDoor
