/-
  DERIVED. GIVEN WITH THE SEED: THE CARDS: each row of YtbkclmpopofebaaDoorRows.lean that lists a variable, with what it lists TIED to the program's text (the seventh form; the later family's looks); each row that meets fmt, with fmt's text TOLD by the authors' own Lean function (tested against real Go, not proved from fmt's source: count such statements apart). THE CARD IS WHAT COUNTS. Prove the row's statement (the work); the ties are given (YtbkclmpopofebaaDoorTie.lean); close each card by the builder's one call (the guide's Derived/Test/ToyasCard.lean, 'card_holds'). Laid BY PROGRAM, IN A SANDBOX (cutbox-door.mjs). By AI agents, Wed Nov 11 2026. No macro, syntax, notation, axiom, sorry.
-/
import Derived.Test.YtbkclmpopofebaaDoorRows
import GoSem.ClaimSeven
namespace Go.Proofs.YtbkclmpopofebaaDoor
namespace Rows

/-- THE TIED CARD OF 'valiselaw12.PermsChanges'. -/
def permsChangesCard : Claim7 := { stood := { row := permsChangesRow, standIns := [], harness := (true, "e950120ebd71b63038442ad14ecb5a37354c9b42167ab61fbe4bf0fac0ff881c"), looks := false }, kinds := [], alts := [], laidByText := true, laidKinds := [.data, .pinned], laidTests := true, laidLooks := .later }
def PermsChangesCardSaid : Prop := Claim7.holds Tryd.pinned (.plain (OpenSpec.ofChange permsChangesSpec)) permsChangesCard

/-- THE TIED CARD OF 'valiselaw12.PermsSteps'. -/
def permsStepsCard : Claim7 := { stood := { row := permsStepsRow, standIns := [], harness := (true, "e950120ebd71b63038442ad14ecb5a37354c9b42167ab61fbe4bf0fac0ff881c"), looks := false }, kinds := [], alts := [], laidByText := true, laidKinds := [.data, .pinned], laidTests := true, laidLooks := .later }
def PermsStepsCardSaid : Prop := Claim7.holds Tryd.pinned (.plain (OpenSpec.ofChange permsStepsSpec)) permsStepsCard

/-- THE SECOND FORM's CARD OF 'valiselaw12.PermsChanges'. -/
def permsChangesUptoCard : Claim7 := { stood := { row := permsChangesUptoRow, standIns := [], harness := (true, "e950120ebd71b63038442ad14ecb5a37354c9b42167ab61fbe4bf0fac0ff881c"), looks := false }, kinds := [], alts := [], laidByText := true, laidKinds := [.data, .pinned], laidTests := true, laidLooks := .later }
def PermsChangesUptoCardSaid : Prop := Claim7.holds Tryd.pinned (.plain (OpenSpec.upto permsChangesSpec)) permsChangesUptoCard

/-- THE SECOND FORM's CARD OF 'valiselaw12.PermsSteps'. -/
def permsStepsUptoCard : Claim7 := { stood := { row := permsStepsUptoRow, standIns := [], harness := (true, "e950120ebd71b63038442ad14ecb5a37354c9b42167ab61fbe4bf0fac0ff881c"), looks := false }, kinds := [], alts := [], laidByText := true, laidKinds := [.data, .pinned], laidTests := true, laidLooks := .later }
def PermsStepsUptoCardSaid : Prop := Claim7.holds Tryd.pinned (.plain (OpenSpec.upto permsStepsSpec)) permsStepsUptoCard
end Rows
end Go.Proofs.YtbkclmpopofebaaDoor
