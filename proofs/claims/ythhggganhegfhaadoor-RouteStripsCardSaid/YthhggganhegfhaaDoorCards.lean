/-
  DERIVED. GIVEN WITH THE SEED: THE CARDS: each row of YthhggganhegfhaaDoorRows.lean that lists a variable, with what it lists TIED to the program's text (the seventh form; the later family's looks); each row that meets fmt, with fmt's text TOLD by the authors' own Lean function (tested against real Go, not proved from fmt's source: count such statements apart). THE CARD IS WHAT COUNTS. Prove the row's statement (the work); the ties are given (YthhggganhegfhaaDoorTie.lean); close each card by the builder's one call (the guide's Derived/Test/ToyasCard.lean, 'card_holds'). Laid BY PROGRAM, IN A SANDBOX (cutbox-door.mjs). By AI agents, Wed Nov 11 2026. No macro, syntax, notation, axiom, sorry.
-/
import Derived.Test.YthhggganhegfhaaDoorRows
import GoSem.ClaimSeven
namespace Go.Proofs.YthhggganhegfhaaDoor
namespace Rows

/-- THE TIED CARD OF 'valiselaw10.TargetSyms'. -/
def targetSymsCard : Claim7 := { stood := { row := targetSymsRow, standIns := [], harness := (true, "f4e6f8c3bcad4ba9c8a88d1be9d8b98d79be0ccc1669621a752d7c9bdfa73004"), looks := false }, kinds := [], alts := [], laidByText := true, laidKinds := [.data, .pinned], laidTests := true, laidLooks := .later }
def TargetSymsCardSaid : Prop := Claim7.holds Tryd.pinned (.plain (OpenSpec.ofChange targetSymsSpec)) targetSymsCard

/-- THE TIED CARD OF 'valiselaw10.TargetClimbs'. -/
def targetClimbsCard : Claim7 := { stood := { row := targetClimbsRow, standIns := [], harness := (true, "f4e6f8c3bcad4ba9c8a88d1be9d8b98d79be0ccc1669621a752d7c9bdfa73004"), looks := false }, kinds := [], alts := [], laidByText := true, laidKinds := [.data, .pinned], laidTests := true, laidLooks := .later }
def TargetClimbsCardSaid : Prop := Claim7.holds Tryd.pinned (.plain (OpenSpec.ofChange targetClimbsSpec)) targetClimbsCard

/-- THE TIED CARD OF 'valiselaw10.TargetPolicies'. -/
def targetPoliciesCard : Claim7 := { stood := { row := targetPoliciesRow, standIns := [], harness := (true, "f4e6f8c3bcad4ba9c8a88d1be9d8b98d79be0ccc1669621a752d7c9bdfa73004"), looks := false }, kinds := [], alts := [], laidByText := true, laidKinds := [.data, .pinned], laidTests := true, laidLooks := .later }
def TargetPoliciesCardSaid : Prop := Claim7.holds Tryd.pinned (.plain (OpenSpec.ofChange targetPoliciesSpec)) targetPoliciesCard

/-- THE TIED CARD OF 'valiselaw10.TargetMemory'. -/
def targetMemoryCard : Claim7 := { stood := { row := targetMemoryRow, standIns := [], harness := (true, "f4e6f8c3bcad4ba9c8a88d1be9d8b98d79be0ccc1669621a752d7c9bdfa73004"), looks := false }, kinds := [], alts := [], laidByText := true, laidKinds := [.data, .pinned], laidTests := true, laidLooks := .later }
def TargetMemoryCardSaid : Prop := Claim7.holds Tryd.pinned (.plain (OpenSpec.ofChange targetMemorySpec)) targetMemoryCard

/-- THE TIED CARD OF 'valiselaw09.RouteSplits'. -/
def routeSplitsCard : Claim7 := { stood := { row := routeSplitsRow, standIns := [], harness := (true, "f4e6f8c3bcad4ba9c8a88d1be9d8b98d79be0ccc1669621a752d7c9bdfa73004"), looks := false }, kinds := [], alts := [], laidByText := true, laidKinds := [.data, .pinned], laidTests := true, laidLooks := .later }
def RouteSplitsCardSaid : Prop := Claim7.holds Tryd.pinned (.plain (OpenSpec.ofChange routeSplitsSpec)) routeSplitsCard

/-- THE TIED CARD OF 'valiselaw09.RouteBehind'. -/
def routeBehindCard : Claim7 := { stood := { row := routeBehindRow, standIns := [], harness := (true, "f4e6f8c3bcad4ba9c8a88d1be9d8b98d79be0ccc1669621a752d7c9bdfa73004"), looks := false }, kinds := [], alts := [], laidByText := true, laidKinds := [.data, .pinned], laidTests := true, laidLooks := .later }
def RouteBehindCardSaid : Prop := Claim7.holds Tryd.pinned (.plain (OpenSpec.ofChange routeBehindSpec)) routeBehindCard

/-- THE TIED CARD OF 'valiselaw09.RouteMemory'. -/
def routeMemoryCard : Claim7 := { stood := { row := routeMemoryRow, standIns := [], harness := (true, "f4e6f8c3bcad4ba9c8a88d1be9d8b98d79be0ccc1669621a752d7c9bdfa73004"), looks := false }, kinds := [], alts := [], laidByText := true, laidKinds := [.data, .pinned], laidTests := true, laidLooks := .later }
def RouteMemoryCardSaid : Prop := Claim7.holds Tryd.pinned (.plain (OpenSpec.ofChange routeMemorySpec)) routeMemoryCard

/-- THE TIED CARD OF 'valiselaw09.RouteStrips'. -/
def routeStripsCard : Claim7 := { stood := { row := routeStripsRow, standIns := [], harness := (true, "f4e6f8c3bcad4ba9c8a88d1be9d8b98d79be0ccc1669621a752d7c9bdfa73004"), looks := false }, kinds := [], alts := [], laidByText := true, laidKinds := [.data, .pinned], laidTests := true, laidLooks := .later }
def RouteStripsCardSaid : Prop := Claim7.holds Tryd.pinned (.plain (OpenSpec.ofChange routeStripsSpec)) routeStripsCard

/-- THE TIED CARD OF 'valiselaw10.TargetHards'. -/
def targetHardsCard : Claim7 := { stood := { row := targetHardsRow, standIns := [], harness := (true, "f4e6f8c3bcad4ba9c8a88d1be9d8b98d79be0ccc1669621a752d7c9bdfa73004"), looks := false }, kinds := [], alts := [], laidByText := true, laidKinds := [.data, .pinned], laidTests := true, laidLooks := .later }
def TargetHardsCardSaid : Prop := Claim7.holds Tryd.pinned (.plain (OpenSpec.ofChange targetHardsSpec)) targetHardsCard

/-- THE TIED CARD OF 'valiselaw09.RouteSafe'. -/
def routeSafeCard : Claim7 := { stood := { row := routeSafeRow, standIns := [], harness := (true, "f4e6f8c3bcad4ba9c8a88d1be9d8b98d79be0ccc1669621a752d7c9bdfa73004"), looks := false }, kinds := [], alts := [], laidByText := true, laidKinds := [.data, .pinned], laidTests := true, laidLooks := .later }
def RouteSafeCardSaid : Prop := Claim7.holds Tryd.pinned (.plain (OpenSpec.ofChange routeSafeSpec)) routeSafeCard

/-- THE TIED CARD OF 'valiselaw10.TargetLeads'. -/
def targetLeadsCard : Claim7 := { stood := { row := targetLeadsRow, standIns := [], harness := (true, "f4e6f8c3bcad4ba9c8a88d1be9d8b98d79be0ccc1669621a752d7c9bdfa73004"), looks := false }, kinds := [], alts := [], laidByText := true, laidKinds := [.data, .pinned], laidTests := true, laidLooks := .later }
def TargetLeadsCardSaid : Prop := Claim7.holds Tryd.pinned (.plain (OpenSpec.ofChange targetLeadsSpec)) targetLeadsCard

/-- THE SECOND FORM's CARD OF 'valiselaw10.TargetSyms'. -/
def targetSymsUptoCard : Claim7 := { stood := { row := targetSymsUptoRow, standIns := [], harness := (true, "f4e6f8c3bcad4ba9c8a88d1be9d8b98d79be0ccc1669621a752d7c9bdfa73004"), looks := false }, kinds := [], alts := [], laidByText := true, laidKinds := [.data, .pinned], laidTests := true, laidLooks := .later }
def TargetSymsUptoCardSaid : Prop := Claim7.holds Tryd.pinned (.plain (OpenSpec.upto targetSymsSpec)) targetSymsUptoCard

/-- THE SECOND FORM's CARD OF 'valiselaw10.TargetClimbs'. -/
def targetClimbsUptoCard : Claim7 := { stood := { row := targetClimbsUptoRow, standIns := [], harness := (true, "f4e6f8c3bcad4ba9c8a88d1be9d8b98d79be0ccc1669621a752d7c9bdfa73004"), looks := false }, kinds := [], alts := [], laidByText := true, laidKinds := [.data, .pinned], laidTests := true, laidLooks := .later }
def TargetClimbsUptoCardSaid : Prop := Claim7.holds Tryd.pinned (.plain (OpenSpec.upto targetClimbsSpec)) targetClimbsUptoCard

/-- THE SECOND FORM's CARD OF 'valiselaw10.TargetPolicies'. -/
def targetPoliciesUptoCard : Claim7 := { stood := { row := targetPoliciesUptoRow, standIns := [], harness := (true, "f4e6f8c3bcad4ba9c8a88d1be9d8b98d79be0ccc1669621a752d7c9bdfa73004"), looks := false }, kinds := [], alts := [], laidByText := true, laidKinds := [.data, .pinned], laidTests := true, laidLooks := .later }
def TargetPoliciesUptoCardSaid : Prop := Claim7.holds Tryd.pinned (.plain (OpenSpec.upto targetPoliciesSpec)) targetPoliciesUptoCard

/-- THE SECOND FORM's CARD OF 'valiselaw10.TargetMemory'. -/
def targetMemoryUptoCard : Claim7 := { stood := { row := targetMemoryUptoRow, standIns := [], harness := (true, "f4e6f8c3bcad4ba9c8a88d1be9d8b98d79be0ccc1669621a752d7c9bdfa73004"), looks := false }, kinds := [], alts := [], laidByText := true, laidKinds := [.data, .pinned], laidTests := true, laidLooks := .later }
def TargetMemoryUptoCardSaid : Prop := Claim7.holds Tryd.pinned (.plain (OpenSpec.upto targetMemorySpec)) targetMemoryUptoCard

/-- THE SECOND FORM's CARD OF 'valiselaw09.RouteSplits'. -/
def routeSplitsUptoCard : Claim7 := { stood := { row := routeSplitsUptoRow, standIns := [], harness := (true, "f4e6f8c3bcad4ba9c8a88d1be9d8b98d79be0ccc1669621a752d7c9bdfa73004"), looks := false }, kinds := [], alts := [], laidByText := true, laidKinds := [.data, .pinned], laidTests := true, laidLooks := .later }
def RouteSplitsUptoCardSaid : Prop := Claim7.holds Tryd.pinned (.plain (OpenSpec.upto routeSplitsSpec)) routeSplitsUptoCard

/-- THE SECOND FORM's CARD OF 'valiselaw09.RouteBehind'. -/
def routeBehindUptoCard : Claim7 := { stood := { row := routeBehindUptoRow, standIns := [], harness := (true, "f4e6f8c3bcad4ba9c8a88d1be9d8b98d79be0ccc1669621a752d7c9bdfa73004"), looks := false }, kinds := [], alts := [], laidByText := true, laidKinds := [.data, .pinned], laidTests := true, laidLooks := .later }
def RouteBehindUptoCardSaid : Prop := Claim7.holds Tryd.pinned (.plain (OpenSpec.upto routeBehindSpec)) routeBehindUptoCard

/-- THE SECOND FORM's CARD OF 'valiselaw09.RouteMemory'. -/
def routeMemoryUptoCard : Claim7 := { stood := { row := routeMemoryUptoRow, standIns := [], harness := (true, "f4e6f8c3bcad4ba9c8a88d1be9d8b98d79be0ccc1669621a752d7c9bdfa73004"), looks := false }, kinds := [], alts := [], laidByText := true, laidKinds := [.data, .pinned], laidTests := true, laidLooks := .later }
def RouteMemoryUptoCardSaid : Prop := Claim7.holds Tryd.pinned (.plain (OpenSpec.upto routeMemorySpec)) routeMemoryUptoCard

/-- THE SECOND FORM's CARD OF 'valiselaw09.RouteStrips'. -/
def routeStripsUptoCard : Claim7 := { stood := { row := routeStripsUptoRow, standIns := [], harness := (true, "f4e6f8c3bcad4ba9c8a88d1be9d8b98d79be0ccc1669621a752d7c9bdfa73004"), looks := false }, kinds := [], alts := [], laidByText := true, laidKinds := [.data, .pinned], laidTests := true, laidLooks := .later }
def RouteStripsUptoCardSaid : Prop := Claim7.holds Tryd.pinned (.plain (OpenSpec.upto routeStripsSpec)) routeStripsUptoCard

/-- THE SECOND FORM's CARD OF 'valiselaw10.TargetHards'. -/
def targetHardsUptoCard : Claim7 := { stood := { row := targetHardsUptoRow, standIns := [], harness := (true, "f4e6f8c3bcad4ba9c8a88d1be9d8b98d79be0ccc1669621a752d7c9bdfa73004"), looks := false }, kinds := [], alts := [], laidByText := true, laidKinds := [.data, .pinned], laidTests := true, laidLooks := .later }
def TargetHardsUptoCardSaid : Prop := Claim7.holds Tryd.pinned (.plain (OpenSpec.upto targetHardsSpec)) targetHardsUptoCard

/-- THE SECOND FORM's CARD OF 'valiselaw09.RouteSafe'. -/
def routeSafeUptoCard : Claim7 := { stood := { row := routeSafeUptoRow, standIns := [], harness := (true, "f4e6f8c3bcad4ba9c8a88d1be9d8b98d79be0ccc1669621a752d7c9bdfa73004"), looks := false }, kinds := [], alts := [], laidByText := true, laidKinds := [.data, .pinned], laidTests := true, laidLooks := .later }
def RouteSafeUptoCardSaid : Prop := Claim7.holds Tryd.pinned (.plain (OpenSpec.upto routeSafeSpec)) routeSafeUptoCard

/-- THE SECOND FORM's CARD OF 'valiselaw10.TargetLeads'. -/
def targetLeadsUptoCard : Claim7 := { stood := { row := targetLeadsUptoRow, standIns := [], harness := (true, "f4e6f8c3bcad4ba9c8a88d1be9d8b98d79be0ccc1669621a752d7c9bdfa73004"), looks := false }, kinds := [], alts := [], laidByText := true, laidKinds := [.data, .pinned], laidTests := true, laidLooks := .later }
def TargetLeadsUptoCardSaid : Prop := Claim7.holds Tryd.pinned (.plain (OpenSpec.upto targetLeadsSpec)) targetLeadsUptoCard
end Rows
end Go.Proofs.YthhggganhegfhaaDoor
