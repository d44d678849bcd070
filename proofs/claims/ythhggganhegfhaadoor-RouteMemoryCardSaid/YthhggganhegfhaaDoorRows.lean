/-
  NARROWER THAN 'FOR EVERY INPUT', by the rows' own cells (each row's printed sentence says how): TargetSyms: laid · TargetClimbs: laid · TargetPolicies: laid · TargetMemory: laid · RouteSplits: laid · RouteBehind: laid · RouteMemory: laid · RouteStrips: laid · TargetHards: laid · RouteSafe: laid · TargetLeads: laid.
  DERIVED. THE GIVEN ROWS OF THIS SEAT. 11 by the template 'for every input the law returns true; each argument reads behind the call as it read before'; 0 by the template 'total and deterministic' (their statements: YthhggganhegfhaaDoorTotals.lean).
  GIVEN WITH THE SEED: the statements are not yours to turn. If you find one false, say at which input.
  Laid BY PROGRAM, IN A SANDBOX (cutbox-rows.mjs): the forced cells as the released guide's own fill.sh prints them over the translation e60170553bb23738… (all of the seat's roots in one cut). By AI agents, Wed Nov 11 2026. No macro, syntax, notation, axiom, sorry.
-/
import Derived.Test.YthhggganhegfhaaDoorChecked
import GoSem.PinnedTables
import GoSem.Claim
import GoSem.ClaimJoined
import GoSem.ClaimMapViews
import Derived.JoinedTies
import Derived.KernelRfl
namespace Go.Proofs.YthhggganhegfhaaDoor
/- THE CELL 'sum', in the pinned program and in every row, IS THE sha256 OF THE DUMP (.gsa) THAT YthhggganhegfhaaDoorProg.lean LOADS. Nothing in Lean hashes anything: it is a label: what it is worth is what the hold of that sum in a sandbox is worth. -/
noncomputable def Tryd.pinned : Pinned := { name := "ythhggganhegfhaadoor", sum := "e60170553bb237382d6f3780863b5d512553a1e597d4a86bcf31e325d1f695dc", checked := Tryd.checked }
namespace Rows
def none {H : Type} : Left H := { results := [], args := [] }

/- WHAT THE LISTED PACKAGE-LEVEL VARIABLES READ AS WHEN THE CALL BEGINS. Each datum BY PROGRAM (the guide's laid-datum.mjs) off the statement by which the dump's own 'gosem.cut.vars' lays the variable. In a bare row this is a premise. The card (YthhggganhegfhaaDoorCards.lean) ties it to the program's text. -/
def laid_unicode_utf8_acceptRanges {H : Type} : DataW H := .agg [.agg [.lit (.int .u8 128), .lit (.int .u8 191)], .agg [.lit (.int .u8 160), .lit (.int .u8 191)], .agg [.lit (.int .u8 128), .lit (.int .u8 159)], .agg [.lit (.int .u8 144), .lit (.int .u8 191)], .agg [.lit (.int .u8 128), .lit (.int .u8 143)], .agg [.lit (.int .u8 0), .lit (.int .u8 0)], .agg [.lit (.int .u8 0), .lit (.int .u8 0)], .agg [.lit (.int .u8 0), .lit (.int .u8 0)], .agg [.lit (.int .u8 0), .lit (.int .u8 0)], .agg [.lit (.int .u8 0), .lit (.int .u8 0)], .agg [.lit (.int .u8 0), .lit (.int .u8 0)], .agg [.lit (.int .u8 0), .lit (.int .u8 0)], .agg [.lit (.int .u8 0), .lit (.int .u8 0)], .agg [.lit (.int .u8 0), .lit (.int .u8 0)], .agg [.lit (.int .u8 0), .lit (.int .u8 0)], .agg [.lit (.int .u8 0), .lit (.int .u8 0)]]
/-- One of Go's own tables, pinned by name: the form's constant. -/
def laid_unicode_utf8_first : DataW Unit := Go.Pinned.utf8First

/-- 'valiselaw10.TargetSyms': WHATEVER THE INPUT: true; the input reads as it did. -/
def targetSymsSpec : ChangeSpec := { name := "targetSyms", fn := fun _ => fun
  | [d1, d2, d3] => { results := [.lit (.bool true)], args := [d1, d2, d3] }
  | _ => none }
def targetSymsRow : OpenClaim := { program := "ythhggganhegfhaadoor", sum := "e60170553bb237382d6f3780863b5d512553a1e597d4a86bcf31e325d1f695dc", func := "valise/valiselaw10.TargetSyms", spec := "targetSyms", inPlace := ["internal/bytealg.IndexByteString", "internal/bytealg.CountString", "internal/bytealg.IndexString"], named := ["unicode/utf8.first", "unicode/utf8.acceptRanges", "internal/bytealg.MaxLen"], apart := false, laid := [("unicode/utf8.acceptRanges", laid_unicode_utf8_acceptRanges), ("unicode/utf8.first", laid_unicode_utf8_first)] }
def TargetSymsSaid : Prop := targetSymsRow.holds Tryd.pinned (OpenSpec.ofChange targetSymsSpec)

/-- ITS FALSE NEIGHBOUR: 'it returns false'. Refute it at one input. -/
def targetSymsWrong : ChangeSpec := { name := "targetSyms", fn := fun _ => fun
  | [d1, d2, d3] => { results := [.lit (.bool false)], args := [d1, d2, d3] }
  | _ => none }
def TargetSymsWrongFalsely : Prop := targetSymsRow.holds Tryd.pinned (OpenSpec.ofChange targetSymsWrong)

/-- 'valiselaw10.TargetClimbs': WHATEVER THE INPUT: true; the input reads as it did. -/
def targetClimbsSpec : ChangeSpec := { name := "targetClimbs", fn := fun _ => fun
  | [d1, d2] => { results := [.lit (.bool true)], args := [d1, d2] }
  | _ => none }
def targetClimbsRow : OpenClaim := { program := "ythhggganhegfhaadoor", sum := "e60170553bb237382d6f3780863b5d512553a1e597d4a86bcf31e325d1f695dc", func := "valise/valiselaw10.TargetClimbs", spec := "targetClimbs", inPlace := ["internal/bytealg.IndexByteString", "internal/bytealg.CountString", "internal/bytealg.IndexString"], named := ["unicode/utf8.first", "unicode/utf8.acceptRanges", "internal/bytealg.MaxLen"], apart := false, laid := [("unicode/utf8.acceptRanges", laid_unicode_utf8_acceptRanges), ("unicode/utf8.first", laid_unicode_utf8_first)] }
def TargetClimbsSaid : Prop := targetClimbsRow.holds Tryd.pinned (OpenSpec.ofChange targetClimbsSpec)

/-- ITS FALSE NEIGHBOUR: 'it returns false'. Refute it at one input. -/
def targetClimbsWrong : ChangeSpec := { name := "targetClimbs", fn := fun _ => fun
  | [d1, d2] => { results := [.lit (.bool false)], args := [d1, d2] }
  | _ => none }
def TargetClimbsWrongFalsely : Prop := targetClimbsRow.holds Tryd.pinned (OpenSpec.ofChange targetClimbsWrong)

/-- 'valiselaw10.TargetPolicies': WHATEVER THE INPUT: true; the input reads as it did. -/
def targetPoliciesSpec : ChangeSpec := { name := "targetPolicies", fn := fun _ => fun
  | [d1, d2, d3] => { results := [.lit (.bool true)], args := [d1, d2, d3] }
  | _ => none }
def targetPoliciesRow : OpenClaim := { program := "ythhggganhegfhaadoor", sum := "e60170553bb237382d6f3780863b5d512553a1e597d4a86bcf31e325d1f695dc", func := "valise/valiselaw10.TargetPolicies", spec := "targetPolicies", inPlace := ["internal/bytealg.IndexByteString", "internal/bytealg.CountString", "internal/bytealg.IndexString"], named := ["unicode/utf8.first", "unicode/utf8.acceptRanges", "internal/bytealg.MaxLen"], apart := false, laid := [("unicode/utf8.acceptRanges", laid_unicode_utf8_acceptRanges), ("unicode/utf8.first", laid_unicode_utf8_first)] }
def TargetPoliciesSaid : Prop := targetPoliciesRow.holds Tryd.pinned (OpenSpec.ofChange targetPoliciesSpec)

/-- ITS FALSE NEIGHBOUR: 'it returns false'. Refute it at one input. -/
def targetPoliciesWrong : ChangeSpec := { name := "targetPolicies", fn := fun _ => fun
  | [d1, d2, d3] => { results := [.lit (.bool false)], args := [d1, d2, d3] }
  | _ => none }
def TargetPoliciesWrongFalsely : Prop := targetPoliciesRow.holds Tryd.pinned (OpenSpec.ofChange targetPoliciesWrong)

/-- 'valiselaw10.TargetMemory': WHATEVER THE INPUT: true; the input reads as it did. -/
def targetMemorySpec : ChangeSpec := { name := "targetMemory", fn := fun _ => fun
  | [d1, d2] => { results := [.lit (.bool true)], args := [d1, d2] }
  | _ => none }
def targetMemoryRow : OpenClaim := { program := "ythhggganhegfhaadoor", sum := "e60170553bb237382d6f3780863b5d512553a1e597d4a86bcf31e325d1f695dc", func := "valise/valiselaw10.TargetMemory", spec := "targetMemory", inPlace := ["internal/bytealg.IndexByteString", "internal/bytealg.CountString", "internal/bytealg.IndexString"], named := ["unicode/utf8.first", "unicode/utf8.acceptRanges", "internal/bytealg.MaxLen"], apart := false, laid := [("unicode/utf8.acceptRanges", laid_unicode_utf8_acceptRanges), ("unicode/utf8.first", laid_unicode_utf8_first)] }
def TargetMemorySaid : Prop := targetMemoryRow.holds Tryd.pinned (OpenSpec.ofChange targetMemorySpec)

/-- ITS FALSE NEIGHBOUR: 'it returns false'. Refute it at one input. -/
def targetMemoryWrong : ChangeSpec := { name := "targetMemory", fn := fun _ => fun
  | [d1, d2] => { results := [.lit (.bool false)], args := [d1, d2] }
  | _ => none }
def TargetMemoryWrongFalsely : Prop := targetMemoryRow.holds Tryd.pinned (OpenSpec.ofChange targetMemoryWrong)

/-- 'valiselaw09.RouteSplits': WHATEVER THE INPUT: true; the input reads as it did. -/
def routeSplitsSpec : ChangeSpec := { name := "routeSplits", fn := fun _ => fun
  | [d1, d2, d3] => { results := [.lit (.bool true)], args := [d1, d2, d3] }
  | _ => none }
def routeSplitsRow : OpenClaim := { program := "ythhggganhegfhaadoor", sum := "e60170553bb237382d6f3780863b5d512553a1e597d4a86bcf31e325d1f695dc", func := "valise/valiselaw09.RouteSplits", spec := "routeSplits", inPlace := ["internal/bytealg.IndexByteString", "internal/bytealg.CountString", "internal/bytealg.IndexString"], unfollowed := true, recurses := true, named := ["unicode/utf8.first", "unicode/utf8.acceptRanges", "internal/bytealg.MaxLen"], apart := false, laid := [("unicode/utf8.acceptRanges", laid_unicode_utf8_acceptRanges), ("unicode/utf8.first", laid_unicode_utf8_first)] }
def RouteSplitsSaid : Prop := routeSplitsRow.holds Tryd.pinned (OpenSpec.ofChange routeSplitsSpec)

/-- ITS FALSE NEIGHBOUR: 'it returns false'. Refute it at one input. -/
def routeSplitsWrong : ChangeSpec := { name := "routeSplits", fn := fun _ => fun
  | [d1, d2, d3] => { results := [.lit (.bool false)], args := [d1, d2, d3] }
  | _ => none }
def RouteSplitsWrongFalsely : Prop := routeSplitsRow.holds Tryd.pinned (OpenSpec.ofChange routeSplitsWrong)

/-- 'valiselaw09.RouteBehind': WHATEVER THE INPUT: true; the input reads as it did. -/
def routeBehindSpec : ChangeSpec := { name := "routeBehind", fn := fun _ => fun
  | [d1, d2] => { results := [.lit (.bool true)], args := [d1, d2] }
  | _ => none }
def routeBehindRow : OpenClaim := { program := "ythhggganhegfhaadoor", sum := "e60170553bb237382d6f3780863b5d512553a1e597d4a86bcf31e325d1f695dc", func := "valise/valiselaw09.RouteBehind", spec := "routeBehind", inPlace := ["internal/bytealg.IndexByteString", "internal/bytealg.CountString", "internal/bytealg.IndexString"], unfollowed := true, recurses := true, named := ["unicode/utf8.first", "unicode/utf8.acceptRanges", "internal/bytealg.MaxLen"], apart := false, laid := [("unicode/utf8.acceptRanges", laid_unicode_utf8_acceptRanges), ("unicode/utf8.first", laid_unicode_utf8_first)] }
def RouteBehindSaid : Prop := routeBehindRow.holds Tryd.pinned (OpenSpec.ofChange routeBehindSpec)

/-- ITS FALSE NEIGHBOUR: 'it returns false'. Refute it at one input. -/
def routeBehindWrong : ChangeSpec := { name := "routeBehind", fn := fun _ => fun
  | [d1, d2] => { results := [.lit (.bool false)], args := [d1, d2] }
  | _ => none }
def RouteBehindWrongFalsely : Prop := routeBehindRow.holds Tryd.pinned (OpenSpec.ofChange routeBehindWrong)

/-- 'valiselaw09.RouteMemory': WHATEVER THE INPUT: true; the input reads as it did. -/
def routeMemorySpec : ChangeSpec := { name := "routeMemory", fn := fun _ => fun
  | [d] => { results := [.lit (.bool true)], args := [d] }
  | _ => none }
def routeMemoryRow : OpenClaim := { program := "ythhggganhegfhaadoor", sum := "e60170553bb237382d6f3780863b5d512553a1e597d4a86bcf31e325d1f695dc", func := "valise/valiselaw09.RouteMemory", spec := "routeMemory", inPlace := ["internal/bytealg.IndexByteString", "internal/bytealg.CountString", "internal/bytealg.IndexString"], unfollowed := true, recurses := true, named := ["unicode/utf8.first", "unicode/utf8.acceptRanges", "internal/bytealg.MaxLen"], apart := false, laid := [("unicode/utf8.acceptRanges", laid_unicode_utf8_acceptRanges), ("unicode/utf8.first", laid_unicode_utf8_first)] }
def RouteMemorySaid : Prop := routeMemoryRow.holds Tryd.pinned (OpenSpec.ofChange routeMemorySpec)

/-- ITS FALSE NEIGHBOUR: 'it returns false'. Refute it at one input. -/
def routeMemoryWrong : ChangeSpec := { name := "routeMemory", fn := fun _ => fun
  | [d] => { results := [.lit (.bool false)], args := [d] }
  | _ => none }
def RouteMemoryWrongFalsely : Prop := routeMemoryRow.holds Tryd.pinned (OpenSpec.ofChange routeMemoryWrong)

/-- 'valiselaw09.RouteStrips': WHATEVER THE INPUT: true; the input reads as it did. -/
def routeStripsSpec : ChangeSpec := { name := "routeStrips", fn := fun _ => fun
  | [d1, d2] => { results := [.lit (.bool true)], args := [d1, d2] }
  | _ => none }
def routeStripsRow : OpenClaim := { program := "ythhggganhegfhaadoor", sum := "e60170553bb237382d6f3780863b5d512553a1e597d4a86bcf31e325d1f695dc", func := "valise/valiselaw09.RouteStrips", spec := "routeStrips", inPlace := ["internal/bytealg.IndexByteString", "internal/bytealg.CountString", "internal/bytealg.IndexString"], unfollowed := true, recurses := true, named := ["unicode/utf8.first", "unicode/utf8.acceptRanges", "internal/bytealg.MaxLen"], apart := false, laid := [("unicode/utf8.acceptRanges", laid_unicode_utf8_acceptRanges), ("unicode/utf8.first", laid_unicode_utf8_first)] }
def RouteStripsSaid : Prop := routeStripsRow.holds Tryd.pinned (OpenSpec.ofChange routeStripsSpec)

/-- ITS FALSE NEIGHBOUR: 'it returns false'. Refute it at one input. -/
def routeStripsWrong : ChangeSpec := { name := "routeStrips", fn := fun _ => fun
  | [d1, d2] => { results := [.lit (.bool false)], args := [d1, d2] }
  | _ => none }
def RouteStripsWrongFalsely : Prop := routeStripsRow.holds Tryd.pinned (OpenSpec.ofChange routeStripsWrong)

/-- 'valiselaw10.TargetHards': WHATEVER THE INPUT: true; the input reads as it did. -/
def targetHardsSpec : ChangeSpec := { name := "targetHards", fn := fun _ => fun
  | [d1, d2, d3] => { results := [.lit (.bool true)], args := [d1, d2, d3] }
  | _ => none }
def targetHardsRow : OpenClaim := { program := "ythhggganhegfhaadoor", sum := "e60170553bb237382d6f3780863b5d512553a1e597d4a86bcf31e325d1f695dc", func := "valise/valiselaw10.TargetHards", spec := "targetHards", inPlace := ["internal/bytealg.IndexByteString", "internal/bytealg.CountString", "internal/bytealg.IndexString"], unfollowed := true, recurses := true, named := ["unicode/utf8.first", "unicode/utf8.acceptRanges", "internal/bytealg.MaxLen"], apart := false, laid := [("unicode/utf8.acceptRanges", laid_unicode_utf8_acceptRanges), ("unicode/utf8.first", laid_unicode_utf8_first)] }
def TargetHardsSaid : Prop := targetHardsRow.holds Tryd.pinned (OpenSpec.ofChange targetHardsSpec)

/-- ITS FALSE NEIGHBOUR: 'it returns false'. Refute it at one input. -/
def targetHardsWrong : ChangeSpec := { name := "targetHards", fn := fun _ => fun
  | [d1, d2, d3] => { results := [.lit (.bool false)], args := [d1, d2, d3] }
  | _ => none }
def TargetHardsWrongFalsely : Prop := targetHardsRow.holds Tryd.pinned (OpenSpec.ofChange targetHardsWrong)

/-- 'valiselaw09.RouteSafe': WHATEVER THE INPUT: true; the input reads as it did. -/
def routeSafeSpec : ChangeSpec := { name := "routeSafe", fn := fun _ => fun
  | [d1, d2, d3] => { results := [.lit (.bool true)], args := [d1, d2, d3] }
  | _ => none }
def routeSafeRow : OpenClaim := { program := "ythhggganhegfhaadoor", sum := "e60170553bb237382d6f3780863b5d512553a1e597d4a86bcf31e325d1f695dc", func := "valise/valiselaw09.RouteSafe", spec := "routeSafe", inPlace := ["internal/bytealg.IndexByteString", "internal/bytealg.CountString", "internal/bytealg.IndexString", "internal/abi.NoEscape", "internal/bytealg.MakeNoZero"], unfollowed := true, recurses := true, named := ["unicode/utf8.first", "unicode/utf8.acceptRanges", "internal/bytealg.MaxLen"], apart := false, laid := [("unicode/utf8.acceptRanges", laid_unicode_utf8_acceptRanges), ("unicode/utf8.first", laid_unicode_utf8_first)] }
def RouteSafeSaid : Prop := routeSafeRow.holds Tryd.pinned (OpenSpec.ofChange routeSafeSpec)

/-- ITS FALSE NEIGHBOUR: 'it returns false'. Refute it at one input. -/
def routeSafeWrong : ChangeSpec := { name := "routeSafe", fn := fun _ => fun
  | [d1, d2, d3] => { results := [.lit (.bool false)], args := [d1, d2, d3] }
  | _ => none }
def RouteSafeWrongFalsely : Prop := routeSafeRow.holds Tryd.pinned (OpenSpec.ofChange routeSafeWrong)

/-- 'valiselaw10.TargetLeads': WHATEVER THE INPUT: true; the input reads as it did. -/
def targetLeadsSpec : ChangeSpec := { name := "targetLeads", fn := fun _ => fun
  | [d1, d2] => { results := [.lit (.bool true)], args := [d1, d2] }
  | _ => none }
def targetLeadsRow : OpenClaim := { program := "ythhggganhegfhaadoor", sum := "e60170553bb237382d6f3780863b5d512553a1e597d4a86bcf31e325d1f695dc", func := "valise/valiselaw10.TargetLeads", spec := "targetLeads", inPlace := ["internal/bytealg.IndexByteString", "internal/bytealg.CountString", "internal/bytealg.IndexString", "internal/abi.NoEscape", "internal/bytealg.MakeNoZero"], named := ["unicode/utf8.first", "unicode/utf8.acceptRanges", "internal/bytealg.MaxLen"], apart := false, laid := [("unicode/utf8.acceptRanges", laid_unicode_utf8_acceptRanges), ("unicode/utf8.first", laid_unicode_utf8_first)] }
def TargetLeadsSaid : Prop := targetLeadsRow.holds Tryd.pinned (OpenSpec.ofChange targetLeadsSpec)

/-- ITS FALSE NEIGHBOUR: 'it returns false'. Refute it at one input. -/
def targetLeadsWrong : ChangeSpec := { name := "targetLeads", fn := fun _ => fun
  | [d1, d2] => { results := [.lit (.bool false)], args := [d1, d2] }
  | _ => none }
def TargetLeadsWrongFalsely : Prop := targetLeadsRow.holds Tryd.pinned (OpenSpec.ofChange targetLeadsWrong)

/- THE SECOND FORM. 'bulk': how many values and letters a reading holds, each counted each time it is reached (what is shared counts as often as it is met; a slice's spare places count too). A statement '..UptoSaid' is the law's where the arguments, and the package variables that the reading takes, are together of bulk at most 1048576: NARROWER than '..Said'. Prove '..Said' where nothing that the law and all that it calls make is longer than what came in: it says more and counts as full. Else prove '..UptoSaid'. A law counts once. -/
mutual
def uptoBulk {H : Type} : DataW H → Nat
  | .lit (.string bytes) => bytes.length + 1
  | .lit _ => 1
  | .nil => 1
  | .ptr d => uptoBulk d + 1
  | .slice elems spare => uptoBulkAll elems + uptoBulkAll spare + 1
  | .agg parts => uptoBulkAll parts + 1
  | .iface _ d => uptoBulk d + 1
  | .map entries => uptoBulkEntries entries + 1
  | .held _ => 1
def uptoBulkAll {H : Type} : List (DataW H) → Nat
  | [] => 0
  | d :: r => uptoBulk d + uptoBulkAll r
def uptoBulkEntries {H : Type} : List (Lit × DataW H) → Nat
  | [] => 0
  | x :: r => uptoBulkEntry x + uptoBulkEntries r
def uptoBulkEntry {H : Type} : Lit × DataW H → Nat
  | (.string bytes, d) => bytes.length + uptoBulk d + 1
  | (_, d) => uptoBulk d + 1
 end
def uptoSmall : (H : Type) → List (DataW H) → Bool := fun _ ds => decide (uptoBulkAll ds ≤ 1048576)
def OpenSpec.upto (s : _root_.Go.ChangeSpec) : _root_.Go.OpenSpec := { _root_.Go.OpenSpec.ofChange s with cond := some uptoSmall }

/-- 'valiselaw10.TargetSyms', WHERE WHAT IT READS IS OF BULK AT MOST 1048576: true; the input reads as it did. -/
def targetSymsUptoRow : OpenClaim := { program := "ythhggganhegfhaadoor", sum := "e60170553bb237382d6f3780863b5d512553a1e597d4a86bcf31e325d1f695dc", func := "valise/valiselaw10.TargetSyms", spec := "targetSyms", inPlace := ["internal/bytealg.IndexByteString", "internal/bytealg.CountString", "internal/bytealg.IndexString"], named := ["unicode/utf8.first", "unicode/utf8.acceptRanges", "internal/bytealg.MaxLen"], apart := false, laid := [("unicode/utf8.acceptRanges", laid_unicode_utf8_acceptRanges), ("unicode/utf8.first", laid_unicode_utf8_first)], narrowed := true }
def TargetSymsUptoSaid : Prop := targetSymsUptoRow.holds Tryd.pinned (OpenSpec.upto targetSymsSpec)

/-- 'valiselaw10.TargetClimbs', WHERE WHAT IT READS IS OF BULK AT MOST 1048576: true; the input reads as it did. -/
def targetClimbsUptoRow : OpenClaim := { program := "ythhggganhegfhaadoor", sum := "e60170553bb237382d6f3780863b5d512553a1e597d4a86bcf31e325d1f695dc", func := "valise/valiselaw10.TargetClimbs", spec := "targetClimbs", inPlace := ["internal/bytealg.IndexByteString", "internal/bytealg.CountString", "internal/bytealg.IndexString"], named := ["unicode/utf8.first", "unicode/utf8.acceptRanges", "internal/bytealg.MaxLen"], apart := false, laid := [("unicode/utf8.acceptRanges", laid_unicode_utf8_acceptRanges), ("unicode/utf8.first", laid_unicode_utf8_first)], narrowed := true }
def TargetClimbsUptoSaid : Prop := targetClimbsUptoRow.holds Tryd.pinned (OpenSpec.upto targetClimbsSpec)

/-- 'valiselaw10.TargetPolicies', WHERE WHAT IT READS IS OF BULK AT MOST 1048576: true; the input reads as it did. -/
def targetPoliciesUptoRow : OpenClaim := { program := "ythhggganhegfhaadoor", sum := "e60170553bb237382d6f3780863b5d512553a1e597d4a86bcf31e325d1f695dc", func := "valise/valiselaw10.TargetPolicies", spec := "targetPolicies", inPlace := ["internal/bytealg.IndexByteString", "internal/bytealg.CountString", "internal/bytealg.IndexString"], named := ["unicode/utf8.first", "unicode/utf8.acceptRanges", "internal/bytealg.MaxLen"], apart := false, laid := [("unicode/utf8.acceptRanges", laid_unicode_utf8_acceptRanges), ("unicode/utf8.first", laid_unicode_utf8_first)], narrowed := true }
def TargetPoliciesUptoSaid : Prop := targetPoliciesUptoRow.holds Tryd.pinned (OpenSpec.upto targetPoliciesSpec)

/-- 'valiselaw10.TargetMemory', WHERE WHAT IT READS IS OF BULK AT MOST 1048576: true; the input reads as it did. -/
def targetMemoryUptoRow : OpenClaim := { program := "ythhggganhegfhaadoor", sum := "e60170553bb237382d6f3780863b5d512553a1e597d4a86bcf31e325d1f695dc", func := "valise/valiselaw10.TargetMemory", spec := "targetMemory", inPlace := ["internal/bytealg.IndexByteString", "internal/bytealg.CountString", "internal/bytealg.IndexString"], named := ["unicode/utf8.first", "unicode/utf8.acceptRanges", "internal/bytealg.MaxLen"], apart := false, laid := [("unicode/utf8.acceptRanges", laid_unicode_utf8_acceptRanges), ("unicode/utf8.first", laid_unicode_utf8_first)], narrowed := true }
def TargetMemoryUptoSaid : Prop := targetMemoryUptoRow.holds Tryd.pinned (OpenSpec.upto targetMemorySpec)

/-- 'valiselaw09.RouteSplits', WHERE WHAT IT READS IS OF BULK AT MOST 1048576: true; the input reads as it did. -/
def routeSplitsUptoRow : OpenClaim := { program := "ythhggganhegfhaadoor", sum := "e60170553bb237382d6f3780863b5d512553a1e597d4a86bcf31e325d1f695dc", func := "valise/valiselaw09.RouteSplits", spec := "routeSplits", inPlace := ["internal/bytealg.IndexByteString", "internal/bytealg.CountString", "internal/bytealg.IndexString"], unfollowed := true, recurses := true, named := ["unicode/utf8.first", "unicode/utf8.acceptRanges", "internal/bytealg.MaxLen"], apart := false, laid := [("unicode/utf8.acceptRanges", laid_unicode_utf8_acceptRanges), ("unicode/utf8.first", laid_unicode_utf8_first)], narrowed := true }
def RouteSplitsUptoSaid : Prop := routeSplitsUptoRow.holds Tryd.pinned (OpenSpec.upto routeSplitsSpec)

/-- 'valiselaw09.RouteBehind', WHERE WHAT IT READS IS OF BULK AT MOST 1048576: true; the input reads as it did. -/
def routeBehindUptoRow : OpenClaim := { program := "ythhggganhegfhaadoor", sum := "e60170553bb237382d6f3780863b5d512553a1e597d4a86bcf31e325d1f695dc", func := "valise/valiselaw09.RouteBehind", spec := "routeBehind", inPlace := ["internal/bytealg.IndexByteString", "internal/bytealg.CountString", "internal/bytealg.IndexString"], unfollowed := true, recurses := true, named := ["unicode/utf8.first", "unicode/utf8.acceptRanges", "internal/bytealg.MaxLen"], apart := false, laid := [("unicode/utf8.acceptRanges", laid_unicode_utf8_acceptRanges), ("unicode/utf8.first", laid_unicode_utf8_first)], narrowed := true }
def RouteBehindUptoSaid : Prop := routeBehindUptoRow.holds Tryd.pinned (OpenSpec.upto routeBehindSpec)

/-- 'valiselaw09.RouteMemory', WHERE WHAT IT READS IS OF BULK AT MOST 1048576: true; the input reads as it did. -/
def routeMemoryUptoRow : OpenClaim := { program := "ythhggganhegfhaadoor", sum := "e60170553bb237382d6f3780863b5d512553a1e597d4a86bcf31e325d1f695dc", func := "valise/valiselaw09.RouteMemory", spec := "routeMemory", inPlace := ["internal/bytealg.IndexByteString", "internal/bytealg.CountString", "internal/bytealg.IndexString"], unfollowed := true, recurses := true, named := ["unicode/utf8.first", "unicode/utf8.acceptRanges", "internal/bytealg.MaxLen"], apart := false, laid := [("unicode/utf8.acceptRanges", laid_unicode_utf8_acceptRanges), ("unicode/utf8.first", laid_unicode_utf8_first)], narrowed := true }
def RouteMemoryUptoSaid : Prop := routeMemoryUptoRow.holds Tryd.pinned (OpenSpec.upto routeMemorySpec)

/-- 'valiselaw09.RouteStrips', WHERE WHAT IT READS IS OF BULK AT MOST 1048576: true; the input reads as it did. -/
def routeStripsUptoRow : OpenClaim := { program := "ythhggganhegfhaadoor", sum := "e60170553bb237382d6f3780863b5d512553a1e597d4a86bcf31e325d1f695dc", func := "valise/valiselaw09.RouteStrips", spec := "routeStrips", inPlace := ["internal/bytealg.IndexByteString", "internal/bytealg.CountString", "internal/bytealg.IndexString"], unfollowed := true, recurses := true, named := ["unicode/utf8.first", "unicode/utf8.acceptRanges", "internal/bytealg.MaxLen"], apart := false, laid := [("unicode/utf8.acceptRanges", laid_unicode_utf8_acceptRanges), ("unicode/utf8.first", laid_unicode_utf8_first)], narrowed := true }
def RouteStripsUptoSaid : Prop := routeStripsUptoRow.holds Tryd.pinned (OpenSpec.upto routeStripsSpec)

/-- 'valiselaw10.TargetHards', WHERE WHAT IT READS IS OF BULK AT MOST 1048576: true; the input reads as it did. -/
def targetHardsUptoRow : OpenClaim := { program := "ythhggganhegfhaadoor", sum := "e60170553bb237382d6f3780863b5d512553a1e597d4a86bcf31e325d1f695dc", func := "valise/valiselaw10.TargetHards", spec := "targetHards", inPlace := ["internal/bytealg.IndexByteString", "internal/bytealg.CountString", "internal/bytealg.IndexString"], unfollowed := true, recurses := true, named := ["unicode/utf8.first", "unicode/utf8.acceptRanges", "internal/bytealg.MaxLen"], apart := false, laid := [("unicode/utf8.acceptRanges", laid_unicode_utf8_acceptRanges), ("unicode/utf8.first", laid_unicode_utf8_first)], narrowed := true }
def TargetHardsUptoSaid : Prop := targetHardsUptoRow.holds Tryd.pinned (OpenSpec.upto targetHardsSpec)

/-- 'valiselaw09.RouteSafe', WHERE WHAT IT READS IS OF BULK AT MOST 1048576: true; the input reads as it did. -/
def routeSafeUptoRow : OpenClaim := { program := "ythhggganhegfhaadoor", sum := "e60170553bb237382d6f3780863b5d512553a1e597d4a86bcf31e325d1f695dc", func := "valise/valiselaw09.RouteSafe", spec := "routeSafe", inPlace := ["internal/bytealg.IndexByteString", "internal/bytealg.CountString", "internal/bytealg.IndexString", "internal/abi.NoEscape", "internal/bytealg.MakeNoZero"], unfollowed := true, recurses := true, named := ["unicode/utf8.first", "unicode/utf8.acceptRanges", "internal/bytealg.MaxLen"], apart := false, laid := [("unicode/utf8.acceptRanges", laid_unicode_utf8_acceptRanges), ("unicode/utf8.first", laid_unicode_utf8_first)], narrowed := true }
def RouteSafeUptoSaid : Prop := routeSafeUptoRow.holds Tryd.pinned (OpenSpec.upto routeSafeSpec)

/-- 'valiselaw10.TargetLeads', WHERE WHAT IT READS IS OF BULK AT MOST 1048576: true; the input reads as it did. -/
def targetLeadsUptoRow : OpenClaim := { program := "ythhggganhegfhaadoor", sum := "e60170553bb237382d6f3780863b5d512553a1e597d4a86bcf31e325d1f695dc", func := "valise/valiselaw10.TargetLeads", spec := "targetLeads", inPlace := ["internal/bytealg.IndexByteString", "internal/bytealg.CountString", "internal/bytealg.IndexString", "internal/abi.NoEscape", "internal/bytealg.MakeNoZero"], named := ["unicode/utf8.first", "unicode/utf8.acceptRanges", "internal/bytealg.MaxLen"], apart := false, laid := [("unicode/utf8.acceptRanges", laid_unicode_utf8_acceptRanges), ("unicode/utf8.first", laid_unicode_utf8_first)], narrowed := true }
def TargetLeadsUptoSaid : Prop := targetLeadsUptoRow.holds Tryd.pinned (OpenSpec.upto targetLeadsSpec)

end Rows
end Go.Proofs.YthhggganhegfhaaDoor
