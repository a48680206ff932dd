/-
  No cell of these rows narrows 'for every input' (looked for: loops, veiled, ifaces, maps, wideKeys, modest, calm, conditions, laid).
  DERIVED. THE GIVEN ROWS OF THIS SEAT. 9 by the template 'for every input the law returns true; each argument reads behind the call as it read before'; 0 by the template 'total and deterministic' (their statements: YtekoffjfbjonmaaTotals.lean).
  GIVEN WITH THE SEED: the statements are not yours to turn. If you find one false, say at which input.
  Laid BY PROGRAM, IN A SANDBOX (cutbox-rows.mjs): the forced cells as the released guide's own fill.sh prints them over the translation c9849a1f94e6b56f… (all of the seat's roots in one cut). By AI agents, Wed Nov 11 2026. No macro, syntax, notation, axiom, sorry.
-/
import Derived.Test.YtekoffjfbjonmaaChecked
import GoSem.Claim
import GoSem.ClaimJoined
import GoSem.ClaimMapViews
import Derived.JoinedTies
import Derived.KernelRfl
namespace Go.Proofs.Ytekoffjfbjonmaa
/- THE CELL 'sum', in the pinned program and in every row, IS THE sha256 OF THE DUMP (.gsa) THAT YtekoffjfbjonmaaProg.lean LOADS. Nothing in Lean hashes anything: it is a label: what it is worth is what the hold of that sum in a sandbox is worth. -/
noncomputable def Try.pinned : Pinned := { name := "ytekoffjfbjonmaa", sum := "c9849a1f94e6b56fa413379aad076ad891920fb109b3ecaa9990a8e4542072c7", checked := Try.checked }
namespace Rows
def none {H : Type} : Left H := { results := [], args := [] }

/-- 'tithinglaw06.RouteMakes': WHATEVER THE INPUT: true; the input reads as it did. -/
def routeMakesSpec : ChangeSpec := { name := "routeMakes", fn := fun _ => fun
  | [d] => { results := [.lit (.bool true)], args := [d] }
  | _ => none }
def routeMakesRow : OpenClaim := { program := "ytekoffjfbjonmaa", sum := "c9849a1f94e6b56fa413379aad076ad891920fb109b3ecaa9990a8e4542072c7", func := "tithing/tithinglaw06.RouteMakes", spec := "routeMakes", unfollowed := true, recurses := true, apart := false }
def RouteMakesSaid : Prop := routeMakesRow.holds Try.pinned (OpenSpec.ofChange routeMakesSpec)

/-- ITS FALSE NEIGHBOUR: 'it returns false'. Refute it at one input. -/
def routeMakesWrong : ChangeSpec := { name := "routeMakes", fn := fun _ => fun
  | [d] => { results := [.lit (.bool false)], args := [d] }
  | _ => none }
def RouteMakesWrongFalsely : Prop := routeMakesRow.holds Try.pinned (OpenSpec.ofChange routeMakesWrong)

/-- 'tithinglaw06.RouteTables': WHATEVER THE INPUT: true; the input reads as it did. -/
def routeTablesSpec : ChangeSpec := { name := "routeTables", fn := fun _ => fun
  | [d] => { results := [.lit (.bool true)], args := [d] }
  | _ => none }
def routeTablesRow : OpenClaim := { program := "ytekoffjfbjonmaa", sum := "c9849a1f94e6b56fa413379aad076ad891920fb109b3ecaa9990a8e4542072c7", func := "tithing/tithinglaw06.RouteTables", spec := "routeTables", unfollowed := true, recurses := true, apart := false }
def RouteTablesSaid : Prop := routeTablesRow.holds Try.pinned (OpenSpec.ofChange routeTablesSpec)

/-- ITS FALSE NEIGHBOUR: 'it returns false'. Refute it at one input. -/
def routeTablesWrong : ChangeSpec := { name := "routeTables", fn := fun _ => fun
  | [d] => { results := [.lit (.bool false)], args := [d] }
  | _ => none }
def RouteTablesWrongFalsely : Prop := routeTablesRow.holds Try.pinned (OpenSpec.ofChange routeTablesWrong)

/-- 'tithinglaw06.RouteApart': WHATEVER THE INPUT: true; the input reads as it did. -/
def routeApartSpec : ChangeSpec := { name := "routeApart", fn := fun _ => fun
  | [d] => { results := [.lit (.bool true)], args := [d] }
  | _ => none }
def routeApartRow : OpenClaim := { program := "ytekoffjfbjonmaa", sum := "c9849a1f94e6b56fa413379aad076ad891920fb109b3ecaa9990a8e4542072c7", func := "tithing/tithinglaw06.RouteApart", spec := "routeApart", unfollowed := true, recurses := true, apart := false }
def RouteApartSaid : Prop := routeApartRow.holds Try.pinned (OpenSpec.ofChange routeApartSpec)

/-- ITS FALSE NEIGHBOUR: 'it returns false'. Refute it at one input. -/
def routeApartWrong : ChangeSpec := { name := "routeApart", fn := fun _ => fun
  | [d] => { results := [.lit (.bool false)], args := [d] }
  | _ => none }
def RouteApartWrongFalsely : Prop := routeApartRow.holds Try.pinned (OpenSpec.ofChange routeApartWrong)

/-- 'tithinglaw06.RouteWays': WHATEVER THE INPUT: true; the input reads as it did. -/
def routeWaysSpec : ChangeSpec := { name := "routeWays", fn := fun _ => fun
  | [d1, d2] => { results := [.lit (.bool true)], args := [d1, d2] }
  | _ => none }
def routeWaysRow : OpenClaim := { program := "ytekoffjfbjonmaa", sum := "c9849a1f94e6b56fa413379aad076ad891920fb109b3ecaa9990a8e4542072c7", func := "tithing/tithinglaw06.RouteWays", spec := "routeWays", unfollowed := true, recurses := true, apart := false }
def RouteWaysSaid : Prop := routeWaysRow.holds Try.pinned (OpenSpec.ofChange routeWaysSpec)

/-- ITS FALSE NEIGHBOUR: 'it returns false'. Refute it at one input. -/
def routeWaysWrong : ChangeSpec := { name := "routeWays", fn := fun _ => fun
  | [d1, d2] => { results := [.lit (.bool false)], args := [d1, d2] }
  | _ => none }
def RouteWaysWrongFalsely : Prop := routeWaysRow.holds Try.pinned (OpenSpec.ofChange routeWaysWrong)

/-- 'tithinglaw06.RouteNets': WHATEVER THE INPUT: true; the input reads as it did. -/
def routeNetsSpec : ChangeSpec := { name := "routeNets", fn := fun _ => fun
  | [d1, d2] => { results := [.lit (.bool true)], args := [d1, d2] }
  | _ => none }
def routeNetsRow : OpenClaim := { program := "ytekoffjfbjonmaa", sum := "c9849a1f94e6b56fa413379aad076ad891920fb109b3ecaa9990a8e4542072c7", func := "tithing/tithinglaw06.RouteNets", spec := "routeNets", unfollowed := true, recurses := true, apart := false }
def RouteNetsSaid : Prop := routeNetsRow.holds Try.pinned (OpenSpec.ofChange routeNetsSpec)

/-- ITS FALSE NEIGHBOUR: 'it returns false'. Refute it at one input. -/
def routeNetsWrong : ChangeSpec := { name := "routeNets", fn := fun _ => fun
  | [d1, d2] => { results := [.lit (.bool false)], args := [d1, d2] }
  | _ => none }
def RouteNetsWrongFalsely : Prop := routeNetsRow.holds Try.pinned (OpenSpec.ofChange routeNetsWrong)

/-- 'tithinglaw06.RouteCopies': WHATEVER THE INPUT: true; the input reads as it did. -/
def routeCopiesSpec : ChangeSpec := { name := "routeCopies", fn := fun _ => fun
  | [d1, d2, d3] => { results := [.lit (.bool true)], args := [d1, d2, d3] }
  | _ => none }
def routeCopiesRow : OpenClaim := { program := "ytekoffjfbjonmaa", sum := "c9849a1f94e6b56fa413379aad076ad891920fb109b3ecaa9990a8e4542072c7", func := "tithing/tithinglaw06.RouteCopies", spec := "routeCopies", unfollowed := true, recurses := true, apart := false }
def RouteCopiesSaid : Prop := routeCopiesRow.holds Try.pinned (OpenSpec.ofChange routeCopiesSpec)

/-- ITS FALSE NEIGHBOUR: 'it returns false'. Refute it at one input. -/
def routeCopiesWrong : ChangeSpec := { name := "routeCopies", fn := fun _ => fun
  | [d1, d2, d3] => { results := [.lit (.bool false)], args := [d1, d2, d3] }
  | _ => none }
def RouteCopiesWrongFalsely : Prop := routeCopiesRow.holds Try.pinned (OpenSpec.ofChange routeCopiesWrong)

/-- 'tithinglaw06.RoutePaths': WHATEVER THE INPUT: true; the input reads as it did. -/
def routePathsSpec : ChangeSpec := { name := "routePaths", fn := fun _ => fun
  | [d1, d2] => { results := [.lit (.bool true)], args := [d1, d2] }
  | _ => none }
def routePathsRow : OpenClaim := { program := "ytekoffjfbjonmaa", sum := "c9849a1f94e6b56fa413379aad076ad891920fb109b3ecaa9990a8e4542072c7", func := "tithing/tithinglaw06.RoutePaths", spec := "routePaths", unfollowed := true, recurses := true, apart := false }
def RoutePathsSaid : Prop := routePathsRow.holds Try.pinned (OpenSpec.ofChange routePathsSpec)

/-- ITS FALSE NEIGHBOUR: 'it returns false'. Refute it at one input. -/
def routePathsWrong : ChangeSpec := { name := "routePaths", fn := fun _ => fun
  | [d1, d2] => { results := [.lit (.bool false)], args := [d1, d2] }
  | _ => none }
def RoutePathsWrongFalsely : Prop := routePathsRow.holds Try.pinned (OpenSpec.ofChange routePathsWrong)

/-- 'tithinglaw06.RouteShortest': WHATEVER THE INPUT: true; the input reads as it did. -/
def routeShortestSpec : ChangeSpec := { name := "routeShortest", fn := fun _ => fun
  | [d1, d2] => { results := [.lit (.bool true)], args := [d1, d2] }
  | _ => none }
def routeShortestRow : OpenClaim := { program := "ytekoffjfbjonmaa", sum := "c9849a1f94e6b56fa413379aad076ad891920fb109b3ecaa9990a8e4542072c7", func := "tithing/tithinglaw06.RouteShortest", spec := "routeShortest", unfollowed := true, recurses := true, apart := false }
def RouteShortestSaid : Prop := routeShortestRow.holds Try.pinned (OpenSpec.ofChange routeShortestSpec)

/-- ITS FALSE NEIGHBOUR: 'it returns false'. Refute it at one input. -/
def routeShortestWrong : ChangeSpec := { name := "routeShortest", fn := fun _ => fun
  | [d1, d2] => { results := [.lit (.bool false)], args := [d1, d2] }
  | _ => none }
def RouteShortestWrongFalsely : Prop := routeShortestRow.holds Try.pinned (OpenSpec.ofChange routeShortestWrong)

/-- 'tithinglaw06.RouteNils': WHATEVER THE INPUT: true; the input reads as it did. -/
def routeNilsSpec : ChangeSpec := { name := "routeNils", fn := fun _ => fun
  | [d1, d2] => { results := [.lit (.bool true)], args := [d1, d2] }
  | _ => none }
def routeNilsRow : OpenClaim := { program := "ytekoffjfbjonmaa", sum := "c9849a1f94e6b56fa413379aad076ad891920fb109b3ecaa9990a8e4542072c7", func := "tithing/tithinglaw06.RouteNils", spec := "routeNils", unfollowed := true, recurses := true, apart := false }
def RouteNilsSaid : Prop := routeNilsRow.holds Try.pinned (OpenSpec.ofChange routeNilsSpec)

/-- ITS FALSE NEIGHBOUR: 'it returns false'. Refute it at one input. -/
def routeNilsWrong : ChangeSpec := { name := "routeNils", fn := fun _ => fun
  | [d1, d2] => { results := [.lit (.bool false)], args := [d1, d2] }
  | _ => none }
def RouteNilsWrongFalsely : Prop := routeNilsRow.holds Try.pinned (OpenSpec.ofChange routeNilsWrong)

/- THE SECOND FORM. 'bulk': how many values and letters a reading holds, each counted each time it is reached (what is shared counts as often as it is met; a slice's spare places count too). A statement '..UptoSaid' is the law's where the arguments, and the package variables that the reading takes, are together of bulk at most 1048576: NARROWER than '..Said'. Prove '..Said' where nothing that the law and all that it calls make is longer than what came in: it says more and counts as full. Else prove '..UptoSaid'. A law counts once. -/
mutual
def uptoBulk {H : Type} : DataW H → Nat
  | .lit (.string bytes) => bytes.length + 1
  | .lit _ => 1
  | .nil => 1
  | .ptr d => uptoBulk d + 1
  | .slice elems spare => uptoBulkAll elems + uptoBulkAll spare + 1
  | .agg parts => uptoBulkAll parts + 1
  | .iface _ d => uptoBulk d + 1
  | .map entries => uptoBulkEntries entries + 1
  | .held _ => 1
def uptoBulkAll {H : Type} : List (DataW H) → Nat
  | [] => 0
  | d :: r => uptoBulk d + uptoBulkAll r
def uptoBulkEntries {H : Type} : List (Lit × DataW H) → Nat
  | [] => 0
  | x :: r => uptoBulkEntry x + uptoBulkEntries r
def uptoBulkEntry {H : Type} : Lit × DataW H → Nat
  | (.string bytes, d) => bytes.length + uptoBulk d + 1
  | (_, d) => uptoBulk d + 1
 end
def uptoSmall : (H : Type) → List (DataW H) → Bool := fun _ ds => decide (uptoBulkAll ds ≤ 1048576)
def OpenSpec.upto (s : _root_.Go.ChangeSpec) : _root_.Go.OpenSpec := { _root_.Go.OpenSpec.ofChange s with cond := some uptoSmall }

/-- 'tithinglaw06.RouteMakes', WHERE WHAT IT READS IS OF BULK AT MOST 1048576: true; the input reads as it did. -/
def routeMakesUptoRow : OpenClaim := { program := "ytekoffjfbjonmaa", sum := "c9849a1f94e6b56fa413379aad076ad891920fb109b3ecaa9990a8e4542072c7", func := "tithing/tithinglaw06.RouteMakes", spec := "routeMakes", unfollowed := true, recurses := true, apart := false, narrowed := true }
def RouteMakesUptoSaid : Prop := routeMakesUptoRow.holds Try.pinned (OpenSpec.upto routeMakesSpec)

/-- 'tithinglaw06.RouteTables', WHERE WHAT IT READS IS OF BULK AT MOST 1048576: true; the input reads as it did. -/
def routeTablesUptoRow : OpenClaim := { program := "ytekoffjfbjonmaa", sum := "c9849a1f94e6b56fa413379aad076ad891920fb109b3ecaa9990a8e4542072c7", func := "tithing/tithinglaw06.RouteTables", spec := "routeTables", unfollowed := true, recurses := true, apart := false, narrowed := true }
def RouteTablesUptoSaid : Prop := routeTablesUptoRow.holds Try.pinned (OpenSpec.upto routeTablesSpec)

/-- 'tithinglaw06.RouteApart', WHERE WHAT IT READS IS OF BULK AT MOST 1048576: true; the input reads as it did. -/
def routeApartUptoRow : OpenClaim := { program := "ytekoffjfbjonmaa", sum := "c9849a1f94e6b56fa413379aad076ad891920fb109b3ecaa9990a8e4542072c7", func := "tithing/tithinglaw06.RouteApart", spec := "routeApart", unfollowed := true, recurses := true, apart := false, narrowed := true }
def RouteApartUptoSaid : Prop := routeApartUptoRow.holds Try.pinned (OpenSpec.upto routeApartSpec)

/-- 'tithinglaw06.RouteWays', WHERE WHAT IT READS IS OF BULK AT MOST 1048576: true; the input reads as it did. -/
def routeWaysUptoRow : OpenClaim := { program := "ytekoffjfbjonmaa", sum := "c9849a1f94e6b56fa413379aad076ad891920fb109b3ecaa9990a8e4542072c7", func := "tithing/tithinglaw06.RouteWays", spec := "routeWays", unfollowed := true, recurses := true, apart := false, narrowed := true }
def RouteWaysUptoSaid : Prop := routeWaysUptoRow.holds Try.pinned (OpenSpec.upto routeWaysSpec)

/-- 'tithinglaw06.RouteNets', WHERE WHAT IT READS IS OF BULK AT MOST 1048576: true; the input reads as it did. -/
def routeNetsUptoRow : OpenClaim := { program := "ytekoffjfbjonmaa", sum := "c9849a1f94e6b56fa413379aad076ad891920fb109b3ecaa9990a8e4542072c7", func := "tithing/tithinglaw06.RouteNets", spec := "routeNets", unfollowed := true, recurses := true, apart := false, narrowed := true }
def RouteNetsUptoSaid : Prop := routeNetsUptoRow.holds Try.pinned (OpenSpec.upto routeNetsSpec)

/-- 'tithinglaw06.RouteCopies', WHERE WHAT IT READS IS OF BULK AT MOST 1048576: true; the input reads as it did. -/
def routeCopiesUptoRow : OpenClaim := { program := "ytekoffjfbjonmaa", sum := "c9849a1f94e6b56fa413379aad076ad891920fb109b3ecaa9990a8e4542072c7", func := "tithing/tithinglaw06.RouteCopies", spec := "routeCopies", unfollowed := true, recurses := true, apart := false, narrowed := true }
def RouteCopiesUptoSaid : Prop := routeCopiesUptoRow.holds Try.pinned (OpenSpec.upto routeCopiesSpec)

/-- 'tithinglaw06.RoutePaths', WHERE WHAT IT READS IS OF BULK AT MOST 1048576: true; the input reads as it did. -/
def routePathsUptoRow : OpenClaim := { program := "ytekoffjfbjonmaa", sum := "c9849a1f94e6b56fa413379aad076ad891920fb109b3ecaa9990a8e4542072c7", func := "tithing/tithinglaw06.RoutePaths", spec := "routePaths", unfollowed := true, recurses := true, apart := false, narrowed := true }
def RoutePathsUptoSaid : Prop := routePathsUptoRow.holds Try.pinned (OpenSpec.upto routePathsSpec)

/-- 'tithinglaw06.RouteShortest', WHERE WHAT IT READS IS OF BULK AT MOST 1048576: true; the input reads as it did. -/
def routeShortestUptoRow : OpenClaim := { program := "ytekoffjfbjonmaa", sum := "c9849a1f94e6b56fa413379aad076ad891920fb109b3ecaa9990a8e4542072c7", func := "tithing/tithinglaw06.RouteShortest", spec := "routeShortest", unfollowed := true, recurses := true, apart := false, narrowed := true }
def RouteShortestUptoSaid : Prop := routeShortestUptoRow.holds Try.pinned (OpenSpec.upto routeShortestSpec)

/-- 'tithinglaw06.RouteNils', WHERE WHAT IT READS IS OF BULK AT MOST 1048576: true; the input reads as it did. -/
def routeNilsUptoRow : OpenClaim := { program := "ytekoffjfbjonmaa", sum := "c9849a1f94e6b56fa413379aad076ad891920fb109b3ecaa9990a8e4542072c7", func := "tithing/tithinglaw06.RouteNils", spec := "routeNils", unfollowed := true, recurses := true, apart := false, narrowed := true }
def RouteNilsUptoSaid : Prop := routeNilsUptoRow.holds Try.pinned (OpenSpec.upto routeNilsSpec)

end Rows
end Go.Proofs.Ytekoffjfbjonmaa
