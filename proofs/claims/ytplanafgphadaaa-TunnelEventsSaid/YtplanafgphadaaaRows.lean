/-
  No cell of these rows narrows 'for every input' (looked for: loops, veiled, ifaces, maps, wideKeys, modest, calm, conditions, laid).
  DERIVED. THE GIVEN ROWS OF THIS SEAT. 6 by the template 'for every input the law returns true; each argument reads behind the call as it read before'; 0 by the template 'total and deterministic' (their statements: YtplanafgphadaaaTotals.lean).
  GIVEN WITH THE SEED: the statements are not yours to turn. If you find one false, say at which input.
  Laid BY PROGRAM, IN A SANDBOX (cutbox-rows.mjs): the forced cells as the released guide's own fill.sh prints them over the translation 1021e8518c15c354… (all of the seat's roots in one cut). By AI agents, Wed Nov 11 2026. No macro, syntax, notation, axiom, sorry.
-/
import Derived.Test.YtplanafgphadaaaChecked
import GoSem.Claim
import GoSem.ClaimJoined
import GoSem.ClaimMapViews
import Derived.JoinedTies
import Derived.KernelRfl
namespace Go.Proofs.Ytplanafgphadaaa
/- THE CELL 'sum', in the pinned program and in every row, IS THE sha256 OF THE DUMP (.gsa) THAT YtplanafgphadaaaProg.lean LOADS. Nothing in Lean hashes anything: it is a label: what it is worth is what the hold of that sum in a sandbox is worth. -/
noncomputable def Try.pinned : Pinned := { name := "ytplanafgphadaaa", sum := "1021e8518c15c354a638e77ac26b15996a2488475a26ec3623146856a22c6159", checked := Try.checked }
namespace Rows
def none {H : Type} : Left H := { results := [], args := [] }

/-- 'tithinglaw08.TunnelMakes': WHATEVER THE INPUT: true; the input reads as it did. -/
def tunnelMakesSpec : ChangeSpec := { name := "tunnelMakes", fn := fun _ => fun
  | [d] => { results := [.lit (.bool true)], args := [d] }
  | _ => none }
def tunnelMakesRow : OpenClaim := { program := "ytplanafgphadaaa", sum := "1021e8518c15c354a638e77ac26b15996a2488475a26ec3623146856a22c6159", func := "tithing/tithinglaw08.TunnelMakes", spec := "tunnelMakes", unfollowed := true, recurses := true, apart := false }
def TunnelMakesSaid : Prop := tunnelMakesRow.holds Try.pinned (OpenSpec.ofChange tunnelMakesSpec)

/-- ITS FALSE NEIGHBOUR: 'it returns false'. Refute it at one input. -/
def tunnelMakesWrong : ChangeSpec := { name := "tunnelMakes", fn := fun _ => fun
  | [d] => { results := [.lit (.bool false)], args := [d] }
  | _ => none }
def TunnelMakesWrongFalsely : Prop := tunnelMakesRow.holds Try.pinned (OpenSpec.ofChange tunnelMakesWrong)

/-- 'tithinglaw08.TunnelEvents': WHATEVER THE INPUT: true; the input reads as it did. -/
def tunnelEventsSpec : ChangeSpec := { name := "tunnelEvents", fn := fun _ => fun
  | [d1, d2] => { results := [.lit (.bool true)], args := [d1, d2] }
  | _ => none }
def tunnelEventsRow : OpenClaim := { program := "ytplanafgphadaaa", sum := "1021e8518c15c354a638e77ac26b15996a2488475a26ec3623146856a22c6159", func := "tithing/tithinglaw08.TunnelEvents", spec := "tunnelEvents", unfollowed := true, recurses := true, apart := false }
def TunnelEventsSaid : Prop := tunnelEventsRow.holds Try.pinned (OpenSpec.ofChange tunnelEventsSpec)

/-- ITS FALSE NEIGHBOUR: 'it returns false'. Refute it at one input. -/
def tunnelEventsWrong : ChangeSpec := { name := "tunnelEvents", fn := fun _ => fun
  | [d1, d2] => { results := [.lit (.bool false)], args := [d1, d2] }
  | _ => none }
def TunnelEventsWrongFalsely : Prop := tunnelEventsRow.holds Try.pinned (OpenSpec.ofChange tunnelEventsWrong)

/-- 'tithinglaw08.TunnelThrough': WHATEVER THE INPUT: true; the input reads as it did. -/
def tunnelThroughSpec : ChangeSpec := { name := "tunnelThrough", fn := fun _ => fun
  | [d1, d2, d3] => { results := [.lit (.bool true)], args := [d1, d2, d3] }
  | _ => none }
def tunnelThroughRow : OpenClaim := { program := "ytplanafgphadaaa", sum := "1021e8518c15c354a638e77ac26b15996a2488475a26ec3623146856a22c6159", func := "tithing/tithinglaw08.TunnelThrough", spec := "tunnelThrough", unfollowed := true, recurses := true, apart := false }
def TunnelThroughSaid : Prop := tunnelThroughRow.holds Try.pinned (OpenSpec.ofChange tunnelThroughSpec)

/-- ITS FALSE NEIGHBOUR: 'it returns false'. Refute it at one input. -/
def tunnelThroughWrong : ChangeSpec := { name := "tunnelThrough", fn := fun _ => fun
  | [d1, d2, d3] => { results := [.lit (.bool false)], args := [d1, d2, d3] }
  | _ => none }
def TunnelThroughWrongFalsely : Prop := tunnelThroughRow.holds Try.pinned (OpenSpec.ofChange tunnelThroughWrong)

/-- 'tithinglaw08.TunnelNumbers': WHATEVER THE INPUT: true; the input reads as it did. -/
def tunnelNumbersSpec : ChangeSpec := { name := "tunnelNumbers", fn := fun _ => fun
  | [d1, d2, d3] => { results := [.lit (.bool true)], args := [d1, d2, d3] }
  | _ => none }
def tunnelNumbersRow : OpenClaim := { program := "ytplanafgphadaaa", sum := "1021e8518c15c354a638e77ac26b15996a2488475a26ec3623146856a22c6159", func := "tithing/tithinglaw08.TunnelNumbers", spec := "tunnelNumbers", unfollowed := true, recurses := true, apart := false }
def TunnelNumbersSaid : Prop := tunnelNumbersRow.holds Try.pinned (OpenSpec.ofChange tunnelNumbersSpec)

/-- ITS FALSE NEIGHBOUR: 'it returns false'. Refute it at one input. -/
def tunnelNumbersWrong : ChangeSpec := { name := "tunnelNumbers", fn := fun _ => fun
  | [d1, d2, d3] => { results := [.lit (.bool false)], args := [d1, d2, d3] }
  | _ => none }
def TunnelNumbersWrongFalsely : Prop := tunnelNumbersRow.holds Try.pinned (OpenSpec.ofChange tunnelNumbersWrong)

/-- 'tithinglaw08.TunnelApart': WHATEVER THE INPUT: true; the input reads as it did. -/
def tunnelApartSpec : ChangeSpec := { name := "tunnelApart", fn := fun _ => fun
  | [d1, d2] => { results := [.lit (.bool true)], args := [d1, d2] }
  | _ => none }
def tunnelApartRow : OpenClaim := { program := "ytplanafgphadaaa", sum := "1021e8518c15c354a638e77ac26b15996a2488475a26ec3623146856a22c6159", func := "tithing/tithinglaw08.TunnelApart", spec := "tunnelApart", unfollowed := true, recurses := true, apart := false }
def TunnelApartSaid : Prop := tunnelApartRow.holds Try.pinned (OpenSpec.ofChange tunnelApartSpec)

/-- ITS FALSE NEIGHBOUR: 'it returns false'. Refute it at one input. -/
def tunnelApartWrong : ChangeSpec := { name := "tunnelApart", fn := fun _ => fun
  | [d1, d2] => { results := [.lit (.bool false)], args := [d1, d2] }
  | _ => none }
def TunnelApartWrongFalsely : Prop := tunnelApartRow.holds Try.pinned (OpenSpec.ofChange tunnelApartWrong)

/-- 'tithinglaw08.TunnelNils': WHATEVER THE INPUT: true; the input reads as it did. -/
def tunnelNilsSpec : ChangeSpec := { name := "tunnelNils", fn := fun _ => fun
  | [d1, d2] => { results := [.lit (.bool true)], args := [d1, d2] }
  | _ => none }
def tunnelNilsRow : OpenClaim := { program := "ytplanafgphadaaa", sum := "1021e8518c15c354a638e77ac26b15996a2488475a26ec3623146856a22c6159", func := "tithing/tithinglaw08.TunnelNils", spec := "tunnelNils", unfollowed := true, recurses := true, apart := false }
def TunnelNilsSaid : Prop := tunnelNilsRow.holds Try.pinned (OpenSpec.ofChange tunnelNilsSpec)

/-- ITS FALSE NEIGHBOUR: 'it returns false'. Refute it at one input. -/
def tunnelNilsWrong : ChangeSpec := { name := "tunnelNils", fn := fun _ => fun
  | [d1, d2] => { results := [.lit (.bool false)], args := [d1, d2] }
  | _ => none }
def TunnelNilsWrongFalsely : Prop := tunnelNilsRow.holds Try.pinned (OpenSpec.ofChange tunnelNilsWrong)

/- THE SECOND FORM. 'bulk': how many values and letters a reading holds, each counted each time it is reached (what is shared counts as often as it is met; a slice's spare places count too). A statement '..UptoSaid' is the law's where the arguments, and the package variables that the reading takes, are together of bulk at most 1048576: NARROWER than '..Said'. Prove '..Said' where nothing that the law and all that it calls make is longer than what came in: it says more and counts as full. Else prove '..UptoSaid'. A law counts once. -/
mutual
def uptoBulk {H : Type} : DataW H → Nat
  | .lit (.string bytes) => bytes.length + 1
  | .lit _ => 1
  | .nil => 1
  | .ptr d => uptoBulk d + 1
  | .slice elems spare => uptoBulkAll elems + uptoBulkAll spare + 1
  | .agg parts => uptoBulkAll parts + 1
  | .iface _ d => uptoBulk d + 1
  | .map entries => uptoBulkEntries entries + 1
  | .held _ => 1
def uptoBulkAll {H : Type} : List (DataW H) → Nat
  | [] => 0
  | d :: r => uptoBulk d + uptoBulkAll r
def uptoBulkEntries {H : Type} : List (Lit × DataW H) → Nat
  | [] => 0
  | x :: r => uptoBulkEntry x + uptoBulkEntries r
def uptoBulkEntry {H : Type} : Lit × DataW H → Nat
  | (.string bytes, d) => bytes.length + uptoBulk d + 1
  | (_, d) => uptoBulk d + 1
 end
def uptoSmall : (H : Type) → List (DataW H) → Bool := fun _ ds => decide (uptoBulkAll ds ≤ 1048576)
def OpenSpec.upto (s : _root_.Go.ChangeSpec) : _root_.Go.OpenSpec := { _root_.Go.OpenSpec.ofChange s with cond := some uptoSmall }

/-- 'tithinglaw08.TunnelMakes', WHERE WHAT IT READS IS OF BULK AT MOST 1048576: true; the input reads as it did. -/
def tunnelMakesUptoRow : OpenClaim := { program := "ytplanafgphadaaa", sum := "1021e8518c15c354a638e77ac26b15996a2488475a26ec3623146856a22c6159", func := "tithing/tithinglaw08.TunnelMakes", spec := "tunnelMakes", unfollowed := true, recurses := true, apart := false, narrowed := true }
def TunnelMakesUptoSaid : Prop := tunnelMakesUptoRow.holds Try.pinned (OpenSpec.upto tunnelMakesSpec)

/-- 'tithinglaw08.TunnelEvents', WHERE WHAT IT READS IS OF BULK AT MOST 1048576: true; the input reads as it did. -/
def tunnelEventsUptoRow : OpenClaim := { program := "ytplanafgphadaaa", sum := "1021e8518c15c354a638e77ac26b15996a2488475a26ec3623146856a22c6159", func := "tithing/tithinglaw08.TunnelEvents", spec := "tunnelEvents", unfollowed := true, recurses := true, apart := false, narrowed := true }
def TunnelEventsUptoSaid : Prop := tunnelEventsUptoRow.holds Try.pinned (OpenSpec.upto tunnelEventsSpec)

/-- 'tithinglaw08.TunnelThrough', WHERE WHAT IT READS IS OF BULK AT MOST 1048576: true; the input reads as it did. -/
def tunnelThroughUptoRow : OpenClaim := { program := "ytplanafgphadaaa", sum := "1021e8518c15c354a638e77ac26b15996a2488475a26ec3623146856a22c6159", func := "tithing/tithinglaw08.TunnelThrough", spec := "tunnelThrough", unfollowed := true, recurses := true, apart := false, narrowed := true }
def TunnelThroughUptoSaid : Prop := tunnelThroughUptoRow.holds Try.pinned (OpenSpec.upto tunnelThroughSpec)

/-- 'tithinglaw08.TunnelNumbers', WHERE WHAT IT READS IS OF BULK AT MOST 1048576: true; the input reads as it did. -/
def tunnelNumbersUptoRow : OpenClaim := { program := "ytplanafgphadaaa", sum := "1021e8518c15c354a638e77ac26b15996a2488475a26ec3623146856a22c6159", func := "tithing/tithinglaw08.TunnelNumbers", spec := "tunnelNumbers", unfollowed := true, recurses := true, apart := false, narrowed := true }
def TunnelNumbersUptoSaid : Prop := tunnelNumbersUptoRow.holds Try.pinned (OpenSpec.upto tunnelNumbersSpec)

/-- 'tithinglaw08.TunnelApart', WHERE WHAT IT READS IS OF BULK AT MOST 1048576: true; the input reads as it did. -/
def tunnelApartUptoRow : OpenClaim := { program := "ytplanafgphadaaa", sum := "1021e8518c15c354a638e77ac26b15996a2488475a26ec3623146856a22c6159", func := "tithing/tithinglaw08.TunnelApart", spec := "tunnelApart", unfollowed := true, recurses := true, apart := false, narrowed := true }
def TunnelApartUptoSaid : Prop := tunnelApartUptoRow.holds Try.pinned (OpenSpec.upto tunnelApartSpec)

/-- 'tithinglaw08.TunnelNils', WHERE WHAT IT READS IS OF BULK AT MOST 1048576: true; the input reads as it did. -/
def tunnelNilsUptoRow : OpenClaim := { program := "ytplanafgphadaaa", sum := "1021e8518c15c354a638e77ac26b15996a2488475a26ec3623146856a22c6159", func := "tithing/tithinglaw08.TunnelNils", spec := "tunnelNils", unfollowed := true, recurses := true, apart := false, narrowed := true }
def TunnelNilsUptoSaid : Prop := tunnelNilsUptoRow.holds Try.pinned (OpenSpec.upto tunnelNilsSpec)

end Rows
end Go.Proofs.Ytplanafgphadaaa
