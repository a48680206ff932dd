/-
  No cell of these rows narrows 'for every input' (looked for: loops, veiled, ifaces, maps, wideKeys, modest, calm, conditions, laid).
  DERIVED. THE GIVEN ROWS OF THIS SEAT. 9 by the template 'for every input the law returns true; each argument reads behind the call as it read before'; 0 by the template 'total and deterministic' (their statements: YtdehanhonfbdpaaTotals.lean).
  GIVEN WITH THE SEED: the statements are not yours to turn. If you find one false, say at which input.
  Laid BY PROGRAM, IN A SANDBOX (cutbox-rows.mjs): the forced cells as the released guide's own fill.sh prints them over the translation 08c4e2eed546b641… (all of the seat's roots in one cut). By AI agents, Wed Nov 11 2026. No macro, syntax, notation, axiom, sorry.
-/
import Derived.Test.YtdehanhonfbdpaaChecked
import GoSem.Claim
import GoSem.ClaimJoined
import GoSem.ClaimMapViews
import Derived.JoinedTies
import Derived.KernelRfl
namespace Go.Proofs.Ytdehanhonfbdpaa
/- THE CELL 'sum', in the pinned program and in every row, IS THE sha256 OF THE DUMP (.gsa) THAT YtdehanhonfbdpaaProg.lean LOADS. Nothing in Lean hashes anything: it is a label: what it is worth is what the hold of that sum in a sandbox is worth. -/
noncomputable def Try.pinned : Pinned := { name := "ytdehanhonfbdpaa", sum := "08c4e2eed546b641a139ca9225af1ed962a28f76fabd8053cb12718fe1bd6073", checked := Try.checked }
namespace Rows
def none {H : Type} : Left H := { results := [], args := [] }

/-- 'tithinglaw07.ZonePuts': WHATEVER THE INPUT: true; the input reads as it did. -/
def zonePutsSpec : ChangeSpec := { name := "zonePuts", fn := fun _ => fun
  | [d1, d2] => { results := [.lit (.bool true)], args := [d1, d2] }
  | _ => none }
def zonePutsRow : OpenClaim := { program := "ytdehanhonfbdpaa", sum := "08c4e2eed546b641a139ca9225af1ed962a28f76fabd8053cb12718fe1bd6073", func := "tithing/tithinglaw07.ZonePuts", spec := "zonePuts", unfollowed := true, recurses := true, apart := false }
def ZonePutsSaid : Prop := zonePutsRow.holds Try.pinned (OpenSpec.ofChange zonePutsSpec)

/-- ITS FALSE NEIGHBOUR: 'it returns false'. Refute it at one input. -/
def zonePutsWrong : ChangeSpec := { name := "zonePuts", fn := fun _ => fun
  | [d1, d2] => { results := [.lit (.bool false)], args := [d1, d2] }
  | _ => none }
def ZonePutsWrongFalsely : Prop := zonePutsRow.holds Try.pinned (OpenSpec.ofChange zonePutsWrong)

/-- 'tithinglaw07.ZoneTexts': WHATEVER THE INPUT: true; the input reads as it did. -/
def zoneTextsSpec : ChangeSpec := { name := "zoneTexts", fn := fun _ => fun
  | [d1, d2] => { results := [.lit (.bool true)], args := [d1, d2] }
  | _ => none }
def zoneTextsRow : OpenClaim := { program := "ytdehanhonfbdpaa", sum := "08c4e2eed546b641a139ca9225af1ed962a28f76fabd8053cb12718fe1bd6073", func := "tithing/tithinglaw07.ZoneTexts", spec := "zoneTexts", unfollowed := true, recurses := true, apart := false }
def ZoneTextsSaid : Prop := zoneTextsRow.holds Try.pinned (OpenSpec.ofChange zoneTextsSpec)

/-- ITS FALSE NEIGHBOUR: 'it returns false'. Refute it at one input. -/
def zoneTextsWrong : ChangeSpec := { name := "zoneTexts", fn := fun _ => fun
  | [d1, d2] => { results := [.lit (.bool false)], args := [d1, d2] }
  | _ => none }
def ZoneTextsWrongFalsely : Prop := zoneTextsRow.holds Try.pinned (OpenSpec.ofChange zoneTextsWrong)

/-- 'tithinglaw07.ZoneGets': WHATEVER THE INPUT: true; the input reads as it did. -/
def zoneGetsSpec : ChangeSpec := { name := "zoneGets", fn := fun _ => fun
  | [d] => { results := [.lit (.bool true)], args := [d] }
  | _ => none }
def zoneGetsRow : OpenClaim := { program := "ytdehanhonfbdpaa", sum := "08c4e2eed546b641a139ca9225af1ed962a28f76fabd8053cb12718fe1bd6073", func := "tithing/tithinglaw07.ZoneGets", spec := "zoneGets", unfollowed := true, recurses := true, apart := false }
def ZoneGetsSaid : Prop := zoneGetsRow.holds Try.pinned (OpenSpec.ofChange zoneGetsSpec)

/-- ITS FALSE NEIGHBOUR: 'it returns false'. Refute it at one input. -/
def zoneGetsWrong : ChangeSpec := { name := "zoneGets", fn := fun _ => fun
  | [d] => { results := [.lit (.bool false)], args := [d] }
  | _ => none }
def ZoneGetsWrongFalsely : Prop := zoneGetsRow.holds Try.pinned (OpenSpec.ofChange zoneGetsWrong)

/-- 'tithinglaw09.NameTexts': WHATEVER THE INPUT: true; the input reads as it did. -/
def nameTextsSpec : ChangeSpec := { name := "nameTexts", fn := fun _ => fun
  | [d1, d2] => { results := [.lit (.bool true)], args := [d1, d2] }
  | _ => none }
def nameTextsRow : OpenClaim := { program := "ytdehanhonfbdpaa", sum := "08c4e2eed546b641a139ca9225af1ed962a28f76fabd8053cb12718fe1bd6073", func := "tithing/tithinglaw09.NameTexts", spec := "nameTexts", inPlace := ["internal/bytealg.IndexByteString", "internal/bytealg.IndexString"], named := ["internal/bytealg.MaxLen"], apart := false }
def NameTextsSaid : Prop := nameTextsRow.holds Try.pinned (OpenSpec.ofChange nameTextsSpec)

/-- ITS FALSE NEIGHBOUR: 'it returns false'. Refute it at one input. -/
def nameTextsWrong : ChangeSpec := { name := "nameTexts", fn := fun _ => fun
  | [d1, d2] => { results := [.lit (.bool false)], args := [d1, d2] }
  | _ => none }
def NameTextsWrongFalsely : Prop := nameTextsRow.holds Try.pinned (OpenSpec.ofChange nameTextsWrong)

/-- 'tithinglaw07.ZoneBack': WHATEVER THE INPUT: true; the input reads as it did. -/
def zoneBackSpec : ChangeSpec := { name := "zoneBack", fn := fun _ => fun
  | [d1, d2, d3] => { results := [.lit (.bool true)], args := [d1, d2, d3] }
  | _ => none }
def zoneBackRow : OpenClaim := { program := "ytdehanhonfbdpaa", sum := "08c4e2eed546b641a139ca9225af1ed962a28f76fabd8053cb12718fe1bd6073", func := "tithing/tithinglaw07.ZoneBack", spec := "zoneBack", unfollowed := true, recurses := true, apart := false }
def ZoneBackSaid : Prop := zoneBackRow.holds Try.pinned (OpenSpec.ofChange zoneBackSpec)

/-- ITS FALSE NEIGHBOUR: 'it returns false'. Refute it at one input. -/
def zoneBackWrong : ChangeSpec := { name := "zoneBack", fn := fun _ => fun
  | [d1, d2, d3] => { results := [.lit (.bool false)], args := [d1, d2, d3] }
  | _ => none }
def ZoneBackWrongFalsely : Prop := zoneBackRow.holds Try.pinned (OpenSpec.ofChange zoneBackWrong)

/-- 'tithinglaw09.NamePuts': WHATEVER THE INPUT: true; the input reads as it did. -/
def namePutsSpec : ChangeSpec := { name := "namePuts", fn := fun _ => fun
  | [d1, d2, d3] => { results := [.lit (.bool true)], args := [d1, d2, d3] }
  | _ => none }
def namePutsRow : OpenClaim := { program := "ytdehanhonfbdpaa", sum := "08c4e2eed546b641a139ca9225af1ed962a28f76fabd8053cb12718fe1bd6073", func := "tithing/tithinglaw09.NamePuts", spec := "namePuts", inPlace := ["internal/bytealg.IndexByteString", "internal/bytealg.IndexString"], named := ["internal/bytealg.MaxLen"], apart := false }
def NamePutsSaid : Prop := namePutsRow.holds Try.pinned (OpenSpec.ofChange namePutsSpec)

/-- ITS FALSE NEIGHBOUR: 'it returns false'. Refute it at one input. -/
def namePutsWrong : ChangeSpec := { name := "namePuts", fn := fun _ => fun
  | [d1, d2, d3] => { results := [.lit (.bool false)], args := [d1, d2, d3] }
  | _ => none }
def NamePutsWrongFalsely : Prop := namePutsRow.holds Try.pinned (OpenSpec.ofChange namePutsWrong)

/-- 'tithinglaw09.NameFits': WHATEVER THE INPUT: true; the input reads as it did. -/
def nameFitsSpec : ChangeSpec := { name := "nameFits", fn := fun _ => fun
  | [d1, d2] => { results := [.lit (.bool true)], args := [d1, d2] }
  | _ => none }
def nameFitsRow : OpenClaim := { program := "ytdehanhonfbdpaa", sum := "08c4e2eed546b641a139ca9225af1ed962a28f76fabd8053cb12718fe1bd6073", func := "tithing/tithinglaw09.NameFits", spec := "nameFits", inPlace := ["internal/bytealg.IndexByteString", "internal/bytealg.IndexString"], named := ["internal/bytealg.MaxLen"], apart := false }
def NameFitsSaid : Prop := nameFitsRow.holds Try.pinned (OpenSpec.ofChange nameFitsSpec)

/-- ITS FALSE NEIGHBOUR: 'it returns false'. Refute it at one input. -/
def nameFitsWrong : ChangeSpec := { name := "nameFits", fn := fun _ => fun
  | [d1, d2] => { results := [.lit (.bool false)], args := [d1, d2] }
  | _ => none }
def NameFitsWrongFalsely : Prop := nameFitsRow.holds Try.pinned (OpenSpec.ofChange nameFitsWrong)

/-- 'tithinglaw09.NameGets': WHATEVER THE INPUT: true; the input reads as it did. -/
def nameGetsSpec : ChangeSpec := { name := "nameGets", fn := fun _ => fun
  | [d] => { results := [.lit (.bool true)], args := [d] }
  | _ => none }
def nameGetsRow : OpenClaim := { program := "ytdehanhonfbdpaa", sum := "08c4e2eed546b641a139ca9225af1ed962a28f76fabd8053cb12718fe1bd6073", func := "tithing/tithinglaw09.NameGets", spec := "nameGets", inPlace := ["internal/bytealg.IndexByteString", "internal/bytealg.IndexString"], named := ["internal/bytealg.MaxLen"], apart := false }
def NameGetsSaid : Prop := nameGetsRow.holds Try.pinned (OpenSpec.ofChange nameGetsSpec)

/-- ITS FALSE NEIGHBOUR: 'it returns false'. Refute it at one input. -/
def nameGetsWrong : ChangeSpec := { name := "nameGets", fn := fun _ => fun
  | [d] => { results := [.lit (.bool false)], args := [d] }
  | _ => none }
def NameGetsWrongFalsely : Prop := nameGetsRow.holds Try.pinned (OpenSpec.ofChange nameGetsWrong)

/-- 'tithinglaw09.NameBack': WHATEVER THE INPUT: true; the input reads as it did. -/
def nameBackSpec : ChangeSpec := { name := "nameBack", fn := fun _ => fun
  | [d1, d2, d3] => { results := [.lit (.bool true)], args := [d1, d2, d3] }
  | _ => none }
def nameBackRow : OpenClaim := { program := "ytdehanhonfbdpaa", sum := "08c4e2eed546b641a139ca9225af1ed962a28f76fabd8053cb12718fe1bd6073", func := "tithing/tithinglaw09.NameBack", spec := "nameBack", inPlace := ["internal/bytealg.IndexByteString", "internal/bytealg.IndexString"], named := ["internal/bytealg.MaxLen"], apart := false }
def NameBackSaid : Prop := nameBackRow.holds Try.pinned (OpenSpec.ofChange nameBackSpec)

/-- ITS FALSE NEIGHBOUR: 'it returns false'. Refute it at one input. -/
def nameBackWrong : ChangeSpec := { name := "nameBack", fn := fun _ => fun
  | [d1, d2, d3] => { results := [.lit (.bool false)], args := [d1, d2, d3] }
  | _ => none }
def NameBackWrongFalsely : Prop := nameBackRow.holds Try.pinned (OpenSpec.ofChange nameBackWrong)

/- THE SECOND FORM. 'bulk': how many values and letters a reading holds, each counted each time it is reached (what is shared counts as often as it is met; a slice's spare places count too). A statement '..UptoSaid' is the law's where the arguments, and the package variables that the reading takes, are together of bulk at most 1048576: NARROWER than '..Said'. Prove '..Said' where nothing that the law and all that it calls make is longer than what came in: it says more and counts as full. Else prove '..UptoSaid'. A law counts once. -/
mutual
def uptoBulk {H : Type} : DataW H → Nat
  | .lit (.string bytes) => bytes.length + 1
  | .lit _ => 1
  | .nil => 1
  | .ptr d => uptoBulk d + 1
  | .slice elems spare => uptoBulkAll elems + uptoBulkAll spare + 1
  | .agg parts => uptoBulkAll parts + 1
  | .iface _ d => uptoBulk d + 1
  | .map entries => uptoBulkEntries entries + 1
  | .held _ => 1
def uptoBulkAll {H : Type} : List (DataW H) → Nat
  | [] => 0
  | d :: r => uptoBulk d + uptoBulkAll r
def uptoBulkEntries {H : Type} : List (Lit × DataW H) → Nat
  | [] => 0
  | x :: r => uptoBulkEntry x + uptoBulkEntries r
def uptoBulkEntry {H : Type} : Lit × DataW H → Nat
  | (.string bytes, d) => bytes.length + uptoBulk d + 1
  | (_, d) => uptoBulk d + 1
 end
def uptoSmall : (H : Type) → List (DataW H) → Bool := fun _ ds => decide (uptoBulkAll ds ≤ 1048576)
def OpenSpec.upto (s : _root_.Go.ChangeSpec) : _root_.Go.OpenSpec := { _root_.Go.OpenSpec.ofChange s with cond := some uptoSmall }

/-- 'tithinglaw07.ZonePuts', WHERE WHAT IT READS IS OF BULK AT MOST 1048576: true; the input reads as it did. -/
def zonePutsUptoRow : OpenClaim := { program := "ytdehanhonfbdpaa", sum := "08c4e2eed546b641a139ca9225af1ed962a28f76fabd8053cb12718fe1bd6073", func := "tithing/tithinglaw07.ZonePuts", spec := "zonePuts", unfollowed := true, recurses := true, apart := false, narrowed := true }
def ZonePutsUptoSaid : Prop := zonePutsUptoRow.holds Try.pinned (OpenSpec.upto zonePutsSpec)

/-- 'tithinglaw07.ZoneTexts', WHERE WHAT IT READS IS OF BULK AT MOST 1048576: true; the input reads as it did. -/
def zoneTextsUptoRow : OpenClaim := { program := "ytdehanhonfbdpaa", sum := "08c4e2eed546b641a139ca9225af1ed962a28f76fabd8053cb12718fe1bd6073", func := "tithing/tithinglaw07.ZoneTexts", spec := "zoneTexts", unfollowed := true, recurses := true, apart := false, narrowed := true }
def ZoneTextsUptoSaid : Prop := zoneTextsUptoRow.holds Try.pinned (OpenSpec.upto zoneTextsSpec)

/-- 'tithinglaw07.ZoneGets', WHERE WHAT IT READS IS OF BULK AT MOST 1048576: true; the input reads as it did. -/
def zoneGetsUptoRow : OpenClaim := { program := "ytdehanhonfbdpaa", sum := "08c4e2eed546b641a139ca9225af1ed962a28f76fabd8053cb12718fe1bd6073", func := "tithing/tithinglaw07.ZoneGets", spec := "zoneGets", unfollowed := true, recurses := true, apart := false, narrowed := true }
def ZoneGetsUptoSaid : Prop := zoneGetsUptoRow.holds Try.pinned (OpenSpec.upto zoneGetsSpec)

/-- 'tithinglaw09.NameTexts', WHERE WHAT IT READS IS OF BULK AT MOST 1048576: true; the input reads as it did. -/
def nameTextsUptoRow : OpenClaim := { program := "ytdehanhonfbdpaa", sum := "08c4e2eed546b641a139ca9225af1ed962a28f76fabd8053cb12718fe1bd6073", func := "tithing/tithinglaw09.NameTexts", spec := "nameTexts", inPlace := ["internal/bytealg.IndexByteString", "internal/bytealg.IndexString"], named := ["internal/bytealg.MaxLen"], apart := false, narrowed := true }
def NameTextsUptoSaid : Prop := nameTextsUptoRow.holds Try.pinned (OpenSpec.upto nameTextsSpec)

/-- 'tithinglaw07.ZoneBack', WHERE WHAT IT READS IS OF BULK AT MOST 1048576: true; the input reads as it did. -/
def zoneBackUptoRow : OpenClaim := { program := "ytdehanhonfbdpaa", sum := "08c4e2eed546b641a139ca9225af1ed962a28f76fabd8053cb12718fe1bd6073", func := "tithing/tithinglaw07.ZoneBack", spec := "zoneBack", unfollowed := true, recurses := true, apart := false, narrowed := true }
def ZoneBackUptoSaid : Prop := zoneBackUptoRow.holds Try.pinned (OpenSpec.upto zoneBackSpec)

/-- 'tithinglaw09.NamePuts', WHERE WHAT IT READS IS OF BULK AT MOST 1048576: true; the input reads as it did. -/
def namePutsUptoRow : OpenClaim := { program := "ytdehanhonfbdpaa", sum := "08c4e2eed546b641a139ca9225af1ed962a28f76fabd8053cb12718fe1bd6073", func := "tithing/tithinglaw09.NamePuts", spec := "namePuts", inPlace := ["internal/bytealg.IndexByteString", "internal/bytealg.IndexString"], named := ["internal/bytealg.MaxLen"], apart := false, narrowed := true }
def NamePutsUptoSaid : Prop := namePutsUptoRow.holds Try.pinned (OpenSpec.upto namePutsSpec)

/-- 'tithinglaw09.NameFits', WHERE WHAT IT READS IS OF BULK AT MOST 1048576: true; the input reads as it did. -/
def nameFitsUptoRow : OpenClaim := { program := "ytdehanhonfbdpaa", sum := "08c4e2eed546b641a139ca9225af1ed962a28f76fabd8053cb12718fe1bd6073", func := "tithing/tithinglaw09.NameFits", spec := "nameFits", inPlace := ["internal/bytealg.IndexByteString", "internal/bytealg.IndexString"], named := ["internal/bytealg.MaxLen"], apart := false, narrowed := true }
def NameFitsUptoSaid : Prop := nameFitsUptoRow.holds Try.pinned (OpenSpec.upto nameFitsSpec)

/-- 'tithinglaw09.NameGets', WHERE WHAT IT READS IS OF BULK AT MOST 1048576: true; the input reads as it did. -/
def nameGetsUptoRow : OpenClaim := { program := "ytdehanhonfbdpaa", sum := "08c4e2eed546b641a139ca9225af1ed962a28f76fabd8053cb12718fe1bd6073", func := "tithing/tithinglaw09.NameGets", spec := "nameGets", inPlace := ["internal/bytealg.IndexByteString", "internal/bytealg.IndexString"], named := ["internal/bytealg.MaxLen"], apart := false, narrowed := true }
def NameGetsUptoSaid : Prop := nameGetsUptoRow.holds Try.pinned (OpenSpec.upto nameGetsSpec)

/-- 'tithinglaw09.NameBack', WHERE WHAT IT READS IS OF BULK AT MOST 1048576: true; the input reads as it did. -/
def nameBackUptoRow : OpenClaim := { program := "ytdehanhonfbdpaa", sum := "08c4e2eed546b641a139ca9225af1ed962a28f76fabd8053cb12718fe1bd6073", func := "tithing/tithinglaw09.NameBack", spec := "nameBack", inPlace := ["internal/bytealg.IndexByteString", "internal/bytealg.IndexString"], named := ["internal/bytealg.MaxLen"], apart := false, narrowed := true }
def NameBackUptoSaid : Prop := nameBackUptoRow.holds Try.pinned (OpenSpec.upto nameBackSpec)

end Rows
end Go.Proofs.Ytdehanhonfbdpaa
