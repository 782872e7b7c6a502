/-
  No cell of these rows narrows 'for every input' (looked for: loops, veiled, ifaces, maps, wideKeys, modest, calm, conditions, laid).
  DERIVED. THE GIVEN ROWS OF THIS SEAT. 8 by the template 'for every input the law returns true; each argument reads behind the call as it read before'; 0 by the template 'total and deterministic' (their statements: YtagjakgbmmbmhaaTotals.lean).
  GIVEN WITH THE SEED: the statements are not yours to turn. If you find one false, say at which input.
  Laid BY PROGRAM, IN A SANDBOX (cutbox-rows.mjs): the forced cells as the released guide's own fill.sh prints them over the translation 0ba332ad5ec31fc7… (all of the seat's roots in one cut). By AI agents, Wed Nov 11 2026. No macro, syntax, notation, axiom, sorry.
-/
import Derived.Test.YtagjakgbmmbmhaaChecked
import GoSem.Claim
import GoSem.ClaimJoined
import GoSem.ClaimMapViews
import Derived.JoinedTies
import Derived.KernelRfl
namespace Go.Proofs.Ytagjakgbmmbmhaa
/- THE CELL 'sum', in the pinned program and in every row, IS THE sha256 OF THE DUMP (.gsa) THAT YtagjakgbmmbmhaaProg.lean LOADS. Nothing in Lean hashes anything: it is a label: what it is worth is what the hold of that sum in a sandbox is worth. -/
noncomputable def Try.pinned : Pinned := { name := "ytagjakgbmmbmhaa", sum := "0ba332ad5ec31fc78b34495db21a9f38dffcc47ef39e1aac6169059ba2e68a46", checked := Try.checked }
namespace Rows
def none {H : Type} : Left H := { results := [], args := [] }

/-- 'fretworklaw12.LinksTwo': WHATEVER THE INPUT: true; the input reads as it did. -/
def linksTwoSpec : ChangeSpec := { name := "linksTwo", fn := fun _ => fun
  | [d] => { results := [.lit (.bool true)], args := [d] }
  | _ => none }
def linksTwoRow : OpenClaim := { program := "ytagjakgbmmbmhaa", sum := "0ba332ad5ec31fc78b34495db21a9f38dffcc47ef39e1aac6169059ba2e68a46", func := "fretwork/fretworklaw12.LinksTwo", spec := "linksTwo", unfollowed := true, recurses := true, apart := false }
def LinksTwoSaid : Prop := linksTwoRow.holds Try.pinned (OpenSpec.ofChange linksTwoSpec)

/-- ITS FALSE NEIGHBOUR: 'it returns false'. Refute it at one input. -/
def linksTwoWrong : ChangeSpec := { name := "linksTwo", fn := fun _ => fun
  | [d] => { results := [.lit (.bool false)], args := [d] }
  | _ => none }
def LinksTwoWrongFalsely : Prop := linksTwoRow.holds Try.pinned (OpenSpec.ofChange linksTwoWrong)

/-- 'fretworklaw12.LinksTell': WHATEVER THE INPUT: true; the input reads as it did. -/
def linksTellSpec : ChangeSpec := { name := "linksTell", fn := fun _ => fun
  | [d1, d2] => { results := [.lit (.bool true)], args := [d1, d2] }
  | _ => none }
def linksTellRow : OpenClaim := { program := "ytagjakgbmmbmhaa", sum := "0ba332ad5ec31fc78b34495db21a9f38dffcc47ef39e1aac6169059ba2e68a46", func := "fretwork/fretworklaw12.LinksTell", spec := "linksTell", unfollowed := true, recurses := true, apart := false }
def LinksTellSaid : Prop := linksTellRow.holds Try.pinned (OpenSpec.ofChange linksTellSpec)

/-- ITS FALSE NEIGHBOUR: 'it returns false'. Refute it at one input. -/
def linksTellWrong : ChangeSpec := { name := "linksTell", fn := fun _ => fun
  | [d1, d2] => { results := [.lit (.bool false)], args := [d1, d2] }
  | _ => none }
def LinksTellWrongFalsely : Prop := linksTellRow.holds Try.pinned (OpenSpec.ofChange linksTellWrong)

/-- 'fretworklaw12.LinksGroups': WHATEVER THE INPUT: true; the input reads as it did. -/
def linksGroupsSpec : ChangeSpec := { name := "linksGroups", fn := fun _ => fun
  | [d1, d2] => { results := [.lit (.bool true)], args := [d1, d2] }
  | _ => none }
def linksGroupsRow : OpenClaim := { program := "ytagjakgbmmbmhaa", sum := "0ba332ad5ec31fc78b34495db21a9f38dffcc47ef39e1aac6169059ba2e68a46", func := "fretwork/fretworklaw12.LinksGroups", spec := "linksGroups", unfollowed := true, recurses := true, apart := false }
def LinksGroupsSaid : Prop := linksGroupsRow.holds Try.pinned (OpenSpec.ofChange linksGroupsSpec)

/-- ITS FALSE NEIGHBOUR: 'it returns false'. Refute it at one input. -/
def linksGroupsWrong : ChangeSpec := { name := "linksGroups", fn := fun _ => fun
  | [d1, d2] => { results := [.lit (.bool false)], args := [d1, d2] }
  | _ => none }
def LinksGroupsWrongFalsely : Prop := linksGroupsRow.holds Try.pinned (OpenSpec.ofChange linksGroupsWrong)

/-- 'fretworklaw12.LinksOrder': WHATEVER THE INPUT: true; the input reads as it did. -/
def linksOrderSpec : ChangeSpec := { name := "linksOrder", fn := fun _ => fun
  | [d] => { results := [.lit (.bool true)], args := [d] }
  | _ => none }
def linksOrderRow : OpenClaim := { program := "ytagjakgbmmbmhaa", sum := "0ba332ad5ec31fc78b34495db21a9f38dffcc47ef39e1aac6169059ba2e68a46", func := "fretwork/fretworklaw12.LinksOrder", spec := "linksOrder", unfollowed := true, recurses := true, apart := false }
def LinksOrderSaid : Prop := linksOrderRow.holds Try.pinned (OpenSpec.ofChange linksOrderSpec)

/-- ITS FALSE NEIGHBOUR: 'it returns false'. Refute it at one input. -/
def linksOrderWrong : ChangeSpec := { name := "linksOrder", fn := fun _ => fun
  | [d] => { results := [.lit (.bool false)], args := [d] }
  | _ => none }
def LinksOrderWrongFalsely : Prop := linksOrderRow.holds Try.pinned (OpenSpec.ofChange linksOrderWrong)

/-- 'fretworklaw13.PairTells': WHATEVER THE INPUT: true; the input reads as it did. -/
def pairTellsSpec : ChangeSpec := { name := "pairTells", fn := fun _ => fun
  | [d1, d2, d3] => { results := [.lit (.bool true)], args := [d1, d2, d3] }
  | _ => none }
def pairTellsRow : OpenClaim := { program := "ytagjakgbmmbmhaa", sum := "0ba332ad5ec31fc78b34495db21a9f38dffcc47ef39e1aac6169059ba2e68a46", func := "fretwork/fretworklaw13.PairTells", spec := "pairTells", unfollowed := true, recurses := true, apart := false }
def PairTellsSaid : Prop := pairTellsRow.holds Try.pinned (OpenSpec.ofChange pairTellsSpec)

/-- ITS FALSE NEIGHBOUR: 'it returns false'. Refute it at one input. -/
def pairTellsWrong : ChangeSpec := { name := "pairTells", fn := fun _ => fun
  | [d1, d2, d3] => { results := [.lit (.bool false)], args := [d1, d2, d3] }
  | _ => none }
def PairTellsWrongFalsely : Prop := pairTellsRow.holds Try.pinned (OpenSpec.ofChange pairTellsWrong)

/-- 'fretworklaw13.PairParts': WHATEVER THE INPUT: true; the input reads as it did. -/
def pairPartsSpec : ChangeSpec := { name := "pairParts", fn := fun _ => fun
  | [d1, d2, d3] => { results := [.lit (.bool true)], args := [d1, d2, d3] }
  | _ => none }
def pairPartsRow : OpenClaim := { program := "ytagjakgbmmbmhaa", sum := "0ba332ad5ec31fc78b34495db21a9f38dffcc47ef39e1aac6169059ba2e68a46", func := "fretwork/fretworklaw13.PairParts", spec := "pairParts", unfollowed := true, recurses := true, apart := false }
def PairPartsSaid : Prop := pairPartsRow.holds Try.pinned (OpenSpec.ofChange pairPartsSpec)

/-- ITS FALSE NEIGHBOUR: 'it returns false'. Refute it at one input. -/
def pairPartsWrong : ChangeSpec := { name := "pairParts", fn := fun _ => fun
  | [d1, d2, d3] => { results := [.lit (.bool false)], args := [d1, d2, d3] }
  | _ => none }
def PairPartsWrongFalsely : Prop := pairPartsRow.holds Try.pinned (OpenSpec.ofChange pairPartsWrong)

/-- 'fretworklaw13.PairClasses': WHATEVER THE INPUT: true; the input reads as it did. -/
def pairClassesSpec : ChangeSpec := { name := "pairClasses", fn := fun _ => fun
  | [d1, d2, d3] => { results := [.lit (.bool true)], args := [d1, d2, d3] }
  | _ => none }
def pairClassesRow : OpenClaim := { program := "ytagjakgbmmbmhaa", sum := "0ba332ad5ec31fc78b34495db21a9f38dffcc47ef39e1aac6169059ba2e68a46", func := "fretwork/fretworklaw13.PairClasses", spec := "pairClasses", unfollowed := true, recurses := true, apart := false }
def PairClassesSaid : Prop := pairClassesRow.holds Try.pinned (OpenSpec.ofChange pairClassesSpec)

/-- ITS FALSE NEIGHBOUR: 'it returns false'. Refute it at one input. -/
def pairClassesWrong : ChangeSpec := { name := "pairClasses", fn := fun _ => fun
  | [d1, d2, d3] => { results := [.lit (.bool false)], args := [d1, d2, d3] }
  | _ => none }
def PairClassesWrongFalsely : Prop := pairClassesRow.holds Try.pinned (OpenSpec.ofChange pairClassesWrong)

/-- 'fretworklaw13.PairNone': WHATEVER THE INPUT: true; the input reads as it did. -/
def pairNoneSpec : ChangeSpec := { name := "pairNone", fn := fun _ => fun
  | [d] => { results := [.lit (.bool true)], args := [d] }
  | _ => none }
def pairNoneRow : OpenClaim := { program := "ytagjakgbmmbmhaa", sum := "0ba332ad5ec31fc78b34495db21a9f38dffcc47ef39e1aac6169059ba2e68a46", func := "fretwork/fretworklaw13.PairNone", spec := "pairNone", unfollowed := true, recurses := true, apart := false }
def PairNoneSaid : Prop := pairNoneRow.holds Try.pinned (OpenSpec.ofChange pairNoneSpec)

/-- ITS FALSE NEIGHBOUR: 'it returns false'. Refute it at one input. -/
def pairNoneWrong : ChangeSpec := { name := "pairNone", fn := fun _ => fun
  | [d] => { results := [.lit (.bool false)], args := [d] }
  | _ => none }
def PairNoneWrongFalsely : Prop := pairNoneRow.holds Try.pinned (OpenSpec.ofChange pairNoneWrong)

/- THE SECOND FORM. 'bulk': how many values and letters a reading holds, each counted each time it is reached (what is shared counts as often as it is met; a slice's spare places count too). A statement '..UptoSaid' is the law's where the arguments, and the package variables that the reading takes, are together of bulk at most 1048576: NARROWER than '..Said'. Prove '..Said' where nothing that the law and all that it calls make is longer than what came in: it says more and counts as full. Else prove '..UptoSaid'. A law counts once. -/
mutual
def uptoBulk {H : Type} : DataW H → Nat
  | .lit (.string bytes) => bytes.length + 1
  | .lit _ => 1
  | .nil => 1
  | .ptr d => uptoBulk d + 1
  | .slice elems spare => uptoBulkAll elems + uptoBulkAll spare + 1
  | .agg parts => uptoBulkAll parts + 1
  | .iface _ d => uptoBulk d + 1
  | .map entries => uptoBulkEntries entries + 1
  | .held _ => 1
def uptoBulkAll {H : Type} : List (DataW H) → Nat
  | [] => 0
  | d :: r => uptoBulk d + uptoBulkAll r
def uptoBulkEntries {H : Type} : List (Lit × DataW H) → Nat
  | [] => 0
  | x :: r => uptoBulkEntry x + uptoBulkEntries r
def uptoBulkEntry {H : Type} : Lit × DataW H → Nat
  | (.string bytes, d) => bytes.length + uptoBulk d + 1
  | (_, d) => uptoBulk d + 1
 end
def uptoSmall : (H : Type) → List (DataW H) → Bool := fun _ ds => decide (uptoBulkAll ds ≤ 1048576)
def OpenSpec.upto (s : _root_.Go.ChangeSpec) : _root_.Go.OpenSpec := { _root_.Go.OpenSpec.ofChange s with cond := some uptoSmall }

/-- 'fretworklaw12.LinksTwo', WHERE WHAT IT READS IS OF BULK AT MOST 1048576: true; the input reads as it did. -/
def linksTwoUptoRow : OpenClaim := { program := "ytagjakgbmmbmhaa", sum := "0ba332ad5ec31fc78b34495db21a9f38dffcc47ef39e1aac6169059ba2e68a46", func := "fretwork/fretworklaw12.LinksTwo", spec := "linksTwo", unfollowed := true, recurses := true, apart := false, narrowed := true }
def LinksTwoUptoSaid : Prop := linksTwoUptoRow.holds Try.pinned (OpenSpec.upto linksTwoSpec)

/-- 'fretworklaw12.LinksTell', WHERE WHAT IT READS IS OF BULK AT MOST 1048576: true; the input reads as it did. -/
def linksTellUptoRow : OpenClaim := { program := "ytagjakgbmmbmhaa", sum := "0ba332ad5ec31fc78b34495db21a9f38dffcc47ef39e1aac6169059ba2e68a46", func := "fretwork/fretworklaw12.LinksTell", spec := "linksTell", unfollowed := true, recurses := true, apart := false, narrowed := true }
def LinksTellUptoSaid : Prop := linksTellUptoRow.holds Try.pinned (OpenSpec.upto linksTellSpec)

/-- 'fretworklaw12.LinksGroups', WHERE WHAT IT READS IS OF BULK AT MOST 1048576: true; the input reads as it did. -/
def linksGroupsUptoRow : OpenClaim := { program := "ytagjakgbmmbmhaa", sum := "0ba332ad5ec31fc78b34495db21a9f38dffcc47ef39e1aac6169059ba2e68a46", func := "fretwork/fretworklaw12.LinksGroups", spec := "linksGroups", unfollowed := true, recurses := true, apart := false, narrowed := true }
def LinksGroupsUptoSaid : Prop := linksGroupsUptoRow.holds Try.pinned (OpenSpec.upto linksGroupsSpec)

/-- 'fretworklaw12.LinksOrder', WHERE WHAT IT READS IS OF BULK AT MOST 1048576: true; the input reads as it did. -/
def linksOrderUptoRow : OpenClaim := { program := "ytagjakgbmmbmhaa", sum := "0ba332ad5ec31fc78b34495db21a9f38dffcc47ef39e1aac6169059ba2e68a46", func := "fretwork/fretworklaw12.LinksOrder", spec := "linksOrder", unfollowed := true, recurses := true, apart := false, narrowed := true }
def LinksOrderUptoSaid : Prop := linksOrderUptoRow.holds Try.pinned (OpenSpec.upto linksOrderSpec)

/-- 'fretworklaw13.PairTells', WHERE WHAT IT READS IS OF BULK AT MOST 1048576: true; the input reads as it did. -/
def pairTellsUptoRow : OpenClaim := { program := "ytagjakgbmmbmhaa", sum := "0ba332ad5ec31fc78b34495db21a9f38dffcc47ef39e1aac6169059ba2e68a46", func := "fretwork/fretworklaw13.PairTells", spec := "pairTells", unfollowed := true, recurses := true, apart := false, narrowed := true }
def PairTellsUptoSaid : Prop := pairTellsUptoRow.holds Try.pinned (OpenSpec.upto pairTellsSpec)

/-- 'fretworklaw13.PairParts', WHERE WHAT IT READS IS OF BULK AT MOST 1048576: true; the input reads as it did. -/
def pairPartsUptoRow : OpenClaim := { program := "ytagjakgbmmbmhaa", sum := "0ba332ad5ec31fc78b34495db21a9f38dffcc47ef39e1aac6169059ba2e68a46", func := "fretwork/fretworklaw13.PairParts", spec := "pairParts", unfollowed := true, recurses := true, apart := false, narrowed := true }
def PairPartsUptoSaid : Prop := pairPartsUptoRow.holds Try.pinned (OpenSpec.upto pairPartsSpec)

/-- 'fretworklaw13.PairClasses', WHERE WHAT IT READS IS OF BULK AT MOST 1048576: true; the input reads as it did. -/
def pairClassesUptoRow : OpenClaim := { program := "ytagjakgbmmbmhaa", sum := "0ba332ad5ec31fc78b34495db21a9f38dffcc47ef39e1aac6169059ba2e68a46", func := "fretwork/fretworklaw13.PairClasses", spec := "pairClasses", unfollowed := true, recurses := true, apart := false, narrowed := true }
def PairClassesUptoSaid : Prop := pairClassesUptoRow.holds Try.pinned (OpenSpec.upto pairClassesSpec)

/-- 'fretworklaw13.PairNone', WHERE WHAT IT READS IS OF BULK AT MOST 1048576: true; the input reads as it did. -/
def pairNoneUptoRow : OpenClaim := { program := "ytagjakgbmmbmhaa", sum := "0ba332ad5ec31fc78b34495db21a9f38dffcc47ef39e1aac6169059ba2e68a46", func := "fretwork/fretworklaw13.PairNone", spec := "pairNone", unfollowed := true, recurses := true, apart := false, narrowed := true }
def PairNoneUptoSaid : Prop := pairNoneUptoRow.holds Try.pinned (OpenSpec.upto pairNoneSpec)

end Rows
end Go.Proofs.Ytagjakgbmmbmhaa
