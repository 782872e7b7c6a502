/-
  No cell of these rows narrows 'for every input' (looked for: loops, veiled, ifaces, maps, wideKeys, modest, calm, conditions, laid).
  DERIVED. THE GIVEN ROWS OF THIS SEAT. 3 by the template 'for every input the law returns true; each argument reads behind the call as it read before'; 0 by the template 'total and deterministic' (their statements: YtpjhkpmmbeoghaaGreatTotals.lean).
  GIVEN WITH THE SEED: the statements are not yours to turn. If you find one false, say at which input.
  Laid BY PROGRAM, IN A SANDBOX (cutbox-rows.mjs): the forced cells as the released guide's own fill.sh prints them over the translation 7416fdda969491fd… (all of the seat's roots in one cut). By AI agents, Wed Nov 11 2026. No macro, syntax, notation, axiom, sorry.
-/
import Derived.Test.YtpjhkpmmbeoghaaGreatChecked
import GoSem.Claim
import GoSem.ClaimJoined
import GoSem.ClaimMapViews
import Derived.JoinedTies
import Derived.KernelRfl
namespace Go.Proofs.YtpjhkpmmbeoghaaGreat
/- THE CELL 'sum', in the pinned program and in every row, IS THE sha256 OF THE DUMP (.gsa) THAT YtpjhkpmmbeoghaaGreatProg.lean LOADS. Nothing in Lean hashes anything: it is a label: what it is worth is what the hold of that sum in a sandbox is worth. -/
noncomputable def Tryz.pinned : Pinned := { name := "ytpjhkpmmbeoghaagreat", sum := "7416fdda969491fd941cd591397e903f0b057f390506ded0e3abce102bdf39ab", checked := Tryz.checked }
namespace Rows
def none {H : Type} : Left H := { results := [], args := [] }

/-- 'fretworktop.TopCount': WHATEVER THE INPUT: true; the input reads as it did. -/
def topCountSpec : ChangeSpec := { name := "topCount", fn := fun _ => fun
  | [] => { results := [.lit (.bool true)], args := [] }
  | _ => none }
def topCountRow : OpenClaim := { program := "ytpjhkpmmbeoghaagreat", sum := "7416fdda969491fd941cd591397e903f0b057f390506ded0e3abce102bdf39ab", func := "fretwork/fretworktop.TopCount", spec := "topCount", unfollowed := true, recurses := true, plainKeys := false, apart := false }
def TopCountSaid : Prop := topCountRow.holds Tryz.pinned (OpenSpec.ofChange topCountSpec)

/-- ITS FALSE NEIGHBOUR: 'it returns false'. Refute it at one input. -/
def topCountWrong : ChangeSpec := { name := "topCount", fn := fun _ => fun
  | [] => { results := [.lit (.bool false)], args := [] }
  | _ => none }
def TopCountWrongFalsely : Prop := topCountRow.holds Tryz.pinned (OpenSpec.ofChange topCountWrong)

/-- 'fretworklaw25.CatalogueNone': WHATEVER THE INPUT: true; the input reads as it did. -/
def catalogueNoneSpec : ChangeSpec := { name := "catalogueNone", fn := fun _ => fun
  | [d1, d2] => { results := [.lit (.bool true)], args := [d1, d2] }
  | _ => none }
def catalogueNoneRow : OpenClaim := { program := "ytpjhkpmmbeoghaagreat", sum := "7416fdda969491fd941cd591397e903f0b057f390506ded0e3abce102bdf39ab", func := "fretwork/fretworklaw25.CatalogueNone", spec := "catalogueNone", unfollowed := true, recurses := true, plainKeys := false, apart := false }
def CatalogueNoneSaid : Prop := catalogueNoneRow.holds Tryz.pinned (OpenSpec.ofChange catalogueNoneSpec)

/-- ITS FALSE NEIGHBOUR: 'it returns false'. Refute it at one input. -/
def catalogueNoneWrong : ChangeSpec := { name := "catalogueNone", fn := fun _ => fun
  | [d1, d2] => { results := [.lit (.bool false)], args := [d1, d2] }
  | _ => none }
def CatalogueNoneWrongFalsely : Prop := catalogueNoneRow.holds Tryz.pinned (OpenSpec.ofChange catalogueNoneWrong)

/-- 'fretworklaw22.DecodeLarge': WHATEVER THE INPUT: true; the input reads as it did. -/
def decodeLargeSpec : ChangeSpec := { name := "decodeLarge", fn := fun _ => fun
  | [d] => { results := [.lit (.bool true)], args := [d] }
  | _ => none }
def decodeLargeRow : OpenClaim := { program := "ytpjhkpmmbeoghaagreat", sum := "7416fdda969491fd941cd591397e903f0b057f390506ded0e3abce102bdf39ab", func := "fretwork/fretworklaw22.DecodeLarge", spec := "decodeLarge", inPlace := ["internal/reflectlite.ValueOf", "internal/reflectlite.Swapper", "(internal/reflectlite.Value).Len"], unfollowed := true, recurses := true, plainKeys := false, apart := false }
def DecodeLargeSaid : Prop := decodeLargeRow.holds Tryz.pinned (OpenSpec.ofChange decodeLargeSpec)

/-- ITS FALSE NEIGHBOUR: 'it returns false'. Refute it at one input. -/
def decodeLargeWrong : ChangeSpec := { name := "decodeLarge", fn := fun _ => fun
  | [d] => { results := [.lit (.bool false)], args := [d] }
  | _ => none }
def DecodeLargeWrongFalsely : Prop := decodeLargeRow.holds Tryz.pinned (OpenSpec.ofChange decodeLargeWrong)

/- THE SECOND FORM. 'bulk': how many values and letters a reading holds, each counted each time it is reached (what is shared counts as often as it is met; a slice's spare places count too). A statement '..UptoSaid' is the law's where the arguments, and the package variables that the reading takes, are together of bulk at most 1048576: NARROWER than '..Said'. Prove '..Said' where nothing that the law and all that it calls make is longer than what came in: it says more and counts as full. Else prove '..UptoSaid'. A law counts once. -/
mutual
def uptoBulk {H : Type} : DataW H → Nat
  | .lit (.string bytes) => bytes.length + 1
  | .lit _ => 1
  | .nil => 1
  | .ptr d => uptoBulk d + 1
  | .slice elems spare => uptoBulkAll elems + uptoBulkAll spare + 1
  | .agg parts => uptoBulkAll parts + 1
  | .iface _ d => uptoBulk d + 1
  | .map entries => uptoBulkEntries entries + 1
  | .held _ => 1
def uptoBulkAll {H : Type} : List (DataW H) → Nat
  | [] => 0
  | d :: r => uptoBulk d + uptoBulkAll r
def uptoBulkEntries {H : Type} : List (Lit × DataW H) → Nat
  | [] => 0
  | x :: r => uptoBulkEntry x + uptoBulkEntries r
def uptoBulkEntry {H : Type} : Lit × DataW H → Nat
  | (.string bytes, d) => bytes.length + uptoBulk d + 1
  | (_, d) => uptoBulk d + 1
 end
def uptoSmall : (H : Type) → List (DataW H) → Bool := fun _ ds => decide (uptoBulkAll ds ≤ 1048576)
def OpenSpec.upto (s : _root_.Go.ChangeSpec) : _root_.Go.OpenSpec := { _root_.Go.OpenSpec.ofChange s with cond := some uptoSmall }

/-- 'fretworktop.TopCount', WHERE WHAT IT READS IS OF BULK AT MOST 1048576: true; the input reads as it did. -/
def topCountUptoRow : OpenClaim := { program := "ytpjhkpmmbeoghaagreat", sum := "7416fdda969491fd941cd591397e903f0b057f390506ded0e3abce102bdf39ab", func := "fretwork/fretworktop.TopCount", spec := "topCount", unfollowed := true, recurses := true, plainKeys := false, apart := false, narrowed := true }
def TopCountUptoSaid : Prop := topCountUptoRow.holds Tryz.pinned (OpenSpec.upto topCountSpec)

/-- 'fretworklaw25.CatalogueNone', WHERE WHAT IT READS IS OF BULK AT MOST 1048576: true; the input reads as it did. -/
def catalogueNoneUptoRow : OpenClaim := { program := "ytpjhkpmmbeoghaagreat", sum := "7416fdda969491fd941cd591397e903f0b057f390506ded0e3abce102bdf39ab", func := "fretwork/fretworklaw25.CatalogueNone", spec := "catalogueNone", unfollowed := true, recurses := true, plainKeys := false, apart := false, narrowed := true }
def CatalogueNoneUptoSaid : Prop := catalogueNoneUptoRow.holds Tryz.pinned (OpenSpec.upto catalogueNoneSpec)

/-- 'fretworklaw22.DecodeLarge', WHERE WHAT IT READS IS OF BULK AT MOST 1048576: true; the input reads as it did. -/
def decodeLargeUptoRow : OpenClaim := { program := "ytpjhkpmmbeoghaagreat", sum := "7416fdda969491fd941cd591397e903f0b057f390506ded0e3abce102bdf39ab", func := "fretwork/fretworklaw22.DecodeLarge", spec := "decodeLarge", inPlace := ["internal/reflectlite.ValueOf", "internal/reflectlite.Swapper", "(internal/reflectlite.Value).Len"], unfollowed := true, recurses := true, plainKeys := false, apart := false, narrowed := true }
def DecodeLargeUptoSaid : Prop := decodeLargeUptoRow.holds Tryz.pinned (OpenSpec.upto decodeLargeSpec)

end Rows
end Go.Proofs.YtpjhkpmmbeoghaaGreat
