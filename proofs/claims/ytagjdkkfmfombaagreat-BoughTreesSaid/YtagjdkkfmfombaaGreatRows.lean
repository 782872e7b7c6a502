/-
  No cell of these rows narrows 'for every input' (looked for: loops, veiled, ifaces, maps, wideKeys, modest, calm, conditions, laid).
  DERIVED. THE GIVEN ROWS OF THIS SEAT. 2 by the template 'for every input the law returns true; each argument reads behind the call as it read before'; 0 by the template 'total and deterministic' (their statements: YtagjdkkfmfombaaGreatTotals.lean).
  GIVEN WITH THE SEED: the statements are not yours to turn. If you find one false, say at which input.
  Laid BY PROGRAM, IN A SANDBOX (cutbox-rows.mjs): the forced cells as the released guide's own fill.sh prints them over the translation b1cbf8e4b78e2555… (all of the seat's roots in one cut). By AI agents, Wed Nov 11 2026. No macro, syntax, notation, axiom, sorry.
-/
import Derived.Test.YtagjdkkfmfombaaGreatChecked
import GoSem.Claim
import GoSem.ClaimJoined
import GoSem.ClaimMapViews
import Derived.JoinedTies
import Derived.KernelRfl
namespace Go.Proofs.YtagjdkkfmfombaaGreat
/- THE CELL 'sum', in the pinned program and in every row, IS THE sha256 OF THE DUMP (.gsa) THAT YtagjdkkfmfombaaGreatProg.lean LOADS. Nothing in Lean hashes anything: it is a label: what it is worth is what the hold of that sum in a sandbox is worth. -/
noncomputable def Tryz.pinned : Pinned := { name := "ytagjdkkfmfombaagreat", sum := "b1cbf8e4b78e255597926b231fe63a4dabe6bdaf2a08dc4c3a272b9d260fce0f", checked := Tryz.checked }
namespace Rows
def none {H : Type} : Left H := { results := [], args := [] }

/-- 'fretworklaw20.BoughTrees': WHATEVER THE INPUT: true; the input reads as it did. -/
def boughTreesSpec : ChangeSpec := { name := "boughTrees", fn := fun _ => fun
  | [d1, d2, d3, d4] => { results := [.lit (.bool true)], args := [d1, d2, d3, d4] }
  | _ => none }
def boughTreesRow : OpenClaim := { program := "ytagjdkkfmfombaagreat", sum := "b1cbf8e4b78e255597926b231fe63a4dabe6bdaf2a08dc4c3a272b9d260fce0f", func := "fretwork/fretworklaw20.BoughTrees", spec := "boughTrees", unfollowed := true, recurses := true, plainKeys := false, apart := false }
def BoughTreesSaid : Prop := boughTreesRow.holds Tryz.pinned (OpenSpec.ofChange boughTreesSpec)

/-- ITS FALSE NEIGHBOUR: 'it returns false'. Refute it at one input. -/
def boughTreesWrong : ChangeSpec := { name := "boughTrees", fn := fun _ => fun
  | [d1, d2, d3, d4] => { results := [.lit (.bool false)], args := [d1, d2, d3, d4] }
  | _ => none }
def BoughTreesWrongFalsely : Prop := boughTreesRow.holds Tryz.pinned (OpenSpec.ofChange boughTreesWrong)

/-- 'fretworklaw25.CatalogueNone': WHATEVER THE INPUT: true; the input reads as it did. -/
def catalogueNoneSpec : ChangeSpec := { name := "catalogueNone", fn := fun _ => fun
  | [d1, d2] => { results := [.lit (.bool true)], args := [d1, d2] }
  | _ => none }
def catalogueNoneRow : OpenClaim := { program := "ytagjdkkfmfombaagreat", sum := "b1cbf8e4b78e255597926b231fe63a4dabe6bdaf2a08dc4c3a272b9d260fce0f", func := "fretwork/fretworklaw25.CatalogueNone", spec := "catalogueNone", unfollowed := true, recurses := true, plainKeys := false, apart := false }
def CatalogueNoneSaid : Prop := catalogueNoneRow.holds Tryz.pinned (OpenSpec.ofChange catalogueNoneSpec)

/-- ITS FALSE NEIGHBOUR: 'it returns false'. Refute it at one input. -/
def catalogueNoneWrong : ChangeSpec := { name := "catalogueNone", fn := fun _ => fun
  | [d1, d2] => { results := [.lit (.bool false)], args := [d1, d2] }
  | _ => none }
def CatalogueNoneWrongFalsely : Prop := catalogueNoneRow.holds Tryz.pinned (OpenSpec.ofChange catalogueNoneWrong)

/- THE SECOND FORM. 'bulk': how many values and letters a reading holds, each counted each time it is reached (what is shared counts as often as it is met; a slice's spare places count too). A statement '..UptoSaid' is the law's where the arguments, and the package variables that the reading takes, are together of bulk at most 1048576: NARROWER than '..Said'. Prove '..Said' where nothing that the law and all that it calls make is longer than what came in: it says more and counts as full. Else prove '..UptoSaid'. A law counts once. -/
mutual
def uptoBulk {H : Type} : DataW H → Nat
  | .lit (.string bytes) => bytes.length + 1
  | .lit _ => 1
  | .nil => 1
  | .ptr d => uptoBulk d + 1
  | .slice elems spare => uptoBulkAll elems + uptoBulkAll spare + 1
  | .agg parts => uptoBulkAll parts + 1
  | .iface _ d => uptoBulk d + 1
  | .map entries => uptoBulkEntries entries + 1
  | .held _ => 1
def uptoBulkAll {H : Type} : List (DataW H) → Nat
  | [] => 0
  | d :: r => uptoBulk d + uptoBulkAll r
def uptoBulkEntries {H : Type} : List (Lit × DataW H) → Nat
  | [] => 0
  | x :: r => uptoBulkEntry x + uptoBulkEntries r
def uptoBulkEntry {H : Type} : Lit × DataW H → Nat
  | (.string bytes, d) => bytes.length + uptoBulk d + 1
  | (_, d) => uptoBulk d + 1
 end
def uptoSmall : (H : Type) → List (DataW H) → Bool := fun _ ds => decide (uptoBulkAll ds ≤ 1048576)
def OpenSpec.upto (s : _root_.Go.ChangeSpec) : _root_.Go.OpenSpec := { _root_.Go.OpenSpec.ofChange s with cond := some uptoSmall }

/-- 'fretworklaw20.BoughTrees', WHERE WHAT IT READS IS OF BULK AT MOST 1048576: true; the input reads as it did. -/
def boughTreesUptoRow : OpenClaim := { program := "ytagjdkkfmfombaagreat", sum := "b1cbf8e4b78e255597926b231fe63a4dabe6bdaf2a08dc4c3a272b9d260fce0f", func := "fretwork/fretworklaw20.BoughTrees", spec := "boughTrees", unfollowed := true, recurses := true, plainKeys := false, apart := false, narrowed := true }
def BoughTreesUptoSaid : Prop := boughTreesUptoRow.holds Tryz.pinned (OpenSpec.upto boughTreesSpec)

/-- 'fretworklaw25.CatalogueNone', WHERE WHAT IT READS IS OF BULK AT MOST 1048576: true; the input reads as it did. -/
def catalogueNoneUptoRow : OpenClaim := { program := "ytagjdkkfmfombaagreat", sum := "b1cbf8e4b78e255597926b231fe63a4dabe6bdaf2a08dc4c3a272b9d260fce0f", func := "fretwork/fretworklaw25.CatalogueNone", spec := "catalogueNone", unfollowed := true, recurses := true, plainKeys := false, apart := false, narrowed := true }
def CatalogueNoneUptoSaid : Prop := catalogueNoneUptoRow.holds Tryz.pinned (OpenSpec.upto catalogueNoneSpec)

end Rows
end Go.Proofs.YtagjdkkfmfombaaGreat
