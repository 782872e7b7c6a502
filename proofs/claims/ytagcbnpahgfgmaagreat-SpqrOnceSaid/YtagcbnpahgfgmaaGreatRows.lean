/-
  No cell of these rows narrows 'for every input' (looked for: loops, veiled, ifaces, maps, wideKeys, modest, calm, conditions, laid).
  DERIVED. THE GIVEN ROWS OF THIS SEAT. 4 by the template 'for every input the law returns true; each argument reads behind the call as it read before'; 0 by the template 'total and deterministic' (their statements: YtagcbnpahgfgmaaGreatTotals.lean).
  GIVEN WITH THE SEED: the statements are not yours to turn. If you find one false, say at which input.
  Laid BY PROGRAM, IN A SANDBOX (cutbox-rows.mjs): the forced cells as the released guide's own fill.sh prints them over the translation 75ff43f001438d63… (all of the seat's roots in one cut). By AI agents, Wed Nov 11 2026. No macro, syntax, notation, axiom, sorry.
-/
import Derived.Test.YtagcbnpahgfgmaaGreatChecked
import GoSem.Claim
import GoSem.ClaimJoined
import GoSem.ClaimMapViews
import Derived.JoinedTies
import Derived.KernelRfl
namespace Go.Proofs.YtagcbnpahgfgmaaGreat
/- THE CELL 'sum', in the pinned program and in every row, IS THE sha256 OF THE DUMP (.gsa) THAT YtagcbnpahgfgmaaGreatProg.lean LOADS. Nothing in Lean hashes anything: it is a label: what it is worth is what the hold of that sum in a sandbox is worth. -/
noncomputable def Tryz.pinned : Pinned := { name := "ytagcbnpahgfgmaagreat", sum := "75ff43f001438d638b2c9e8d01ef0f5d6e962337fdd3f37f188f86446a4b1e93", checked := Tryz.checked }
namespace Rows
def none {H : Type} : Left H := { results := [], args := [] }

/-- 'fretworklaw15.SpqrOnce': WHATEVER THE INPUT: true; the input reads as it did. -/
def spqrOnceSpec : ChangeSpec := { name := "spqrOnce", fn := fun _ => fun
  | [d1, d2] => { results := [.lit (.bool true)], args := [d1, d2] }
  | _ => none }
def spqrOnceRow : OpenClaim := { program := "ytagcbnpahgfgmaagreat", sum := "75ff43f001438d638b2c9e8d01ef0f5d6e962337fdd3f37f188f86446a4b1e93", func := "fretwork/fretworklaw15.SpqrOnce", spec := "spqrOnce", unfollowed := true, recurses := true, plainKeys := false, apart := false }
def SpqrOnceSaid : Prop := spqrOnceRow.holds Tryz.pinned (OpenSpec.ofChange spqrOnceSpec)

/-- ITS FALSE NEIGHBOUR: 'it returns false'. Refute it at one input. -/
def spqrOnceWrong : ChangeSpec := { name := "spqrOnce", fn := fun _ => fun
  | [d1, d2] => { results := [.lit (.bool false)], args := [d1, d2] }
  | _ => none }
def SpqrOnceWrongFalsely : Prop := spqrOnceRow.holds Tryz.pinned (OpenSpec.ofChange spqrOnceWrong)

/-- 'fretworklaw15.SpqrTells': WHATEVER THE INPUT: true; the input reads as it did. -/
def spqrTellsSpec : ChangeSpec := { name := "spqrTells", fn := fun _ => fun
  | [d1, d2, d3] => { results := [.lit (.bool true)], args := [d1, d2, d3] }
  | _ => none }
def spqrTellsRow : OpenClaim := { program := "ytagcbnpahgfgmaagreat", sum := "75ff43f001438d638b2c9e8d01ef0f5d6e962337fdd3f37f188f86446a4b1e93", func := "fretwork/fretworklaw15.SpqrTells", spec := "spqrTells", unfollowed := true, recurses := true, plainKeys := false, apart := false }
def SpqrTellsSaid : Prop := spqrTellsRow.holds Tryz.pinned (OpenSpec.ofChange spqrTellsSpec)

/-- ITS FALSE NEIGHBOUR: 'it returns false'. Refute it at one input. -/
def spqrTellsWrong : ChangeSpec := { name := "spqrTells", fn := fun _ => fun
  | [d1, d2, d3] => { results := [.lit (.bool false)], args := [d1, d2, d3] }
  | _ => none }
def SpqrTellsWrongFalsely : Prop := spqrTellsRow.holds Tryz.pinned (OpenSpec.ofChange spqrTellsWrong)

/-- 'fretworklaw15.SpqrPairs': WHATEVER THE INPUT: true; the input reads as it did. -/
def spqrPairsSpec : ChangeSpec := { name := "spqrPairs", fn := fun _ => fun
  | [d] => { results := [.lit (.bool true)], args := [d] }
  | _ => none }
def spqrPairsRow : OpenClaim := { program := "ytagcbnpahgfgmaagreat", sum := "75ff43f001438d638b2c9e8d01ef0f5d6e962337fdd3f37f188f86446a4b1e93", func := "fretwork/fretworklaw15.SpqrPairs", spec := "spqrPairs", unfollowed := true, recurses := true, plainKeys := false, apart := false }
def SpqrPairsSaid : Prop := spqrPairsRow.holds Tryz.pinned (OpenSpec.ofChange spqrPairsSpec)

/-- ITS FALSE NEIGHBOUR: 'it returns false'. Refute it at one input. -/
def spqrPairsWrong : ChangeSpec := { name := "spqrPairs", fn := fun _ => fun
  | [d] => { results := [.lit (.bool false)], args := [d] }
  | _ => none }
def SpqrPairsWrongFalsely : Prop := spqrPairsRow.holds Tryz.pinned (OpenSpec.ofChange spqrPairsWrong)

/-- 'fretworklaw15.SpqrCentre': WHATEVER THE INPUT: true; the input reads as it did. -/
def spqrCentreSpec : ChangeSpec := { name := "spqrCentre", fn := fun _ => fun
  | [d] => { results := [.lit (.bool true)], args := [d] }
  | _ => none }
def spqrCentreRow : OpenClaim := { program := "ytagcbnpahgfgmaagreat", sum := "75ff43f001438d638b2c9e8d01ef0f5d6e962337fdd3f37f188f86446a4b1e93", func := "fretwork/fretworklaw15.SpqrCentre", spec := "spqrCentre", unfollowed := true, recurses := true, plainKeys := false, apart := false }
def SpqrCentreSaid : Prop := spqrCentreRow.holds Tryz.pinned (OpenSpec.ofChange spqrCentreSpec)

/-- ITS FALSE NEIGHBOUR: 'it returns false'. Refute it at one input. -/
def spqrCentreWrong : ChangeSpec := { name := "spqrCentre", fn := fun _ => fun
  | [d] => { results := [.lit (.bool false)], args := [d] }
  | _ => none }
def SpqrCentreWrongFalsely : Prop := spqrCentreRow.holds Tryz.pinned (OpenSpec.ofChange spqrCentreWrong)

/- THE SECOND FORM. 'bulk': how many values and letters a reading holds, each counted each time it is reached (what is shared counts as often as it is met; a slice's spare places count too). A statement '..UptoSaid' is the law's where the arguments, and the package variables that the reading takes, are together of bulk at most 1048576: NARROWER than '..Said'. Prove '..Said' where nothing that the law and all that it calls make is longer than what came in: it says more and counts as full. Else prove '..UptoSaid'. A law counts once. -/
mutual
def uptoBulk {H : Type} : DataW H → Nat
  | .lit (.string bytes) => bytes.length + 1
  | .lit _ => 1
  | .nil => 1
  | .ptr d => uptoBulk d + 1
  | .slice elems spare => uptoBulkAll elems + uptoBulkAll spare + 1
  | .agg parts => uptoBulkAll parts + 1
  | .iface _ d => uptoBulk d + 1
  | .map entries => uptoBulkEntries entries + 1
  | .held _ => 1
def uptoBulkAll {H : Type} : List (DataW H) → Nat
  | [] => 0
  | d :: r => uptoBulk d + uptoBulkAll r
def uptoBulkEntries {H : Type} : List (Lit × DataW H) → Nat
  | [] => 0
  | x :: r => uptoBulkEntry x + uptoBulkEntries r
def uptoBulkEntry {H : Type} : Lit × DataW H → Nat
  | (.string bytes, d) => bytes.length + uptoBulk d + 1
  | (_, d) => uptoBulk d + 1
 end
def uptoSmall : (H : Type) → List (DataW H) → Bool := fun _ ds => decide (uptoBulkAll ds ≤ 1048576)
def OpenSpec.upto (s : _root_.Go.ChangeSpec) : _root_.Go.OpenSpec := { _root_.Go.OpenSpec.ofChange s with cond := some uptoSmall }

/-- 'fretworklaw15.SpqrOnce', WHERE WHAT IT READS IS OF BULK AT MOST 1048576: true; the input reads as it did. -/
def spqrOnceUptoRow : OpenClaim := { program := "ytagcbnpahgfgmaagreat", sum := "75ff43f001438d638b2c9e8d01ef0f5d6e962337fdd3f37f188f86446a4b1e93", func := "fretwork/fretworklaw15.SpqrOnce", spec := "spqrOnce", unfollowed := true, recurses := true, plainKeys := false, apart := false, narrowed := true }
def SpqrOnceUptoSaid : Prop := spqrOnceUptoRow.holds Tryz.pinned (OpenSpec.upto spqrOnceSpec)

/-- 'fretworklaw15.SpqrTells', WHERE WHAT IT READS IS OF BULK AT MOST 1048576: true; the input reads as it did. -/
def spqrTellsUptoRow : OpenClaim := { program := "ytagcbnpahgfgmaagreat", sum := "75ff43f001438d638b2c9e8d01ef0f5d6e962337fdd3f37f188f86446a4b1e93", func := "fretwork/fretworklaw15.SpqrTells", spec := "spqrTells", unfollowed := true, recurses := true, plainKeys := false, apart := false, narrowed := true }
def SpqrTellsUptoSaid : Prop := spqrTellsUptoRow.holds Tryz.pinned (OpenSpec.upto spqrTellsSpec)

/-- 'fretworklaw15.SpqrPairs', WHERE WHAT IT READS IS OF BULK AT MOST 1048576: true; the input reads as it did. -/
def spqrPairsUptoRow : OpenClaim := { program := "ytagcbnpahgfgmaagreat", sum := "75ff43f001438d638b2c9e8d01ef0f5d6e962337fdd3f37f188f86446a4b1e93", func := "fretwork/fretworklaw15.SpqrPairs", spec := "spqrPairs", unfollowed := true, recurses := true, plainKeys := false, apart := false, narrowed := true }
def SpqrPairsUptoSaid : Prop := spqrPairsUptoRow.holds Tryz.pinned (OpenSpec.upto spqrPairsSpec)

/-- 'fretworklaw15.SpqrCentre', WHERE WHAT IT READS IS OF BULK AT MOST 1048576: true; the input reads as it did. -/
def spqrCentreUptoRow : OpenClaim := { program := "ytagcbnpahgfgmaagreat", sum := "75ff43f001438d638b2c9e8d01ef0f5d6e962337fdd3f37f188f86446a4b1e93", func := "fretwork/fretworklaw15.SpqrCentre", spec := "spqrCentre", unfollowed := true, recurses := true, plainKeys := false, apart := false, narrowed := true }
def SpqrCentreUptoSaid : Prop := spqrCentreUptoRow.holds Tryz.pinned (OpenSpec.upto spqrCentreSpec)

end Rows
end Go.Proofs.YtagcbnpahgfgmaaGreat
