/-
  No cell of these rows narrows 'for every input' (looked for: loops, veiled, ifaces, maps, wideKeys, modest, calm, conditions, laid).
  DERIVED. THE GIVEN ROWS OF THIS SEAT. 7 by the template 'for every input the law returns true; each argument reads behind the call as it read before'; 0 by the template 'total and deterministic' (their statements: YtddndhhhmlcgjaaTotals.lean).
  GIVEN WITH THE SEED: the statements are not yours to turn. If you find one false, say at which input.
  Laid BY PROGRAM, IN A SANDBOX (cutbox-rows.mjs): the forced cells as the released guide's own fill.sh prints them over the translation e62fe9082c7fb12b… (all of the seat's roots in one cut). By AI agents, Wed Nov 11 2026. No macro, syntax, notation, axiom, sorry.
-/
import Derived.Test.YtddndhhhmlcgjaaChecked
import GoSem.Claim
import GoSem.ClaimJoined
import GoSem.ClaimMapViews
import Derived.JoinedTies
import Derived.KernelRfl
namespace Go.Proofs.Ytddndhhhmlcgjaa
/- THE CELL 'sum', in the pinned program and in every row, IS THE sha256 OF THE DUMP (.gsa) THAT YtddndhhhmlcgjaaProg.lean LOADS. Nothing in Lean hashes anything: it is a label: what it is worth is what the hold of that sum in a sandbox is worth. -/
noncomputable def Try.pinned : Pinned := { name := "ytddndhhhmlcgjaa", sum := "e62fe9082c7fb12b8df33b3147bcdf2f4d70f228b8beb6ccd9ba646e80596807", checked := Try.checked }
namespace Rows
def none {H : Type} : Left H := { results := [], args := [] }

/-- 'fretworklaw04.WalkTells': WHATEVER THE INPUT: true; the input reads as it did. -/
def walkTellsSpec : ChangeSpec := { name := "walkTells", fn := fun _ => fun
  | [d1, d2, d3] => { results := [.lit (.bool true)], args := [d1, d2, d3] }
  | _ => none }
def walkTellsRow : OpenClaim := { program := "ytddndhhhmlcgjaa", sum := "e62fe9082c7fb12b8df33b3147bcdf2f4d70f228b8beb6ccd9ba646e80596807", func := "fretwork/fretworklaw04.WalkTells", spec := "walkTells", recurses := true, apart := false }
def WalkTellsSaid : Prop := walkTellsRow.holds Try.pinned (OpenSpec.ofChange walkTellsSpec)

/-- ITS FALSE NEIGHBOUR: 'it returns false'. Refute it at one input. -/
def walkTellsWrong : ChangeSpec := { name := "walkTells", fn := fun _ => fun
  | [d1, d2, d3] => { results := [.lit (.bool false)], args := [d1, d2, d3] }
  | _ => none }
def WalkTellsWrongFalsely : Prop := walkTellsRow.holds Try.pinned (OpenSpec.ofChange walkTellsWrong)

/-- 'fretworklaw04.WalkParts': WHATEVER THE INPUT: true; the input reads as it did. -/
def walkPartsSpec : ChangeSpec := { name := "walkParts", fn := fun _ => fun
  | [d1, d2, d3] => { results := [.lit (.bool true)], args := [d1, d2, d3] }
  | _ => none }
def walkPartsRow : OpenClaim := { program := "ytddndhhhmlcgjaa", sum := "e62fe9082c7fb12b8df33b3147bcdf2f4d70f228b8beb6ccd9ba646e80596807", func := "fretwork/fretworklaw04.WalkParts", spec := "walkParts", recurses := true, apart := false }
def WalkPartsSaid : Prop := walkPartsRow.holds Try.pinned (OpenSpec.ofChange walkPartsSpec)

/-- ITS FALSE NEIGHBOUR: 'it returns false'. Refute it at one input. -/
def walkPartsWrong : ChangeSpec := { name := "walkParts", fn := fun _ => fun
  | [d1, d2, d3] => { results := [.lit (.bool false)], args := [d1, d2, d3] }
  | _ => none }
def WalkPartsWrongFalsely : Prop := walkPartsRow.holds Try.pinned (OpenSpec.ofChange walkPartsWrong)

/-- 'fretworklaw04.WalkAway': WHATEVER THE INPUT: true; the input reads as it did. -/
def walkAwaySpec : ChangeSpec := { name := "walkAway", fn := fun _ => fun
  | [d1, d2, d3] => { results := [.lit (.bool true)], args := [d1, d2, d3] }
  | _ => none }
def walkAwayRow : OpenClaim := { program := "ytddndhhhmlcgjaa", sum := "e62fe9082c7fb12b8df33b3147bcdf2f4d70f228b8beb6ccd9ba646e80596807", func := "fretwork/fretworklaw04.WalkAway", spec := "walkAway", recurses := true, apart := false }
def WalkAwaySaid : Prop := walkAwayRow.holds Try.pinned (OpenSpec.ofChange walkAwaySpec)

/-- ITS FALSE NEIGHBOUR: 'it returns false'. Refute it at one input. -/
def walkAwayWrong : ChangeSpec := { name := "walkAway", fn := fun _ => fun
  | [d1, d2, d3] => { results := [.lit (.bool false)], args := [d1, d2, d3] }
  | _ => none }
def WalkAwayWrongFalsely : Prop := walkAwayRow.holds Try.pinned (OpenSpec.ofChange walkAwayWrong)

/-- 'fretworklaw04.WalkLong': WHATEVER THE INPUT: true; the input reads as it did. -/
def walkLongSpec : ChangeSpec := { name := "walkLong", fn := fun _ => fun
  | [d] => { results := [.lit (.bool true)], args := [d] }
  | _ => none }
def walkLongRow : OpenClaim := { program := "ytddndhhhmlcgjaa", sum := "e62fe9082c7fb12b8df33b3147bcdf2f4d70f228b8beb6ccd9ba646e80596807", func := "fretwork/fretworklaw04.WalkLong", spec := "walkLong", recurses := true, apart := false }
def WalkLongSaid : Prop := walkLongRow.holds Try.pinned (OpenSpec.ofChange walkLongSpec)

/-- ITS FALSE NEIGHBOUR: 'it returns false'. Refute it at one input. -/
def walkLongWrong : ChangeSpec := { name := "walkLong", fn := fun _ => fun
  | [d] => { results := [.lit (.bool false)], args := [d] }
  | _ => none }
def WalkLongWrongFalsely : Prop := walkLongRow.holds Try.pinned (OpenSpec.ofChange walkLongWrong)

/-- 'fretworklaw04.WalkOwn': WHATEVER THE INPUT: true; the input reads as it did. -/
def walkOwnSpec : ChangeSpec := { name := "walkOwn", fn := fun _ => fun
  | [d1, d2] => { results := [.lit (.bool true)], args := [d1, d2] }
  | _ => none }
def walkOwnRow : OpenClaim := { program := "ytddndhhhmlcgjaa", sum := "e62fe9082c7fb12b8df33b3147bcdf2f4d70f228b8beb6ccd9ba646e80596807", func := "fretwork/fretworklaw04.WalkOwn", spec := "walkOwn", recurses := true, apart := false }
def WalkOwnSaid : Prop := walkOwnRow.holds Try.pinned (OpenSpec.ofChange walkOwnSpec)

/-- ITS FALSE NEIGHBOUR: 'it returns false'. Refute it at one input. -/
def walkOwnWrong : ChangeSpec := { name := "walkOwn", fn := fun _ => fun
  | [d1, d2] => { results := [.lit (.bool false)], args := [d1, d2] }
  | _ => none }
def WalkOwnWrongFalsely : Prop := walkOwnRow.holds Try.pinned (OpenSpec.ofChange walkOwnWrong)

/-- 'fretworklaw04.WalkMet': WHATEVER THE INPUT: true; the input reads as it did. -/
def walkMetSpec : ChangeSpec := { name := "walkMet", fn := fun _ => fun
  | [d1, d2] => { results := [.lit (.bool true)], args := [d1, d2] }
  | _ => none }
def walkMetRow : OpenClaim := { program := "ytddndhhhmlcgjaa", sum := "e62fe9082c7fb12b8df33b3147bcdf2f4d70f228b8beb6ccd9ba646e80596807", func := "fretwork/fretworklaw04.WalkMet", spec := "walkMet", unfollowed := true, recurses := true, apart := false }
def WalkMetSaid : Prop := walkMetRow.holds Try.pinned (OpenSpec.ofChange walkMetSpec)

/-- ITS FALSE NEIGHBOUR: 'it returns false'. Refute it at one input. -/
def walkMetWrong : ChangeSpec := { name := "walkMet", fn := fun _ => fun
  | [d1, d2] => { results := [.lit (.bool false)], args := [d1, d2] }
  | _ => none }
def WalkMetWrongFalsely : Prop := walkMetRow.holds Try.pinned (OpenSpec.ofChange walkMetWrong)

/-- 'fretworklaw04.WalkPath': WHATEVER THE INPUT: true; the input reads as it did. -/
def walkPathSpec : ChangeSpec := { name := "walkPath", fn := fun _ => fun
  | [d1, d2, d3] => { results := [.lit (.bool true)], args := [d1, d2, d3] }
  | _ => none }
def walkPathRow : OpenClaim := { program := "ytddndhhhmlcgjaa", sum := "e62fe9082c7fb12b8df33b3147bcdf2f4d70f228b8beb6ccd9ba646e80596807", func := "fretwork/fretworklaw04.WalkPath", spec := "walkPath", unfollowed := true, recurses := true, apart := false }
def WalkPathSaid : Prop := walkPathRow.holds Try.pinned (OpenSpec.ofChange walkPathSpec)

/-- ITS FALSE NEIGHBOUR: 'it returns false'. Refute it at one input. -/
def walkPathWrong : ChangeSpec := { name := "walkPath", fn := fun _ => fun
  | [d1, d2, d3] => { results := [.lit (.bool false)], args := [d1, d2, d3] }
  | _ => none }
def WalkPathWrongFalsely : Prop := walkPathRow.holds Try.pinned (OpenSpec.ofChange walkPathWrong)

/- THE SECOND FORM. 'bulk': how many values and letters a reading holds, each counted each time it is reached (what is shared counts as often as it is met; a slice's spare places count too). A statement '..UptoSaid' is the law's where the arguments, and the package variables that the reading takes, are together of bulk at most 1048576: NARROWER than '..Said'. Prove '..Said' where nothing that the law and all that it calls make is longer than what came in: it says more and counts as full. Else prove '..UptoSaid'. A law counts once. -/
mutual
def uptoBulk {H : Type} : DataW H → Nat
  | .lit (.string bytes) => bytes.length + 1
  | .lit _ => 1
  | .nil => 1
  | .ptr d => uptoBulk d + 1
  | .slice elems spare => uptoBulkAll elems + uptoBulkAll spare + 1
  | .agg parts => uptoBulkAll parts + 1
  | .iface _ d => uptoBulk d + 1
  | .map entries => uptoBulkEntries entries + 1
  | .held _ => 1
def uptoBulkAll {H : Type} : List (DataW H) → Nat
  | [] => 0
  | d :: r => uptoBulk d + uptoBulkAll r
def uptoBulkEntries {H : Type} : List (Lit × DataW H) → Nat
  | [] => 0
  | x :: r => uptoBulkEntry x + uptoBulkEntries r
def uptoBulkEntry {H : Type} : Lit × DataW H → Nat
  | (.string bytes, d) => bytes.length + uptoBulk d + 1
  | (_, d) => uptoBulk d + 1
 end
def uptoSmall : (H : Type) → List (DataW H) → Bool := fun _ ds => decide (uptoBulkAll ds ≤ 1048576)
def OpenSpec.upto (s : _root_.Go.ChangeSpec) : _root_.Go.OpenSpec := { _root_.Go.OpenSpec.ofChange s with cond := some uptoSmall }

/-- 'fretworklaw04.WalkTells', WHERE WHAT IT READS IS OF BULK AT MOST 1048576: true; the input reads as it did. -/
def walkTellsUptoRow : OpenClaim := { program := "ytddndhhhmlcgjaa", sum := "e62fe9082c7fb12b8df33b3147bcdf2f4d70f228b8beb6ccd9ba646e80596807", func := "fretwork/fretworklaw04.WalkTells", spec := "walkTells", recurses := true, apart := false, narrowed := true }
def WalkTellsUptoSaid : Prop := walkTellsUptoRow.holds Try.pinned (OpenSpec.upto walkTellsSpec)

/-- 'fretworklaw04.WalkParts', WHERE WHAT IT READS IS OF BULK AT MOST 1048576: true; the input reads as it did. -/
def walkPartsUptoRow : OpenClaim := { program := "ytddndhhhmlcgjaa", sum := "e62fe9082c7fb12b8df33b3147bcdf2f4d70f228b8beb6ccd9ba646e80596807", func := "fretwork/fretworklaw04.WalkParts", spec := "walkParts", recurses := true, apart := false, narrowed := true }
def WalkPartsUptoSaid : Prop := walkPartsUptoRow.holds Try.pinned (OpenSpec.upto walkPartsSpec)

/-- 'fretworklaw04.WalkAway', WHERE WHAT IT READS IS OF BULK AT MOST 1048576: true; the input reads as it did. -/
def walkAwayUptoRow : OpenClaim := { program := "ytddndhhhmlcgjaa", sum := "e62fe9082c7fb12b8df33b3147bcdf2f4d70f228b8beb6ccd9ba646e80596807", func := "fretwork/fretworklaw04.WalkAway", spec := "walkAway", recurses := true, apart := false, narrowed := true }
def WalkAwayUptoSaid : Prop := walkAwayUptoRow.holds Try.pinned (OpenSpec.upto walkAwaySpec)

/-- 'fretworklaw04.WalkLong', WHERE WHAT IT READS IS OF BULK AT MOST 1048576: true; the input reads as it did. -/
def walkLongUptoRow : OpenClaim := { program := "ytddndhhhmlcgjaa", sum := "e62fe9082c7fb12b8df33b3147bcdf2f4d70f228b8beb6ccd9ba646e80596807", func := "fretwork/fretworklaw04.WalkLong", spec := "walkLong", recurses := true, apart := false, narrowed := true }
def WalkLongUptoSaid : Prop := walkLongUptoRow.holds Try.pinned (OpenSpec.upto walkLongSpec)

/-- 'fretworklaw04.WalkOwn', WHERE WHAT IT READS IS OF BULK AT MOST 1048576: true; the input reads as it did. -/
def walkOwnUptoRow : OpenClaim := { program := "ytddndhhhmlcgjaa", sum := "e62fe9082c7fb12b8df33b3147bcdf2f4d70f228b8beb6ccd9ba646e80596807", func := "fretwork/fretworklaw04.WalkOwn", spec := "walkOwn", recurses := true, apart := false, narrowed := true }
def WalkOwnUptoSaid : Prop := walkOwnUptoRow.holds Try.pinned (OpenSpec.upto walkOwnSpec)

/-- 'fretworklaw04.WalkMet', WHERE WHAT IT READS IS OF BULK AT MOST 1048576: true; the input reads as it did. -/
def walkMetUptoRow : OpenClaim := { program := "ytddndhhhmlcgjaa", sum := "e62fe9082c7fb12b8df33b3147bcdf2f4d70f228b8beb6ccd9ba646e80596807", func := "fretwork/fretworklaw04.WalkMet", spec := "walkMet", unfollowed := true, recurses := true, apart := false, narrowed := true }
def WalkMetUptoSaid : Prop := walkMetUptoRow.holds Try.pinned (OpenSpec.upto walkMetSpec)

/-- 'fretworklaw04.WalkPath', WHERE WHAT IT READS IS OF BULK AT MOST 1048576: true; the input reads as it did. -/
def walkPathUptoRow : OpenClaim := { program := "ytddndhhhmlcgjaa", sum := "e62fe9082c7fb12b8df33b3147bcdf2f4d70f228b8beb6ccd9ba646e80596807", func := "fretwork/fretworklaw04.WalkPath", spec := "walkPath", unfollowed := true, recurses := true, apart := false, narrowed := true }
def WalkPathUptoSaid : Prop := walkPathUptoRow.holds Try.pinned (OpenSpec.upto walkPathSpec)

end Rows
end Go.Proofs.Ytddndhhhmlcgjaa
