/- Small facts of types and numbers that many texts share. -/
import Derived.Test.YtagcbnpahgfgmaaChecked
import Derived.Test.YtagcbnpahgfgmaaMem
namespace Go.Proofs.Ytagcbnpahgfgmaa
open Go Go.RowKit
def vN (k : Nat) : Value := .int .i64 (k : Int)
theorem map_vN (l : List Nat) : l.map vN = (l.map (fun (x : Nat) => (x : Int))).map (Value.int .i64) := by rw [List.map_map]; rfl
theorem int_info : (Try.prog.info? 3).map (fun i => (i.zero, i.size, i.bytes)) = some (some (.int .i64 0), 1, 8) := by kernel_rfl
theorem bool_info : (Try.prog.info? 4).map (fun i => (i.zero, i.size, i.bytes)) = some (some (.bool false), 1, 1) := by kernel_rfl
theorem grownBy_trans {a b c : World} {k : Option Nat} (h : a.grownBy b k) (h2 : b.grownBy c k) : a.grownBy c k :=
  ⟨h2.os.trans h.os, h2.tape.trans h.tape, h2.output.trans h.output, Nat.le_trans h.size h2.size, fun i hi hne => (h2.block i (Nat.lt_of_lt_of_le hi h.size) hne).trans (h.block i hi hne)⟩
theorem grownBy_set (w : World) (b o : Nat) (u : Value) : w.grownBy (w.setCell ⟨b, o, none⟩ u) (some b) :=
  ⟨rfl, rfl, rfl, by simp [World.setCell], fun k _ hne => Below.heap_setCell w ⟨b, o, none⟩ u k (fun e => hne (by rw [e]))⟩
theorem grownBy_of {w w' : World} (h : Below w.heap.size w w') (k : Option Nat) : w.grownBy w' k := ⟨h.os, h.tape, h.output, h.size, fun i hi _ => h.block i hi⟩
end Go.Proofs.Ytagcbnpahgfgmaa
