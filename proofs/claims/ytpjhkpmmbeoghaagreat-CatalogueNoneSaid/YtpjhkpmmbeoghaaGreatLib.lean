/- Plain predicates on worlds: what a slice value reads as. No program in sight. -/
import Derived.Tactics
import Derived.Tactics2
import Derived.WalkKit
import Derived.WalkSpells
import Derived.WalkLawsBesides
import Derived.KernelRfl
import Derived.Lib.Hide
namespace Go.Proofs.YtpjhkpmmbeoghaaGreat
open Go Go.RowKit

/-- The cells 'vs' lie at 'a' in w (one cell each). -/
def CellsAt (w : World) (a : Option Addr) (vs : List Value) : Prop :=
  ∀ i u, vs[i]? = some u → ∃ b o, a = some ⟨b, o, none⟩ ∧ w.cell? ⟨b, o + i, none⟩ = some u

/-- 'v' is a slice of ints that reads as xs in w, wherever it lies. -/
def RdI (w : World) (a : Option Addr) (xs : List Int) : Prop := CellsAt w a (xs.map (Value.int .i64))

def pairCells (es : List (Int × Int)) : List Value := es.flatMap fun e => [.int .i64 e.1, .int .i64 e.2]
/-- a slice of pairs of ints -/
def RdP (w : World) (a : Option Addr) (es : List (Int × Int)) : Prop := CellsAt w a (pairCells es)

theorem pairCells_length (es : List (Int × Int)) : (pairCells es).length = es.length * 2 := by
  induction es with
  | nil => rfl
  | cons e es ih => simp only [pairCells, List.flatMap_cons, List.length_append, List.length_cons, List.length_nil] at ih ⊢; omega

theorem pairCells_get (es : List (Int × Int)) (i : Nat) (h : i < es.length) :
    (pairCells es)[i * 2]? = some (.int .i64 es[i].1) ∧ (pairCells es)[i * 2 + 1]? = some (.int .i64 es[i].2) := by
  induction es generalizing i with
  | nil => simp at h
  | cons e es ih =>
    cases i with
    | zero => simp [pairCells]
    | succ i =>
      have := ih i (by simpa using h)
      have e1 : (i + 1) * 2 = i * 2 + 1 + 1 := by omega
      simp only [pairCells, List.flatMap_cons, List.cons_append, List.nil_append, List.getElem_cons_succ] at this ⊢
      rw [e1]
      simpa using this

theorem RdP.at {w : World} {a : Option Addr} {es : List (Int × Int)} (h : RdP w a es) (i : Nat) (hi : i < es.length) :
    ∃ b o, a = some ⟨b, o, none⟩ ∧ w.cell? ⟨b, o + i * 2, none⟩ = some (.int .i64 es[i].1) ∧ w.cell? ⟨b, o + i * 2 + 1, none⟩ = some (.int .i64 es[i].2) := by
  obtain ⟨h1, h2⟩ := pairCells_get es i hi
  obtain ⟨b, o, ha, hc⟩ := h _ _ h1
  obtain ⟨b', o', ha', hc'⟩ := h _ _ h2
  rw [ha] at ha'
  simp only [Option.some.injEq, Addr.mk.injEq, and_true] at ha'
  obtain ⟨rfl, rfl⟩ := ha'
  exact ⟨b, o, ha, hc, by simpa [Nat.add_assoc] using hc'⟩

theorem RdI.at {w : World} {a : Option Addr} {xs : List Int} (h : RdI w a xs) (i : Nat) (hi : i < xs.length) :
    ∃ b o, a = some ⟨b, o, none⟩ ∧ w.cell? ⟨b, o + i, none⟩ = some (.int .i64 xs[i]) :=
  h i _ (by simp [hi])

theorem CellsAt.below {w w' : World} {a : Option Addr} {vs : List Value} (h : CellsAt w a vs) (hb : Below w.heap.size w w') : CellsAt w' a vs := by
  intro i u hu
  obtain ⟨b, o, ha, hc⟩ := h i u hu
  exact ⟨b, o, ha, (hb.cell (World.block_lt_of_cell? w _ hc)).trans hc⟩

theorem RdI.below {w w' : World} {a : Option Addr} {xs : List Int} (h : RdI w a xs) (hb : Below w.heap.size w w') : RdI w' a xs := CellsAt.below h hb
theorem RdP.below {w w' : World} {a : Option Addr} {xs : List (Int × Int)} (h : RdP w a xs) (hb : Below w.heap.size w w') : RdP w' a xs := CellsAt.below h hb

theorem keep_cell {w w' : World} {a : Addr} {v : Value} (hb : Below w.heap.size w w') (h : w.cell? a = some v) : w'.cell? a = some v :=
  (hb.cell (World.block_lt_of_cell? w _ h)).trans h
/-- a step on from the world as the call began -/
theorem bl_trans {w w1 w2 : World} (h : Below w.heap.size w w1) (k : Below w1.heap.size w1 w2) : Below w.heap.size w w2 := h.trans (k.mono h.size)
theorem bl_refl (w : World) : Below w.heap.size w w := Below.refl _ _
theorem bl_alloc (w : World) (o : Obj) : Below w.heap.size w (w.alloc o) := (Below.refl _ _).alloc (Nat.le_refl _) o

end Go.Proofs.YtpjhkpmmbeoghaaGreat
