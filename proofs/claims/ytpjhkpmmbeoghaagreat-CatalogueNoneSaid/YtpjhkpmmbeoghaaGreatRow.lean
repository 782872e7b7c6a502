/- How an argument of type api.Graph reads. -/
import Derived.Test.YtpjhkpmmbeoghaaGreatRows
import Derived.Test.YtpjhkpmmbeoghaaGreatLib
import Derived.ProofKit
import Derived.OpenShut
import Derived.ShutString
import Derived.Lib.SmallJoins
import Derived.Deep.Slices
namespace Go.Proofs.YtpjhkpmmbeoghaaGreat
open Go Go.RowKit Go.ChangeShapes Go.WideShapes Go.ChangeAt Go.Joins Go.Deep

theorem rowOwn : ownKnob Tryz.prog.godebug = none := by kernel_rfl
theorem rowLaid : laidOutB Tryz.prog = true := by kernel_rfl
theorem rowPairs : Tryz.prog.cellsOf 55 = 2 := by kernel_rfl
theorem rowInt : Tryz.prog.cellsOf 3 = 1 := by kernel_rfl
theorem rowGraph : Tryz.prog.cellsOf 29 = 2 := by kernel_rfl

theorem cells?_two {w : World} {base : Nat} {a : Addr} {cs : List Value} (h : w.cells? base a 2 = some cs) : ∃ x y, cs = [x, y] ∧ w.cell? a = some x ∧ w.cell? (a.add 1) = some y := by
  obtain ⟨h1, h2, h3⟩ := World.cells?_some h
  match cs, h2 with
  | [x, y], _ => exact ⟨x, y, rfl, by simpa [Addr.add] using h3 0 (by omega), by simpa using h3 1 (by omega)⟩

section
variable {H : Type} {enc : TypeId × Value → H} {W : World} {base fuel : Nat} {spare : Nat → Bool} {held : Bool}

set_option maxRecDepth 100000 in
theorem pair_of {cs : List Value} {x : DataW H × List MemPlace} (h : DataW.trod enc Tryz.prog W base spare held fuel 55 cs = some x) : ∃ a b : Int, cs = [.int .i64 a, .int .i64 b] := by
  obtain ⟨xs, m, rfl, rfl, hl, hx, hi⟩ := DataW.trod_array Tryz.underlying55 h
  rw [rowPairs] at hl
  match cs, hl with
  | [u, v], _ =>
    have h0 := hi 0 (by omega)
    have h1 := hi 1 (by omega)
    rw [rowInt] at h0 h1
    simp at h0 h1
    rw [List.getElem?_eq_getElem (by omega)] at h0 h1
    obtain ⟨a, e0, _⟩ := DataW.trod_int Tryz.underlying3 h0
    obtain ⟨b, e1, _⟩ := DataW.trod_int Tryz.underlying3 h1
    simp at e0 e1
    exact ⟨a, b, by rw [e0, e1]⟩

/-- a slice of pairs, read -/
theorem open_pairs {cs : List Value} {x : DataW H × List MemPlace} (h : DataW.trod enc Tryz.prog W base spare held fuel 27 cs = some x) :
    ∃ (a : Option Addr) (cap : Nat) (es : List (Int × Int)), cs = [.slice a es.length cap] ∧ RdP W a es ∧ es.length ≤ cap ∧ cap ≤ maxLen := by
  rcases open_slice Tryz.underlying27 h with ⟨rfl, _⟩ | ⟨a, len, cap, m, n, D, Pl, rfl, _, hl, hm, hmm, _, hx⟩
  · exact ⟨none, 0, [], rfl, by intro i u hu; simp [pairCells] at hu, by simp, by unfold maxLen; omega⟩
  · have hle : len ≤ m := by rw [hmm]; split <;> omega
    have hp : ∀ i, i < len → ∃ p : Int × Int, W.cell? (a.add (i * 2)) = some (.int .i64 p.1) ∧ W.cell? ((a.add (i * 2)).add 1) = some (.int .i64 p.2) := by
      intro i hi
      obtain ⟨cs', h1, h2⟩ := hx i (by omega)
      rw [rowPairs] at h1
      obtain ⟨p, q, rfl⟩ := pair_of h2
      obtain ⟨u, v, e, h3, h4⟩ := cells?_two h1
      simp at e
      obtain ⟨rfl, rfl⟩ := e
      exact ⟨(p, q), h3, h4⟩
    obtain ⟨f, hf⟩ := choose_lt (p := fun i (p : Int × Int) => W.cell? (a.add (i * 2)) = some (.int .i64 p.1) ∧ W.cell? ((a.add (i * 2)).add 1) = some (.int .i64 p.2)) hp
    have hspot : 0 < len → ∃ b o, a = ⟨b, o, none⟩ := by
      intro h0
      obtain ⟨h1, _⟩ := hf 0 h0
      have h2 : W.cell? a = some (.int .i64 (f 0).1) := by simpa [Addr.add] using h1
      obtain ⟨b, o, sp⟩ := a
      cases sp with
      | none => exact ⟨b, o, rfl⟩
      | some k =>
        exfalso
        simp only [World.cell?] at h2
        split at h2 <;> simp at h2
    refine ⟨some a, cap, (List.range len).map f, by simp, ?_, by simpa using hl, hm⟩
    intro i u hu
    have hi := (List.getElem?_eq_some_iff.1 hu).1
    rw [pairCells_length] at hi
    simp only [List.length_map, List.length_range] at hi
    obtain ⟨b, o, rfl⟩ := hspot (by omega)
    refine ⟨b, o, rfl, ?_⟩
    have hk : i / 2 < len := by omega
    obtain ⟨h1, h2⟩ := hf (i / 2) hk
    obtain ⟨g1, g2⟩ := pairCells_get ((List.range len).map f) (i / 2) (by simpa using hk)
    simp only [List.getElem_map, List.getElem_range] at g1 g2
    rw [Addr.add_lit] at h1 h2
    rw [Addr.add_lit] at h2
    rcases Nat.mod_two_eq_zero_or_one i with h | h
    · have e : i = i / 2 * 2 := by omega
      rw [e, g1] at hu
      cases hu
      rw [e, show i / 2 * 2 / 2 = i / 2 by omega]
      exact h1
    · have e : i = i / 2 * 2 + 1 := by omega
      rw [e, g2] at hu
      cases hu
      rw [e, ← Nat.add_assoc, show (i / 2 * 2 + 1) / 2 = i / 2 by omega]
      exact h2

set_option maxRecDepth 100000 in
/-- a graph by value -/
theorem open_graph {r : Reach} {b0 : Nat} {v : Value} {d : DataW H} {p : List MemPlace} (hv : Value.okWide Tryz.prog W r b0 29 v) (h : DataW.Trod enc Tryz.prog W base spare held 29 v d p) :
    ∃ (n : Int) (a : Option Addr) (cap : Nat) (es : List (Int × Int)), v = .agg #[.int .i64 n, .slice a es.length cap] ∧ RdP W a es ∧ es.length ≤ cap ∧ cap ≤ maxLen ∧ (Lit.int .i64 n).wf = true := by
  obtain ⟨c0, c1, y0, y1, m, rfl, rfl, rfl, h0, h1⟩ := open_agg2 Tryz.underlying29 (by kernel_rfl) rowGraph hv h
  obtain ⟨n, e0, _, wn⟩ := DataW.trod_int Tryz.underlying3 h0
  obtain ⟨a, cap, es, e1, h2, h3, h4⟩ := open_pairs h1
  simp at e0 e1
  subst e0; subst e1
  exact ⟨n, a, cap, es, rfl, h2, h3, h4, wn⟩
end
end Go.Proofs.YtpjhkpmmbeoghaaGreat
