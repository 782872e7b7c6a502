/- How arguments of links and of numbers read. -/
import Derived.Test.YtagcbnpahgfgmaaRows
import Derived.Test.YtagcbnpahgfgmaaLkM
import Derived.Test.YtagcbnpahgfgmaaMapZ
import Derived.ProofKit
import Derived.OpenShut
import Derived.ShutString
import Derived.Lib.SmallJoins
import Derived.Deep.Slices
import Derived.Deep.Fields
namespace Go.Proofs.Ytagcbnpahgfgmaa
open Go Go.RowKit Go.ChangeShapes Go.WideShapes Go.ChangeAt Go.Joins Go.Deep

theorem rowOwn : ownKnob Try.prog.godebug = none := by kernel_rfl
theorem rowLaid : laidOutB Try.prog = true := by kernel_rfl
theorem rowInt : Try.prog.cellsOf 3 = 1 := by kernel_rfl
theorem rowLink : Try.prog.cellsOf 25 = 3 := by kernel_rfl

theorem no_far {w : World} {b o : Nat} {s : Option Nat} {x : Value} (h : w.cell? ⟨b, o, s⟩ = some x) : s = none := by
  cases s with
  | none => rfl
  | some k =>
    exfalso
    simp only [World.cell?] at h
    split at h <;> simp at h
section
variable {H : Type} {enc : TypeId × Value → H} {W : World} {base fuel : Nat} {spare : Nat → Bool} {held : Bool}
set_option maxRecDepth 100000 in
theorem link_of {cs : List Value} {x : DataW H × List MemPlace} (h : DataW.trod enc Try.prog W base spare held fuel 25 cs = some x) :
    ∃ k : Lk, cs = [.int .i64 k.1, .int .i64 k.2.1, .int .i64 k.2.2] ∧ WfZ k.1 ∧ WfZ k.2.1 ∧ WfZ k.2.2 := by
  obtain ⟨xs, n, rfl, rfl, hl, hx, hi⟩ := DataW.trod_struct Try.underlying25 h
  rw [rowLink] at hl
  match cs, hl with
  | [u, v, t], _ =>
    have h0 : DataW.trod enc Try.prog W base spare held n 3 [u] = xs[0]? := by have := hi 0 _ rfl; simpa [rowInt] using this
    have h1 : DataW.trod enc Try.prog W base spare held n 3 [v] = xs[1]? := by have := hi 1 _ rfl; simpa [rowInt] using this
    have h2 : DataW.trod enc Try.prog W base spare held n 3 [t] = xs[2]? := by have := hi 2 _ rfl; simpa [rowInt] using this
    simp at hx
    rw [List.getElem?_eq_getElem (by omega)] at h0 h1 h2
    obtain ⟨a, e0, _, w0⟩ := DataW.trod_int Try.underlying3 h0
    obtain ⟨b, e1, _, w1⟩ := DataW.trod_int Try.underlying3 h1
    obtain ⟨c, e2, _, w2⟩ := DataW.trod_int Try.underlying3 h2
    simp at e0 e1 e2
    exact ⟨(a, b, c), by rw [e0, e1, e2], w0, w1, w2⟩

/-- a slice of links, read -/
theorem open_links {r : Reach} {b0 : Nat} {v : Value} {d : DataW H} {p : List MemPlace} (hv : Value.okWide Try.prog W r b0 22 v) (h : DataW.Trod enc Try.prog W base spare held 22 v d p) :
    ∃ (a : Option Addr) (cap : Nat) (ls : List Lk), v = .slice a ls.length cap ∧ RdL W a ls ∧ ls.length ≤ cap ∧ cap ≤ maxLen ∧ ∀ k ∈ ls, WfZ k.1 ∧ WfZ k.2.1 ∧ WfZ k.2.2 := by
  obtain ⟨fuel, hf⟩ := h
  obtain ⟨a1, l1, c1, rfl⟩ := okWide_slice Try.underlying22 hv
  rcases open_slice Try.underlying22 hf with ⟨e, _⟩ | ⟨a, len, cap, m, n, D, Pl, e, _, hl, hm, hmm, _, hx⟩
  · simp [Value.cells] at e
    obtain ⟨rfl, rfl, rfl⟩ := e
    exact ⟨none, 0, [], rfl, rdL_nil _ _, by simp, by unfold maxLen; omega, fun k hk => by simp at hk⟩
  · simp [Value.cells] at e
    obtain ⟨rfl, rfl, rfl⟩ := e
    have hle : l1 ≤ m := by rw [hmm]; split <;> omega
    have hp : ∀ i, i < l1 → ∃ k : Lk, (W.cell? (a.add (i * 3)) = some (.int .i64 k.1) ∧ W.cell? ((a.add (i * 3)).add 1) = some (.int .i64 k.2.1) ∧ W.cell? ((a.add (i * 3)).add 2) = some (.int .i64 k.2.2)) ∧ WfZ k.1 ∧ WfZ k.2.1 ∧ WfZ k.2.2 := by
      intro i hi
      obtain ⟨cs', h1, h2⟩ := hx i (by omega)
      rw [rowLink] at h1
      obtain ⟨k, rfl, hw⟩ := link_of h2
      obtain ⟨_, _, h5⟩ := World.cells?_some h1
      exact ⟨k, ⟨by simpa [Addr.add] using h5 0 (by omega), by simpa using h5 1 (by omega), by simpa using h5 2 (by omega)⟩, hw⟩
    obtain ⟨f, hf2⟩ := choose_lt (p := fun i (k : Lk) => (W.cell? (a.add (i * 3)) = some (.int .i64 k.1) ∧ W.cell? ((a.add (i * 3)).add 1) = some (.int .i64 k.2.1) ∧ W.cell? ((a.add (i * 3)).add 2) = some (.int .i64 k.2.2)) ∧ WfZ k.1 ∧ WfZ k.2.1 ∧ WfZ k.2.2) hp
    refine ⟨some a, c1, (List.range l1).map f, by simp, ?_, by simpa using hl, hm, ?_⟩
    · intro i u hu
      have hi := (List.getElem?_eq_some_iff.1 hu).1
      rw [lkCells_length] at hi
      simp only [List.length_map, List.length_range] at hi
      have hk : i / 3 < l1 := by omega
      obtain ⟨b, o, sp⟩ := a
      obtain ⟨⟨h1, h2, h3⟩, _⟩ := hf2 (i / 3) hk
      have hsp : sp = none := by
        obtain ⟨⟨h1, _⟩, _⟩ := hf2 0 (by omega)
        have h2 : W.cell? ⟨b, o, sp⟩ = some (.int .i64 (f 0).1) := by simpa [Addr.add] using h1
        exact no_far h2
      subst hsp
      refine ⟨b, o, rfl, ?_⟩
      obtain ⟨g1, g2, g3⟩ := lkCells_get ((List.range l1).map f) (i / 3) (by simpa using hk)
      simp only [List.getElem_map, List.getElem_range] at g1 g2 g3
      rw [Addr.add_lit] at h1 h2 h3
      rw [Addr.add_lit] at h2 h3
      have hmod : i % 3 = 0 ∨ i % 3 = 1 ∨ i % 3 = 2 := by omega
      rcases hmod with h | h | h
      · rw [show i / 3 * 3 = i by omega] at g1 h1
        rw [g1] at hu; cases hu; exact h1
      · rw [show i / 3 * 3 + 1 = i by omega] at g2
        rw [g2] at hu; cases hu
        rw [show o + i = o + i / 3 * 3 + 1 by omega]; exact h2
      · rw [show i / 3 * 3 + 2 = i by omega] at g3
        rw [g3] at hu; cases hu
        rw [show o + i = o + i / 3 * 3 + 2 by omega]; exact h3
    · intro k hk
      obtain ⟨i, hi, rfl⟩ := List.mem_map.1 hk
      exact (hf2 i (List.mem_range.1 hi)).2
/-- a slice of numbers, read -/
theorem open_nums {r : Reach} {b0 : Nat} {v : Value} {d : DataW H} {p : List MemPlace} (hv : Value.okWide Try.prog W r b0 38 v) (h : DataW.Trod enc Try.prog W base spare held 38 v d p) :
    ∃ (a : Option Addr) (cap : Nat) (zs : List Int), v = .slice a zs.length cap ∧ RdI W a zs ∧ zs.length ≤ cap ∧ cap ≤ maxLen ∧ ∀ z ∈ zs, WfZ z := by
  obtain ⟨fuel, hf⟩ := h
  obtain ⟨a1, l1, c1, rfl⟩ := okWide_slice Try.underlying38 hv
  rcases open_slice Try.underlying38 hf with ⟨e, _⟩ | ⟨a, len, cap, m, n, D, Pl, e, _, hl, hm, hmm, _, hx⟩
  · simp [Value.cells] at e
    obtain ⟨rfl, rfl, rfl⟩ := e
    exact ⟨none, 0, [], rfl, by intro i u hu; simp at hu, by simp, by unfold maxLen; omega, fun k hk => by simp at hk⟩
  · simp [Value.cells] at e
    obtain ⟨rfl, rfl, rfl⟩ := e
    have hle : l1 ≤ m := by rw [hmm]; split <;> omega
    have hp : ∀ i, i < l1 → ∃ z : Int, W.cell? (a.add i) = some (.int .i64 z) ∧ WfZ z := by
      intro i hi
      obtain ⟨cs', h1, h2⟩ := hx i (by omega)
      rw [rowInt, Nat.mul_one] at h1
      obtain ⟨z, e1, _, hw⟩ := DataW.trod_int Try.underlying3 h2
      obtain ⟨_, h4, h5⟩ := World.cells?_some h1
      have h6 := h5 0 (by omega)
      rw [e1] at h6
      exact ⟨z, by simpa [Addr.add] using h6, hw⟩
    obtain ⟨f, hf2⟩ := choose_lt (p := fun i (z : Int) => W.cell? (a.add i) = some (.int .i64 z) ∧ WfZ z) hp
    refine ⟨some a, c1, (List.range l1).map f, by simp, ?_, by simpa using hl, hm, ?_⟩
    · intro i u hu
      have hi := (List.getElem?_eq_some_iff.1 hu).1
      simp only [List.length_map, List.length_range] at hi
      obtain ⟨b, o, sp⟩ := a
      obtain ⟨h1, _⟩ := hf2 i hi
      have hsp : sp = none := by
        obtain ⟨h1, _⟩ := hf2 0 (by omega)
        have h2 : W.cell? ⟨b, o, sp⟩ = some (.int .i64 (f 0)) := by simpa [Addr.add] using h1
        exact no_far h2
      subst hsp
      refine ⟨b, o, rfl, ?_⟩
      simp [hi] at hu
      rw [Addr.add_lit] at h1
      rw [← hu]; exact h1
    · intro k hk
      obtain ⟨i, hi, rfl⟩ := List.mem_map.1 hk
      exact (hf2 i (List.mem_range.1 hi)).2
end
end Go.Proofs.Ytagcbnpahgfgmaa
