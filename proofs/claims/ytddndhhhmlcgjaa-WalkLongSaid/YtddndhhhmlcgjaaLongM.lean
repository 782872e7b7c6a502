/- Two graphs that grow side by side. -/
import Derived.Test.YtddndhhhmlcgjaaCopy
import Derived.Test.YtddndhhhmlcgjaaPartsM
import Derived.Test.YtddndhhhmlcgjaaReg2
namespace Go.Proofs.Ytddndhhhmlcgjaa
open Go Go.RowKit

/-- b4 and b5 are two graphs' blocks, v4 and v5 their lists as they stand; u4 and u5 are lists of the call's own, of n4 and n5 pairs. -/
structure TS (w0 w : World) (b4 b5 : Nat) (x : Value) (v4 v5 u4 u5 : Value) (n4 n5 : Nat) (l4 l5 : List (Int × Int)) : Prop where
  c40 : w.cell? ⟨b4, 0, none⟩ = some x
  c41 : w.cell? ⟨b4, 1, none⟩ = some v4
  c50 : w.cell? ⟨b5, 0, none⟩ = some x
  c51 : w.cell? ⟨b5, 1, none⟩ = some v5
  f4 : ∀ i, w.frozen? ⟨b4, i, none⟩ = false
  f5 : ∀ i, w.frozen? ⟨b5, i, none⟩ = false
  o4 : Own w u4 43 2 n4 (pairCells l4)
  o5 : Own w u5 43 2 n5 (pairCells l5)
  s4 : ∀ g, u4.ownBlock = some g → g ≠ b4 ∧ g ≠ b5 ∧ w0.heap.size ≤ g
  s5 : ∀ g, u5.ownBlock = some g → g ≠ b4 ∧ g ≠ b5 ∧ w0.heap.size ≤ g
  s45 : ∀ g, u4.ownBlock = some g → u5.ownBlock ≠ some g
  ne : b4 ≠ b5
  lo4 : w0.heap.size ≤ b4
  lo5 : w0.heap.size ≤ b5
  bl : Below w0.heap.size w0 w

namespace TS
variable {w0 w w' : World} {b4 b5 : Nat} {x v4 v5 u4 u5 : Value} {n4 n5 : Nat} {l4 l5 : List (Int × Int)}
theorem lt4 (h : TS w0 w b4 b5 x v4 v5 u4 u5 n4 n5 l4 l5) : b4 < w.heap.size := World.block_lt_of_cell? w _ h.c40
theorem lt5 (h : TS w0 w b4 b5 x v4 v5 u4 u5 n4 n5 l4 l5) : b5 < w.heap.size := World.block_lt_of_cell? w _ h.c50
theorem ext (h : TS w0 w b4 b5 x v4 v5 u4 u5 n4 n5 l4 l5) (hb : Below w.heap.size w w') : TS w0 w' b4 b5 x v4 v5 u4 u5 n4 n5 l4 l5 :=
  { h with
    c40 := keep_cell hb h.c40, c41 := keep_cell hb h.c41, c50 := keep_cell hb h.c50, c51 := keep_cell hb h.c51
    f4 := fun i => (hb.frozen (by exact h.lt4)).trans (h.f4 i)
    f5 := fun i => (hb.frozen (by exact h.lt5)).trans (h.f5 i)
    o4 := h.o4.ext hb, o5 := h.o5.ext hb
    bl := bl_trans h.bl hb }
theorem app4 (h : TS w0 w b4 b5 x v4 v5 u4 u5 n4 n5 l4 l5) {g cap : Nat} {p : Int × Int} (hr : Row w' g 43 2 cap (pairCells l4 ++ [.int .i64 p.1, .int .i64 p.2])) (hc : n4 + 1 ≤ cap) (hg : w.grownBy w' u4.ownBlock) (ho : u4.ownBlock = some g ∨ w.heap.size ≤ g) :
    TS w0 w' b4 b5 x v4 v5 (.slice (some ⟨g, 0, none⟩) (n4 + 1) cap) u5 (n4 + 1) n5 (l4 ++ [p]) l5 := by
  have e : pairCells l4 ++ [.int .i64 p.1, .int .i64 p.2] = pairCells (l4 ++ [p]) := by simp [pairCells]
  rw [e] at hr
  have l4' := h.lt4; have l5' := h.lt5
  have hsz := h.bl.size
  have hne4 : u4.ownBlock ≠ some b4 := fun e => (h.s4 _ e).1 rfl
  have hne5 : u4.ownBlock ≠ some b5 := fun e => (h.s4 _ e).2.1 rfl
  have hgs : g ≠ b4 ∧ g ≠ b5 ∧ w0.heap.size ≤ g := by
    rcases ho with ho | ho
    · exact h.s4 g ho
    · exact ⟨by omega, by omega, by omega⟩
  refine { h with c40 := grown_cell hg h.c40 hne4, c41 := grown_cell hg h.c41 hne4, c50 := grown_cell hg h.c50 hne5, c51 := grown_cell hg h.c51 hne5, f4 := fun i => grown_frozen hg l4' (h.f4 i) hne4, f5 := fun i => grown_frozen hg l5' (h.f5 i) hne5, o4 := ?_, o5 := ?_, s4 := ?_, s45 := ?_, bl := ?_ }
  · refine hr.own ?_ hc
    rw [pairCells_length]; have := h.o4.1; rw [pairCells_length] at this; simp; omega
  · refine h.o5.below fun q hq => ?_
    exact hg.block q (h.o5.lt hq) (fun e => h.s45 q e.symm hq)
  · intro q hq
    have : g = q := Option.some.inj hq
    subst this; exact hgs
  · intro q hq hq5
    have : g = q := Option.some.inj hq
    subst this
    rcases ho with ho | ho
    · exact h.s45 g ho hq5
    · have := h.o5.lt hq5; omega
  · exact h.bl.grown hg h.bl.size (fun q hq => (h.s4 q hq).2.2)
theorem swap (h : TS w0 w b4 b5 x v4 v5 u4 u5 n4 n5 l4 l5) : TS w0 w b5 b4 x v5 v4 u5 u4 n5 n4 l5 l4 :=
  ⟨h.c50, h.c51, h.c40, h.c41, h.f5, h.f4, h.o5, h.o4, fun g hg => ⟨(h.s5 g hg).2.1, (h.s5 g hg).1, (h.s5 g hg).2.2⟩, fun g hg => ⟨(h.s4 g hg).2.1, (h.s4 g hg).1, (h.s4 g hg).2.2⟩, fun g hg h' => h.s45 g h' hg, fun e => h.ne e.symm, h.lo5, h.lo4, h.bl⟩
theorem app5 (h : TS w0 w b4 b5 x v4 v5 u4 u5 n4 n5 l4 l5) {g cap : Nat} {p : Int × Int} (hr : Row w' g 43 2 cap (pairCells l5 ++ [.int .i64 p.1, .int .i64 p.2])) (hc : n5 + 1 ≤ cap) (hg : w.grownBy w' u5.ownBlock) (ho : u5.ownBlock = some g ∨ w.heap.size ≤ g) :
    TS w0 w' b4 b5 x v4 v5 u4 (.slice (some ⟨g, 0, none⟩) (n5 + 1) cap) n4 (n5 + 1) l4 (l5 ++ [p]) := (h.swap.app4 hr hc hg ho).swap
theorem store4 (h : TS w0 w b4 b5 x v4 v5 u4 u5 n4 n5 l4 l5) (u : Value) : TS w0 (w.setCell ⟨b4, 1, none⟩ u) b4 b5 x u v5 u4 u5 n4 n5 l4 l5 :=
  have far : ∀ q : Nat, q ≠ b4 → (w.setCell ⟨b4, 1, none⟩ u).heap[q]? = w.heap[q]? := fun q hq => RowKit.Below.heap_setCell _ _ _ _ hq
  { h with
    c40 := (World.cell?_setCell_other w _ _ _ (by simp)).trans h.c40
    c41 := World.cell?_setCell_same w _ _ h.c41
    c50 := (World.cell?_setCell_other w _ _ _ (by intro e; exact h.ne (by simpa using congrArg Addr.block e))).trans h.c50
    c51 := (World.cell?_setCell_other w _ _ _ (by intro e; exact h.ne (by simpa using congrArg Addr.block e))).trans h.c51
    f4 := fun i => by rw [World.frozen?_setCell]; exact h.f4 i
    f5 := fun i => by rw [World.frozen?_setCell]; exact h.f5 i
    o4 := h.o4.below fun q hq => far q (h.s4 q hq).1
    o5 := h.o5.below fun q hq => far q (h.s5 q hq).1
    bl := h.bl.setCell h.lo4 _ }
theorem store5 (h : TS w0 w b4 b5 x v4 v5 u4 u5 n4 n5 l4 l5) (u : Value) : TS w0 (w.setCell ⟨b5, 1, none⟩ u) b4 b5 x v4 u u4 u5 n4 n5 l4 l5 := (h.swap.store4 u).swap
end TS

theorem two_new {W : World} {b : Nat} {x0 x1 : Value} (h0 : W.cell? ⟨b, 0, none⟩ = some x0) (h1 : W.cell? ⟨b, 1, none⟩ = some x1) :
    ∀ j u, [x0, x1][j]? = some u → W.cell? ((⟨b, 0, none⟩ : Addr).add j) = some u := by
  intro j u hu
  have e : (⟨b, 0, none⟩ : Addr).add j = ⟨b, j, none⟩ := by unfold Addr.add; split <;> simp_all
  rw [e]
  match j with
  | 0 => simp at hu; rw [← hu]; exact h0
  | 1 => simp at hu; rw [← hu]; exact h1
  | j + 2 => simp at hu
/-- what is the call's own, read -/
theorem Own.rdP {w : World} {v : Value} {n : Nat} {l : List (Int × Int)} (h : Own w v 43 2 n (pairCells l)) : ∃ a cap, v = .slice a l.length cap ∧ RdP w a l := by
  have hn := h.1
  rw [pairCells_length] at hn
  rcases h.2 with ⟨rfl, h0⟩ | ⟨g, cap, rfl, _, hr⟩
  · have : l = [] := List.eq_nil_of_length_eq_zero (by omega)
    subst this
    exact ⟨none, 0, rfl, by intro i u hu; simp [pairCells] at hu⟩
  · exact ⟨some ⟨g, 0, none⟩, cap, by rw [show n = l.length by omega], hr.at_⟩
end Go.Proofs.Ytddndhhhmlcgjaa
