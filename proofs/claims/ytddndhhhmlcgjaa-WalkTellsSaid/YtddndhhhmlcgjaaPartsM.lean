/- Memory of 'Parts'; the library's sort, of a row of the call's own. -/
import Derived.Test.YtddndhhhmlcgjaaTop
import Derived.Test.YtddndhhhmlcgjaaPartsP
import Derived.Sort.OwnSortedInts
namespace Go.Proofs.Ytddndhhhmlcgjaa
open Go Go.RowKit

theorem sort_row (g cap : Nat) (zs : List Int) (w : World) (h : Row w g 3 1 cap (zs.map (Value.int .i64))) (hsz : zs.length < 1000000) :
    Calls Try.prog 33 #[.slice (some ⟨g, 0, none⟩) zs.length cap] w fun e w' => e = .returned (.tuple #[]) ∧
      Row w' g 3 1 cap ((zs.mergeSort fun x y => decide (x ≤ y)).map (Value.int .i64)) ∧ w.grownBy w' (some g) := by
  obtain ⟨cur, hg, hs, hl, hm, ht⟩ := h
  have ht' : cur.toList.take zs.length = zs.map (Value.int .i64) := by simpa using ht
  have hH := holds_of_blockI (ss := zs) hg ht'
  refine (Try.slices_Sort_int g 0 cap zs w hH (Array.getElem?_eq_some_iff.1 hg).1 (by omega)).mono ?_
  rintro e w' ⟨rfl, n, os, rfl⟩
  refine ⟨rfl, ?_, grownBy_sortedI _⟩
  have hlen : (zs.mergeSort fun x y => decide (x ≤ y)).length = zs.length := by simp
  refine ⟨_, heap_sortedI _ hg, by simpa [Sort.putCells] using hs, by simpa [hlen] using hl, hm, ?_⟩
  rw [List.length_map]
  exact take_putCellsI cur _ (by simp at hl; omega)

theorem map_vN (l : List Nat) : l.map vN = (l.map (fun (x : Nat) => (x : Int))).map (Value.int .i64) := by rw [List.map_map]; rfl
theorem sort_rowN (g cap : Nat) (zs : List Nat) (w : World) (h : Row w g 3 1 cap (zs.map vN)) (hsz : zs.length < 1000000) :
    Calls Try.prog 33 #[.slice (some ⟨g, 0, none⟩) zs.length cap] w fun e w' => e = .returned (.tuple #[]) ∧
      Row w' g 3 1 cap ((sortN zs).map vN) ∧ w.grownBy w' (some g) := by
  rw [map_vN] at h
  have h1 := sort_row g cap (zs.map (fun (x : Nat) => (x : Int))) w h (by simpa using hsz)
  rw [List.length_map] at h1
  refine h1.mono ?_
  rintro e w' ⟨h2, h3, h4⟩
  refine ⟨h2, ?_, h4⟩
  rw [sortN_cast] at h3
  rw [map_vN]; exact h3

theorem grownBy_trans {a b c : World} {k : Option Nat} (h : a.grownBy b k) (h2 : b.grownBy c k) : a.grownBy c k :=
  ⟨h2.os.trans h.os, h2.tape.trans h.tape, h2.output.trans h.output, Nat.le_trans h.size h2.size, fun i hi hne => (h2.block i (Nat.lt_of_lt_of_le hi h.size) hne).trans (h.block i hi hne)⟩
theorem grownBy_set (w : World) (b o : Nat) (u : Value) : w.grownBy (w.setCell ⟨b, o, none⟩ u) (some b) :=
  ⟨rfl, rfl, rfl, by simp [World.setCell], fun k _ hne => Below.heap_setCell w ⟨b, o, none⟩ u k (fun e => hne (by rw [e]))⟩
theorem grownBy_of {w w' : World} (h : Below w.heap.size w w') (k : Option Nat) : w.grownBy w' k := ⟨h.os, h.tape, h.output, h.size, fun i hi _ => h.block i hi⟩

/-- Block G is a row of slices, each the call's own, that read as 'rows'; all of their blocks, and G, are apart, and from B on. -/
structure FRows (w : World) (B G : Nat) (tO e : TypeId) (cap : Nat) (vals : List Value) (rows : List (List Value)) : Prop where
  len : vals.length = rows.length
  outer : Row w G tO 1 cap vals
  row : ∀ (i : Nat) (u : Value) (r : List Value), vals[i]? = some u → rows[i]? = some r → ∃ g c, u = .slice (some ⟨g, 0, none⟩) r.length c ∧ Row w g e 1 c r ∧ B ≤ g ∧ g ≠ G
  apart : ∀ (i j g : Nat) (u v : Value), i ≠ j → vals[i]? = some u → vals[j]? = some v → u.ownBlock = some g → v.ownBlock ≠ some g
  lo : B ≤ G
namespace FRows
variable {w w' : World} {B G : Nat} {tO e : TypeId} {cap : Nat} {vals : List Value} {rows : List (List Value)}
theorem rowAt (h : FRows w B G tO e cap vals rows) {i : Nat} (hi : i < vals.length) : ∃ u r g c, vals[i]? = some u ∧ rows[i]? = some r ∧ u = .slice (some ⟨g, 0, none⟩) r.length c ∧ Row w g e 1 c r ∧ B ≤ g ∧ g ≠ G := by
  have h1 : vals[i]? = some vals[i] := by simp
  have h2 : rows[i]? = some (rows[i]'(by rw [← h.len]; exact hi)) := by simp
  obtain ⟨g, c, h3, h4, h5, h6⟩ := h.row i _ _ h1 h2
  exact ⟨_, _, g, c, h1, h2, h3, h4, h5, h6⟩
theorem lt (h : FRows w B G tO e cap vals rows) {i : Nat} {u : Value} {g : Nat} (hu : vals[i]? = some u) (hg : u.ownBlock = some g) : g < w.heap.size ∧ B ≤ g ∧ g ≠ G := by
  obtain ⟨u', r, g', c, h1, h2, rfl, h4, h5, h6⟩ := h.rowAt (List.getElem?_eq_some_iff.1 hu).1
  rw [hu] at h1
  cases h1
  have : some g' = some g := hg
  cases this
  exact ⟨h4.lt, h5, h6⟩
/-- it stays where nothing but block k (none of its own) turns -/
theorem grown (h : FRows w B G tO e cap vals rows) {k : Option Nat} (hg : w.grownBy w' k) (hk : k ≠ some G) (hne : ∀ (i g : Nat) (u : Value), vals[i]? = some u → u.ownBlock = some g → k ≠ some g) : FRows w' B G tO e cap vals rows :=
  { h with
    outer := h.outer.grown hg hk
    row := fun i u r hu hr => by
      obtain ⟨g, c, rfl, h4, h5, h6⟩ := h.row i u r hu hr
      exact ⟨g, c, rfl, h4.grown hg (hne i g _ hu rfl), h5, h6⟩ }
theorem ext (h : FRows w B G tO e cap vals rows) (hb : Below w.heap.size w w') : FRows w' B G tO e cap vals rows :=
  { h with
    outer := h.outer.below hb h.outer.lt
    row := fun i u r hu hr => by
      obtain ⟨g, c, rfl, h4, h5, h6⟩ := h.row i u r hu hr
      exact ⟨g, c, rfl, h4.below hb h4.lt, h5, h6⟩ }
theorem mono (h : FRows w B G tO e cap vals rows) {B' : Nat} (hB : B' ≤ B) : FRows w B' G tO e cap vals rows :=
  { h with
    row := fun i u r hu hr => by
      obtain ⟨g, c, h3, h4, h5, h6⟩ := h.row i u r hu hr
      exact ⟨g, c, h3, h4, by omega, h6⟩
    lo := by have := h.lo; omega }
/-- a slice comes behind the others -/
theorem push (h : FRows w B G tO e cap vals rows) {g c : Nat} {r : List Value} (hr : Row w g e 1 c r) (hB : B ≤ g) (hG : g ≠ G) (hnew : ∀ (i : Nat) (u : Value), vals[i]? = some u → u.ownBlock ≠ some g)
    {G' cap' : Nat} (ho : Row w' G' tO 1 cap' (vals ++ [.slice (some ⟨g, 0, none⟩) r.length c])) (hgr : w.grownBy w' (some G)) (hG' : some G = some G' ∨ w.heap.size ≤ G') :
    FRows w' B G' tO e cap' (vals ++ [.slice (some ⟨g, 0, none⟩) r.length c]) (rows ++ [r]) := by
  have hne : ∀ k, k < w.heap.size → k ≠ G → k ≠ G' := fun k hk hkG e => by
    rcases hG' with h1 | h1
    · have := Option.some.inj h1; omega
    · omega
  have hnth : ∀ (i : Nat) (u : Value), (vals ++ [.slice (some ⟨g, 0, none⟩) r.length c])[i]? = some u → (i < vals.length ∧ vals[i]? = some u) ∨ (i = vals.length ∧ u = .slice (some ⟨g, 0, none⟩) r.length c) := by
    intro i u hu
    by_cases hi : i < vals.length
    · rw [List.getElem?_append_left hi] at hu; exact .inl ⟨hi, hu⟩
    · have h1 := (List.getElem?_eq_some_iff.1 hu).1
      simp at h1
      obtain rfl : i = vals.length := by omega
      simp at hu
      exact .inr ⟨rfl, hu.symm⟩
  refine ⟨by simp [h.len], ho, ?_, ?_, ?_⟩
  · intro i u r' hu hr'
    rcases hnth i u hu with ⟨hi, hu'⟩ | ⟨rfl, rfl⟩
    · rw [List.getElem?_append_left (by rw [← h.len]; exact hi)] at hr'
      obtain ⟨g', c', rfl, h4, h5, h6⟩ := h.row i u r' hu' hr'
      exact ⟨g', c', rfl, h4.grown hgr (by simp; exact fun e => h6 e.symm), h5, hne g' h4.lt h6⟩
    · rw [h.len] at hr'
      simp at hr'
      subst hr'
      exact ⟨g, c, rfl, hr.grown hgr (by simp; exact fun e => hG e.symm), hB, hne g hr.lt hG⟩
  · intro i j k u v hij hu hv hk
    rcases hnth i u hu with ⟨hi, hu'⟩ | ⟨hi, rfl⟩
    · rcases hnth j v hv with ⟨hj, hv'⟩ | ⟨hj, rfl⟩
      · exact h.apart i j k u v hij hu' hv' hk
      · intro e
        have : some g = some k := e
        cases this
        exact hnew i u hu' hk
    · rcases hnth j v hv with ⟨hj, hv'⟩ | ⟨hj, rfl⟩
      · have : some g = some k := hk
        cases this
        exact hnew j v hv'
      · omega
  · rcases hG' with h1 | h1
    · have := Option.some.inj h1; have := h.lo; omega
    · have := h.outer.lt; have := h.lo; omega
end FRows
end Go.Proofs.Ytddndhhhmlcgjaa
