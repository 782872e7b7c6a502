/- Lists of lists of links, in memory of the call's own. -/
import Derived.Test.YtagcbnpahgfgmaaLkS
namespace Go.Proofs.Ytagcbnpahgfgmaa
open Go Go.RowKit

theorem links_info : (Try.prog.info? 22).map (fun i => (i.zero, i.size, i.bytes)) = some (some (.slice none 0 0), 1, 24) := by kernel_rfl

theorem OwnL.lt {w : World} {v : Value} {ls : List Lk} (h : OwnL w v ls) {g : Nat} (hg : v.ownBlock = some g) : g < w.heap.size := Own.lt h hg
theorem OwnL.grown {w w' : World} {v : Value} {ls : List Lk} (h : OwnL w v ls) {k : Option Nat} (hg : w.grownBy w' k) (hne : ∀ g, v.ownBlock = some g → k ≠ some g) : OwnL w' v ls :=
  Own.below h fun g e => hg.block g (h.lt e) (fun e' => hne g e e'.symm)
theorem Own.grown {w w' : World} {v : Value} {e : TypeId} {s n : Nat} {vs : List Value} (h : Own w v e s n vs) {k : Option Nat} (hg : w.grownBy w' k) (hne : ∀ g, v.ownBlock = some g → k ≠ some g) : Own w' v e s n vs :=
  Own.below h fun g e' => hg.block g (h.lt e') (fun e'' => hne g e' e''.symm)

/-- 'vo' is a slice of slices of links, all of the call's own, that read as gs; no two share a block; all lie from B on. -/
structure LRows (w : World) (B : Nat) (vo : Value) (vals : List Value) (gs : List (List Lk)) : Prop where
  len : vals.length = gs.length
  outer : Own w vo 22 1 vals.length vals
  lo : ∀ g, vo.ownBlock = some g → B ≤ g
  row : ∀ (i : Nat) (u : Value) (r : List Lk), vals[i]? = some u → gs[i]? = some r → OwnL w u r
  rlo : ∀ (i : Nat) (u : Value) (g : Nat), vals[i]? = some u → u.ownBlock = some g → B ≤ g ∧ vo.ownBlock ≠ some g
  apart : ∀ (i j g : Nat) (u v : Value), i ≠ j → vals[i]? = some u → vals[j]? = some v → u.ownBlock = some g → v.ownBlock ≠ some g
namespace LRows
variable {w w' : World} {B : Nat} {vo : Value} {vals : List Value} {gs : List (List Lk)}
theorem start (w : World) (B : Nat) : LRows w B (.slice none 0 0) [] [] :=
  ⟨rfl, own_nil _ _ _, fun g hg => by simp [Value.ownBlock] at hg, fun i u r hu => by simp at hu, fun i u g hu => by simp at hu, fun i j g u v _ hu => by simp at hu⟩
theorem rlt (h : LRows w B vo vals gs) {i : Nat} {u : Value} {g : Nat} (hu : vals[i]? = some u) (hg : u.ownBlock = some g) : g < w.heap.size := by
  have hi : i < gs.length := by rw [← h.len]; exact (List.getElem?_eq_some_iff.1 hu).1
  exact (h.row i u gs[i] hu (by simp)).lt hg
/-- it stays where nothing but block k, none of its own, turns -/
theorem grown (h : LRows w B vo vals gs) {k : Option Nat} (hg : w.grownBy w' k) (ho : ∀ g, vo.ownBlock = some g → k ≠ some g) (hr : ∀ (i : Nat) (u : Value) (g : Nat), vals[i]? = some u → u.ownBlock = some g → k ≠ some g) : LRows w' B vo vals gs :=
  { h with outer := h.outer.grown hg ho, row := fun i u r hu hgr => (h.row i u r hu hgr).grown hg (fun g e => hr i u g hu e) }
theorem ext (h : LRows w B vo vals gs) (hb : Below w.heap.size w w') : LRows w' B vo vals gs :=
  h.grown (k := none) ⟨hb.os, hb.tape, hb.output, hb.size, fun i hi _ => hb.block i hi⟩ (fun _ _ => by simp) (fun _ _ _ _ _ => by simp)
theorem other (h : LRows w B vo vals gs) {a : Addr} (x : Value) (ha : a.block < B) : LRows (w.setCell a x) B vo vals gs :=
  h.grown (k := some a.block) ⟨rfl, rfl, rfl, by simp [World.setCell], fun k _ hne => Below.heap_setCell w a x k (fun e => hne (by rw [e]))⟩ (fun g hg e => by have := h.lo g hg; cases e; omega) (fun i u g hu hg e => by have := (h.rlo i u g hu hg).1; cases e; omega)
/-- a list comes behind the others -/
theorem push (h : LRows w B vo vals gs) {u : Value} {r : List Lk} (hu : OwnL w u r) (hul : ∀ g, u.ownBlock = some g → B ≤ g ∧ vo.ownBlock ≠ some g ∧ ∀ (i : Nat) (v : Value), vals[i]? = some v → v.ownBlock ≠ some g)
    {G cap : Nat} (hrow : Row w' G 22 1 cap (vals ++ [u])) (hc : vals.length + 1 ≤ cap) (hg : w.grownBy w' vo.ownBlock) (hor : vo.ownBlock = some G ∨ w.heap.size ≤ G) (hB : B ≤ w.heap.size) :
    LRows w' B (.slice (some ⟨G, 0, none⟩) (vals.length + 1) cap) (vals ++ [u]) (gs ++ [r]) := by
  have hnth : ∀ (i : Nat) (v : Value), (vals ++ [u])[i]? = some v → (i < vals.length ∧ vals[i]? = some v) ∨ (i = vals.length ∧ v = u) := by
    intro i v hv
    by_cases hi : i < vals.length
    · rw [List.getElem?_append_left hi] at hv; exact .inl ⟨hi, hv⟩
    · have h1 := (List.getElem?_eq_some_iff.1 hv).1
      simp at h1
      obtain rfl : i = vals.length := by omega
      simp at hv
      exact .inr ⟨rfl, hv.symm⟩
  have hGne : ∀ g, g < w.heap.size → vo.ownBlock ≠ some g → G ≠ g := fun g hg1 hne e => by
    rcases hor with h1 | h1
    · exact hne (by rw [h1, e])
    · omega
  refine ⟨by simp [h.len], ⟨by simp, .inr ⟨G, cap, by simp, by simpa using hc, hrow⟩⟩, fun g hg => ?_, fun i v r' hv hr' => ?_, fun i v g hv hgv => ?_, fun i j g x y hij hx hy hgx => ?_⟩
  · cases hg
    rcases hor with h1 | h1
    · exact h.lo _ h1
    · exact Nat.le_trans hB h1
  · rcases hnth i v hv with ⟨hi, hv'⟩ | ⟨rfl, rfl⟩
    · rw [List.getElem?_append_left (by rw [← h.len]; exact hi)] at hr'
      exact (h.row i v r' hv' hr').grown hg (fun g e => (h.rlo i v g hv' e).2)
    · rw [h.len] at hr'
      simp at hr'
      subst hr'
      exact hu.grown hg (fun g e => (hul g e).2.1)
  · have hne : g ≠ G → (Value.slice (some ⟨G, 0, none⟩) (vals.length + 1) cap).ownBlock ≠ some g := fun hne e => by cases e; exact hne rfl
    rcases hnth i v hv with ⟨hi, hv'⟩ | ⟨rfl, rfl⟩
    · obtain ⟨h1, h2⟩ := h.rlo i v g hv' hgv
      exact ⟨h1, hne (hGne g (h.rlt hv' hgv) h2).symm⟩
    · obtain ⟨h1, h2, _⟩ := hul g hgv
      exact ⟨h1, hne (hGne g (hu.lt hgv) h2).symm⟩
  · rcases hnth i x hx with ⟨hi, hx'⟩ | ⟨rfl, rfl⟩
    · rcases hnth j y hy with ⟨hj, hy'⟩ | ⟨rfl, rfl⟩
      · exact h.apart i j g x y hij hx' hy' hgx
      · intro e
        exact (hul g e).2.2 i x hx' hgx
    · rcases hnth j y hy with ⟨hj, hy'⟩ | ⟨rfl, rfl⟩
      · exact (hul g hgx).2.2 j y hy'
      · exact absurd rfl hij
/-- one list has been appended to, and the new slice is stored back -/
theorem stored (h : LRows w B vo vals gs) {G n cap : Nat} (hvo : vo = .slice (some ⟨G, 0, none⟩) n cap) {i : Nat} {u : Value} {r r' : List Lk} (hu : vals[i]? = some u) (_hr : gs[i]? = some r)
    {g' c' : Nat} (hrow : Row w' g' 25 3 c' (lkCells r')) (hc : r'.length ≤ c') (hg : w.grownBy w' u.ownBlock) (hor : u.ownBlock = some g' ∨ w.heap.size ≤ g') (hB : B ≤ w.heap.size) :
    LRows (w'.setCell ⟨G, i, none⟩ (.slice (some ⟨g', 0, none⟩) r'.length c')) B vo (vals.set i (.slice (some ⟨g', 0, none⟩) r'.length c')) (gs.set i r') := by
  have hi : i < vals.length := (List.getElem?_eq_some_iff.1 hu).1
  have hvb : vo.ownBlock = some G := by rw [hvo]; rfl
  have hGlt : G < w.heap.size := by
    rcases h.outer.2 with ⟨e, _⟩ | ⟨G', cap', e, _, hr⟩
    · rw [e] at hvo; cases hvo
    · rw [e] at hvo; cases hvo; exact hr.lt
  have hug : u.ownBlock ≠ some G := fun e => (h.rlo i u G hu e).2 hvb
  have hgG : g' ≠ G := fun e => by
    rcases hor with h1 | h1
    · exact hug (by rw [h1, e])
    · omega
  have hother : ∀ (j : Nat) (v : Value) (g : Nat), j ≠ i → vals[j]? = some v → v.ownBlock = some g → g ≠ g' := by
    intro j v g hne hv hgv e
    subst e
    rcases hor with h1 | h1
    · exact h.apart j i g v u hne hv hu hgv h1
    · have := h.rlt hv hgv; omega
  refine ⟨by simpa using h.len, ?_, h.lo, ?_, ?_, ?_⟩
  · have h1 := h.outer.grown hg (fun g e => by rw [hvb] at e; cases e; exact hug)
    rw [hvo] at h1 ⊢
    rcases h1.2 with ⟨e, _⟩ | ⟨G', cap', e, hcc, hr⟩
    · cases e
    · cases e
      refine ⟨by simp, .inr ⟨G, cap, by rw [List.length_set], by rw [List.length_set]; exact hcc, hr.set i _⟩⟩
  · intro j v r1 hv hr1
    rw [List.getElem?_set] at hv hr1
    by_cases e : i = j
    · subst e
      rw [if_pos rfl, if_pos hi] at hv
      rw [if_pos rfl, if_pos (by rw [← h.len]; exact hi)] at hr1
      cases hv; cases hr1
      exact (hrow.other (a := ⟨G, i, none⟩) hgG _).own (lkCells_length _) hc
    · rw [if_neg e] at hv hr1
      have h1 := (h.row j v r1 hv hr1).grown hg (fun g eg e' => h.apart i j g u v e hu hv e' eg)
      refine h1.grown (k := some G) ⟨rfl, rfl, rfl, by simp [World.setCell], fun k _ hne => Below.heap_setCell w' ⟨G, i, none⟩ _ k (fun e => hne (by rw [e]))⟩ (fun g eg e' => ?_)
      cases e'
      exact (h.rlo j v G hv eg).2 hvb
  · intro j v g hv hgv
    rw [List.getElem?_set] at hv
    by_cases e : i = j
    · subst e
      rw [if_pos rfl, if_pos hi] at hv
      cases hv
      cases hgv
      refine ⟨?_, fun e' => ?_⟩
      · rcases hor with h1 | h1
        · exact (h.rlo i u g' hu h1).1
        · exact Nat.le_trans hB h1
      · rw [hvb] at e'; cases e'; exact hgG rfl
    · rw [if_neg e] at hv
      exact h.rlo j v g hv hgv
  · intro p q g x y hpq hx hy hgx
    rw [List.getElem?_set] at hx hy
    by_cases e1 : i = p
    · subst e1
      rw [if_pos rfl, if_pos hi] at hx
      cases hx
      cases hgx
      rw [if_neg hpq] at hy
      exact fun e => hother q y g' hpq.symm hy e rfl
    · rw [if_neg e1] at hx
      by_cases e2 : i = q
      · subst e2
        rw [if_pos rfl, if_pos hi] at hy
        cases hy
        intro e; cases e
        exact hother p x g' hpq hx hgx rfl
      · rw [if_neg e2] at hy
        exact h.apart p q g x y hpq hx hy hgx
end LRows

/-- What 'Groups' hands back. -/
def RetGs (w : World) (gs : List (List Lk)) (e : Ending) (w' : World) : Prop :=
  ∃ vo vals, e = .returned vo ∧ LRows w' w.heap.size vo vals gs ∧ Below w.heap.size w w'
/-- a slice of slices of links, wherever it lies -/
def RdLs (w : World) (a : Option Addr) (gs : List (List Lk)) : Prop := ∀ (i : Nat) (r : List Lk), gs[i]? = some r →
  ∃ b o au cu, a = some ⟨b, o, none⟩ ∧ w.cell? ⟨b, o + i, none⟩ = some (.slice au r.length cu) ∧ RdL w au r ∧ r.length ≤ cu ∧ cu ≤ maxLen
theorem RdLs.below {w w' : World} {a : Option Addr} {gs : List (List Lk)} (h : RdLs w a gs) (hb : Below w.heap.size w w') : RdLs w' a gs := fun i r hr => by
  obtain ⟨b, o, au, cu, h1, h2, h3, h4⟩ := h i r hr
  exact ⟨b, o, au, cu, h1, keep_cell hb h2, h3.below hb, h4⟩
theorem LRows.read {w : World} {B : Nat} {vo : Value} {vals : List Value} {gs : List (List Lk)} (h : LRows w B vo vals gs) : ∃ a c, vo = .slice a gs.length c ∧ RdLs w a gs ∧ gs.length ≤ c ∧ c ≤ maxLen := by
  rcases h.outer.2 with ⟨rfl, h0⟩ | ⟨G, cap, rfl, hc, hr⟩
  · have : gs = [] := List.eq_nil_of_length_eq_zero (by rw [← h.len]; exact h0)
    subst this
    exact ⟨none, 0, rfl, fun i r hr => by simp at hr, by simp, by unfold maxLen; omega⟩
  · refine ⟨some ⟨G, 0, none⟩, cap, by rw [h.len], fun i r hgr => ?_, by rw [← h.len]; exact hc, hr.cap_le⟩
    have hi : i < vals.length := by rw [h.len]; exact (List.getElem?_eq_some_iff.1 hgr).1
    obtain ⟨u, hu⟩ : ∃ u, vals[i]? = some u := ⟨vals[i], by simp⟩
    obtain ⟨au, cu, rfl, h3, _, h4, h5⟩ := (h.row i u r hu hgr).read
    exact ⟨G, 0, au, cu, rfl, by rw [Nat.zero_add, hr.cell? i hi, hu], h3, h5, h4⟩
end Go.Proofs.Ytagcbnpahgfgmaa
