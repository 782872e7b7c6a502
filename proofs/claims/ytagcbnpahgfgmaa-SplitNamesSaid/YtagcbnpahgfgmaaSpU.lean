/- Lists of lists of links that are only read, in a slice of the call's own. -/
import Derived.Test.YtagcbnpahgfgmaaSpV
import Derived.Test.YtagcbnpahgfgmaaPaF
namespace Go.Proofs.Ytagcbnpahgfgmaa
open Go Go.RowKit

theorem RdL.grown {w w' : World} {a : Option Addr} {ls : List Lk} (h : RdL w a ls) {k : Option Nat} (hg : w.grownBy w' k) (hne : ∀ ad, a = some ad → k ≠ some ad.block) : RdL w' a ls := by
  intro i u hu
  obtain ⟨b, o, e, hc⟩ := h i u hu
  exact ⟨b, o, e, grown_cell hg hc (hne _ e)⟩
/-- no list lies in block g -/
def FreeB (vals : List Value) (g : Nat) : Prop := ∀ (i : Nat) a n c ad, vals[i]? = some (.slice a n c) → a = some ad → ad.block ≠ g
structure PRows (w : World) (B : Nat) (vo : Value) (vals : List Value) (gs : List (List Lk)) : Prop where
  len : vals.length = gs.length
  outer : Own w vo 22 1 vals.length vals
  lo : ∀ g, vo.ownBlock = some g → B ≤ g
  row : ∀ (i : Nat) r, gs[i]? = some r → ∃ a c, vals[i]? = some (.slice a r.length c) ∧ RdL w a r ∧ r.length ≤ c ∧ c ≤ maxLen ∧ ∀ ad, a = some ad → ad.block < w.heap.size
namespace PRows
variable {w w' : World} {B : Nat} {vo : Value} {vals : List Value} {gs : List (List Lk)}
theorem start (w : World) (B : Nat) : PRows w B (.slice none 0 0) [] [] := ⟨rfl, own_nil _ _ _, fun g hg => by simp [Value.ownBlock] at hg, fun i r hr => by simp at hr⟩
theorem grown (h : PRows w B vo vals gs) {k : Option Nat} (hg : w.grownBy w' k) (ho : ∀ g, vo.ownBlock = some g → k ≠ some g) (hf : ∀ g, k = some g → FreeB vals g) : PRows w' B vo vals gs :=
  ⟨h.len, h.outer.grown hg ho, h.lo, fun i r hr => by
    obtain ⟨a, c, h1, h2, h3, h4, h5⟩ := h.row i r hr
    exact ⟨a, c, h1, h2.grown hg (fun ad ha hk => hf _ hk i a _ c ad h1 ha rfl), h3, h4, fun ad ha => by have := h5 ad ha; have := hg.size; omega⟩⟩
theorem ext (h : PRows w B vo vals gs) (hb : Below w.heap.size w w') : PRows w' B vo vals gs :=
  h.grown (k := none) ⟨hb.os, hb.tape, hb.output, hb.size, fun i hi _ => hb.block i hi⟩ (fun _ _ => by simp) (fun _ hk => by cases hk)
theorem free_new (h : PRows w B vo vals gs) {g : Nat} (hg : w.heap.size ≤ g) : FreeB vals g := fun i a n c ad hv ha e => by
  have hi := (List.getElem?_eq_some_iff.1 hv).1
  rw [h.len] at hi
  obtain ⟨a', c', h1, _, _, _, h5⟩ := h.row i gs[i] (List.getElem?_eq_getElem hi)
  rw [hv] at h1
  cases h1
  have := h5 ad ha
  omega
/-- the last one is taken -/
theorem pop {g n cap : Nat} {u : Value} {r : List Lk} (h : PRows w B (.slice (some ⟨g, 0, none⟩) n cap) (vals ++ [u]) (gs ++ [r])) :
    PRows w B (.slice (some ⟨g, 0, none⟩) vals.length cap) vals gs ∧ vals.length = gs.length ∧ n = vals.length + 1 ∧ ∃ a c, u = .slice a r.length c ∧ RdL w a r ∧ r.length ≤ c ∧ c ≤ maxLen ∧ ∀ ad, a = some ad → ad.block < w.heap.size := by
  have hl := h.len
  simp at hl
  rcases h.outer.2 with ⟨e, _⟩ | ⟨g', cap', e, hc, hr⟩
  · cases e
  · cases e
    have hr2 : Row w g 22 1 cap vals := by
      have := hr.take vals.length
      rwa [List.take_left] at this
    refine ⟨⟨hl, ⟨by simp, .inr ⟨g, cap, rfl, by simp at hc; omega, hr2⟩⟩, h.lo, fun i q hq => ?_⟩, hl, by simp, ?_⟩
    · have hi := (List.getElem?_eq_some_iff.1 hq).1
      obtain ⟨a, c, h1, h2⟩ := h.row i q (by rw [List.getElem?_append_left hi]; exact hq)
      rw [List.getElem?_append_left (by omega)] at h1
      exact ⟨a, c, h1, h2⟩
    · obtain ⟨a, c, h1, h2⟩ := h.row gs.length r (by simp)
      rw [← hl] at h1
      simp at h1
      exact ⟨a, c, h1, h2⟩
/-- one comes behind -/
theorem push (h : PRows w B vo vals gs) {a : Option Addr} {c : Nat} {r : List Lk} (hr : RdL w a r) (hc1 : r.length ≤ c) (hc2 : c ≤ maxLen) (hlt : ∀ ad, a = some ad → ad.block < w.heap.size)
    {G cap : Nat} (hrow : Row w' G 22 1 cap (vals ++ [.slice a r.length c])) (hc : vals.length + 1 ≤ cap) (hg : w.grownBy w' vo.ownBlock) (hor : vo.ownBlock = some G ∨ w.heap.size ≤ G) (hB : B ≤ w.heap.size)
    (hf : ∀ g, vo.ownBlock = some g → FreeB vals g) (hfa : ∀ g, vo.ownBlock = some g → ∀ ad, a = some ad → ad.block ≠ g) :
    PRows w' B (.slice (some ⟨G, 0, none⟩) (vals.length + 1) cap) (vals ++ [.slice a r.length c]) (gs ++ [r]) := by
  refine ⟨by simp [h.len], ⟨by simp, .inr ⟨G, cap, by simp, by simpa using hc, hrow⟩⟩, fun g hg' => ?_, fun i q hq => ?_⟩
  · cases hg'
    rcases hor with h1 | h1
    · exact h.lo _ h1
    · exact Nat.le_trans hB h1
  · by_cases hi : i < gs.length
    · rw [List.getElem?_append_left hi] at hq
      obtain ⟨a', c', h1, h2, h3, h4, h5⟩ := h.row i q hq
      refine ⟨a', c', by rw [List.getElem?_append_left (by rw [h.len]; exact hi)]; exact h1, h2.grown hg (fun ad ha hk => hf _ hk i a' _ c' ad h1 ha rfl), h3, h4, fun ad ha => by have := h5 ad ha; have := hg.size; omega⟩
    · have h1 := (List.getElem?_eq_some_iff.1 hq).1
      simp at h1
      obtain rfl : i = gs.length := by omega
      simp at hq
      subst hq
      exact ⟨a, c, by rw [← h.len]; simp, hr.grown hg (fun ad ha hk => hfa _ hk ad ha rfl), hc1, hc2, fun ad ha => by have := hlt ad ha; have := hg.size; omega⟩
theorem read (h : PRows w B vo vals gs) : ∃ a c, vo = .slice a gs.length c ∧ RdLs w a gs ∧ gs.length ≤ c ∧ c ≤ maxLen := by
  rcases h.outer.2 with ⟨rfl, h0⟩ | ⟨G, cap, rfl, hc, hr⟩
  · have : gs = [] := List.eq_nil_of_length_eq_zero (by rw [← h.len]; exact h0)
    subst this
    exact ⟨none, 0, rfl, fun i r hr => by simp at hr, by simp, by unfold maxLen; omega⟩
  · refine ⟨some ⟨G, 0, none⟩, cap, by rw [h.len], fun i r hgr => ?_, by rw [← h.len]; exact hc, hr.cap_le⟩
    obtain ⟨a, c, h1, h2, h3, h4, _⟩ := h.row i r hgr
    have hi : i < vals.length := by rw [h.len]; exact (List.getElem?_eq_some_iff.1 hgr).1
    exact ⟨G, 0, a, c, rfl, by rw [Nat.zero_add, hr.cell? i hi, h1], h2, h3, h4⟩
end PRows
theorem FreeB.app {vals : List Value} {g : Nat} (h : FreeB vals g) {a : Option Addr} {n c : Nat} (ha : ∀ ad, a = some ad → ad.block ≠ g) : FreeB (vals ++ [.slice a n c]) g := by
  intro i a' n' c' ad hv he
  by_cases hi : i < vals.length
  · rw [List.getElem?_append_left hi] at hv
    exact h i a' n' c' ad hv he
  · have h1 := (List.getElem?_eq_some_iff.1 hv).1
    simp at h1
    obtain rfl : i = vals.length := by omega
    simp at hv
    obtain ⟨rfl, _, _⟩ := hv
    exact ha ad he
theorem FreeB.sub {vals : List Value} {u : Value} {g : Nat} (h : FreeB (vals ++ [u]) g) : FreeB vals g := fun i a n c ad hv he =>
  h i a n c ad (by rw [List.getElem?_append_left (List.getElem?_eq_some_iff.1 hv).1]; exact hv) he
theorem FreeB.last {vals : List Value} {a : Option Addr} {n c g : Nat} (h : FreeB (vals ++ [.slice a n c]) g) : ∀ ad, a = some ad → ad.block ≠ g := fun ad he => h vals.length a n c ad (by simp) he
theorem FreeB.nil (g : Nat) : FreeB [] g := fun i a n c ad hv => by simp at hv
end Go.Proofs.Ytagcbnpahgfgmaa
