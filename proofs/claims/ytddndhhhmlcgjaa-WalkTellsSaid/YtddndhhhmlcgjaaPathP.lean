/- The least of the shortest ways, as a plain function. -/
import Derived.Test.YtddndhhhmlcgjaaDist
namespace Go.Proofs.Ytddndhhhmlcgjaa

def symB (bs : List (List Nat)) : Prop := ∀ u v, v ∈ bs.getD u [] → u ∈ bs.getD v []

theorem adj_sym {n : Nat} {es : List (Int × Int)} (h : rightB n es = true) : symB (besideL n es) := by
  obtain ⟨h0, h1, h2, h3, _⟩ := (rightB_iff _ _).1 h
  have key : ∀ u v : Nat, v ∈ adj es u → u ∈ adj es v ∧ v < n := by
    intro u v hv
    unfold adj at hv ⊢
    rw [List.mem_flatMap] at hv
    obtain ⟨e, he, hx⟩ := hv
    obtain ⟨k, hk, rfl⟩ := List.getElem_of_mem he
    have := h3 k hk
    unfold adj1 at hx
    rw [List.mem_flatMap]
    split at hx
    · simp at hx
      refine ⟨⟨es[k], he, ?_⟩, by omega⟩
      unfold adj1
      rw [if_neg (by omega), if_pos (by omega)]; simp; omega
    · split at hx
      · simp at hx
        refine ⟨⟨es[k], he, ?_⟩, by omega⟩
        unfold adj1
        rw [if_pos (by omega)]; simp; omega
      · simp at hx
  intro u v hv
  have hg : ∀ w : Nat, (besideL n es).getD w [] = if w < n then adj es w else [] := by
    intro w; simp only [List.getD, besideL_get]; split <;> simp
  rw [hg] at hv ⊢
  split at hv
  · obtain ⟨h4, h5⟩ := key u v hv
    rw [if_pos h5]; exact h4
  · simp at hv
theorem beside_lt {n : Nat} {es : List (Int × Int)} (h : rightB n es = true) : ∀ u, u < n → ∀ x ∈ (besideL n es).getD u [], x < n := by
  obtain ⟨h0, h1, h2, h3, _⟩ := (rightB_iff _ _).1 h
  intro u hu x hx
  simp only [List.getD, besideL_get, if_pos hu] at hx
  simp only [Option.getD_some] at hx
  unfold adj at hx
  rw [List.mem_flatMap] at hx
  obtain ⟨e, he, hx⟩ := hx
  obtain ⟨k, hk, rfl⟩ := List.getElem_of_mem he
  have := h3 k hk
  unfold adj1 at hx
  split at hx
  · simp at hx; omega
  · split at hx
    · simp at hx; omega
    · simp at hx
theorem away_dist {n : Nat} {es : List (Int × Int)} (h : rightB n es = true) {st : Nat} (hst : st < n) : IsDist (besideL n es) n st (awayL (besideL n es) st) :=
  awayL_dist (besideL_length n es) (beside_lt h) hst

def nxt (bs : List (List Nat)) (far : List Int) (v : Nat) : Option Nat := (bs.getD v []).find? fun w => far.getD w 0 == far.getD v 0 - 1
def pathRun (bs : List (List Nat)) (far : List Int) : Nat → Nat → List Nat → List Nat
  | 0, _, way => way
  | f + 1, v, way => match nxt bs far v with
    | some w => pathRun bs far f w (way ++ [w])
    | none => way
def pathL (bs : List (List Nat)) (st to : Nat) : List Nat := pathRun bs (awayL bs to) ((awayL bs to).getD st 0).toNat st [st]

/-- where the search for the next one stands -/
theorem nxt_at {bs : List (List Nat)} {far : List Int} {v j w : Nat} {r : List Nat} {x : Int} (hr : bs.getD v [] = r) (hx : far.getD v 0 = x) (hno : ∀ i, i < j → ∀ y, r[i]? = some y → far.getD y 0 ≠ x - 1) (hw : r[j]? = some w) (hfw : far.getD w 0 = x - 1) :
    nxt bs far v = some w := by
  unfold nxt
  rw [hr, hx]
  have hlt : j < r.length := (List.getElem?_eq_some_iff.1 hw).1
  rw [List.find?_eq_some_iff_getElem]
  refine ⟨by simpa using hfw, j, hlt, by rw [List.getElem?_eq_getElem hlt] at hw; simpa using hw, ?_⟩
  intro i hi
  have := hno i hi r[i] (by simp)
  simpa using this
theorem nxt_ex {bs : List (List Nat)} {n st : Nat} {far : List Int} (h : IsDist bs n st far) (hs : symB bs) {v : Nat} {x : Int} (hv : far[v]? = some x) (hx : 0 < x) : ∃ w ∈ bs.getD v [], far[w]? = some (x - 1) := by
  obtain ⟨u, h1, h2⟩ := h.up v x hv hx
  exact ⟨u, hs u v h1, h2⟩
theorem nxt_some {bs : List (List Nat)} {far : List Int} {v w : Nat} (h : nxt bs far v = some w) : w ∈ bs.getD v [] ∧ far.getD w 0 = far.getD v 0 - 1 := by
  unfold nxt at h
  refine ⟨List.mem_of_find?_eq_some h, ?_⟩
  have := List.find?_some h
  simpa using this
end Go.Proofs.Ytddndhhhmlcgjaa
