/- The walk of a part, as a plain function. -/
import Derived.Test.YtddndhhhmlcgjaaPlain
namespace Go.Proofs.Ytddndhhhmlcgjaa

/-- who is next: the first one beside v that was not met -/
def fresh (bs : List (List Nat)) (order : List Nat) (v : Nat) : Option Nat := (bs.getD v []).find? fun x => !order.contains x

/-- order: those met; opn: those that are open, the youngest first; up: from whom. -/
def dfs (bs : List (List Nat)) : Nat → List Nat → List Nat → List Int → List Nat × List Int
  | 0, order, _, up => (order, up)
  | _ + 1, order, [], up => (order, up)
  | f + 1, order, v :: o, up => match fresh bs order v with
    | some x => dfs bs f (order ++ [x]) (x :: v :: o) (up.set x (v : Int))
    | none => dfs bs f order o up

def walkL (bs : List (List Nat)) (start : Nat) : List Nat × List Int := dfs bs (2 * bs.length) [start] [start] (List.replicate bs.length (-1))

theorem fresh_some {bs : List (List Nat)} {order : List Nat} {v x : Nat} (h : fresh bs order v = some x) : x ∈ bs.getD v [] ∧ x ∉ order := by
  unfold fresh at h
  refine ⟨List.mem_of_find?_eq_some h, ?_⟩
  have := List.find?_some h
  simpa using this

/-- where the search of one that was not met stands: those ahead of t were met. -/
theorem fresh_at {bs : List (List Nat)} {order : List Nat} {v t : Nat} {r : List Nat} (hr : bs.getD v [] = r) (hmet : ∀ j, j < t → ∀ x, r[j]? = some x → x ∈ order) {x : Nat} (ht : r[t]? = some x) (hx : x ∉ order) :
    fresh bs order v = some x := by
  unfold fresh
  rw [hr]
  have hlt : t < r.length := (List.getElem?_eq_some_iff.1 ht).1
  rw [List.find?_eq_some_iff_getElem]
  refine ⟨by simpa using hx, t, hlt, by rw [List.getElem?_eq_getElem hlt] at ht; simpa using ht, ?_⟩
  intro j hj
  have := hmet j hj r[j] (by simp)
  simpa using this
theorem fresh_none {bs : List (List Nat)} {order : List Nat} {v : Nat} {r : List Nat} (hr : bs.getD v [] = r) (hmet : ∀ x ∈ r, x ∈ order) : fresh bs order v = none := by
  unfold fresh
  rw [hr, List.find?_eq_none]
  intro x hx
  simpa using hmet x hx
/-- What stands at the head of the outer loop, r rounds being to come. -/
structure WInv (bs : List (List Nat)) (n r : Nat) (order opn : List Nat) (up : List Int) (met : List Bool) (tried : List Nat) (fin : List Nat × List Int) : Prop where
  go : dfs bs r order opn up = fin
  rank : 2 * met.count false + opn.length ≤ r
  ol : order.length + r ≤ 2 * n + 1
  inO : ∀ x ∈ order, x < n
  inP : ∀ x ∈ opn, x < n
  metS : ∀ x, x < n → met[x]? = some (order.contains x)
  triedS : ∀ v, v < n → ∃ t, tried[v]? = some t ∧ t ≤ (bs.getD v []).length ∧ ∀ j, j < t → ∀ x, (bs.getD v [])[j]? = some x → x ∈ order

theorem count_set_true {l : List Bool} {x : Nat} (h : l[x]? = some false) : (l.set x true).count false + 1 = l.count false := by
  obtain ⟨hx, h1⟩ := List.getElem?_eq_some_iff.1 h
  have h2 : 0 < l.count false := List.count_pos_iff.2 (by rw [← h1]; exact List.getElem_mem hx)
  rw [List.count_set hx, h1]
  simp
  omega

theorem WInv.start {bs : List (List Nat)} {n st : Nat} (hbl : bs.length = n) (hst : st < n) :
    WInv bs n (2 * n) [st] [st] (List.replicate n (-1)) ((List.replicate n false).set st true) (List.replicate n 0) (walkL bs st) where
  go := by unfold walkL; rw [hbl]
  rank := by
    have := count_set_true (l := List.replicate n false) (x := st) (by simp [hst])
    simp at this ⊢
    omega
  ol := by simp; omega
  inO x hx := by simp at hx; omega
  inP x hx := by simp at hx; omega
  metS x hx := by
    rw [List.getElem?_set]
    by_cases h : st = x
    · subst h; simp [hst]
    · rw [if_neg h]; simp [hx, Ne.symm h]
  triedS v hv := ⟨0, by simp [hv], Nat.zero_le _, fun j hj => absurd hj (by omega)⟩

theorem WInv.finish {bs : List (List Nat)} {n r : Nat} {order : List Nat} {up : List Int} {met : List Bool} {tried : List Nat} {fin : List Nat × List Int} (h : WInv bs n r order [] up met tried fin) : fin = (order, up) := by
  rw [← h.go]
  cases r <;> rfl

/-- the pointer moves on over one that was met -/
theorem WInv.next {bs : List (List Nat)} {n r : Nat} {order opn : List Nat} {up : List Int} {met : List Bool} {tried : List Nat} {fin : List Nat × List Int} (h : WInv bs n r order opn up met tried fin)
    {v t x : Nat} (hv : v < n) (htl : tried.length = n) (ht : tried[v]? = some t) (hx : (bs.getD v [])[t]? = some x) (hm : x ∈ order) : WInv bs n r order opn up met (tried.set v (t + 1)) fin :=
  { h with
    triedS := by
      intro v' hv'
      by_cases hvv : v = v'
      · subst hvv
        obtain ⟨t', ht', h1, h2⟩ := h.triedS v hv
        rw [ht] at ht'; cases ht'
        refine ⟨t + 1, by simp [htl, hv], (List.getElem?_eq_some_iff.1 hx).1, fun j hj y hy => ?_⟩
        by_cases hjt : j < t
        · exact h2 j hjt y hy
        · obtain rfl : j = t := by omega
          rw [hx] at hy; cases hy; exact hm
      · obtain ⟨t', ht', h1, h2⟩ := h.triedS v' hv'
        exact ⟨t', by rw [List.getElem?_set, if_neg hvv]; exact ht', h1, h2⟩ }

/-- one that was not met is met -/
theorem WInv.push {bs : List (List Nat)} {n r : Nat} {order o : List Nat} {v : Nat} {up : List Int} {met : List Bool} {tried : List Nat} {fin : List Nat × List Int} (h : WInv bs n (r + 1) order (v :: o) up met tried fin)
    {t x : Nat} (hv : v < n) (htl : tried.length = n) (ht : tried[v]? = some t) (hx : (bs.getD v [])[t]? = some x) (hxn : x < n) (hm : x ∉ order) :
    WInv bs n r (order ++ [x]) (x :: v :: o) (up.set x (v : Int)) (met.set x true) (tried.set v (t + 1)) fin := by
  obtain ⟨t', ht', h1, h2⟩ := h.triedS v hv
  rw [ht] at ht'; cases ht'
  have hfr := fresh_at (bs := bs) rfl h2 hx hm
  have hmx : met[x]? = some false := by rw [h.metS x hxn]; simpa using hm
  have hc := count_set_true hmx
  refine ⟨?_, ?_, ?_, ?_, ?_, ?_, ?_⟩
  · have hg := h.go
    rw [dfs, hfr] at hg
    exact hg
  · have := h.rank; simp at this ⊢; omega
  · have := h.ol; simp; omega
  · intro y hy
    rcases List.mem_append.1 hy with hy | hy
    · exact h.inO y hy
    · simp at hy; omega
  · intro y hy
    rcases List.mem_cons.1 hy with rfl | hy
    · exact hxn
    · exact h.inP y hy
  · intro y hy
    rw [List.getElem?_set]
    by_cases hxy : x = y
    · subst hxy
      have : x < met.length := (List.getElem?_eq_some_iff.1 hmx).1
      rw [if_pos rfl, if_pos this]; simp
    · rw [if_neg hxy, h.metS y hy]; simp [Ne.symm hxy]
  · intro v' hv'
    by_cases hvv : v = v'
    · subst hvv
      refine ⟨t + 1, by simp [htl, hv], (List.getElem?_eq_some_iff.1 hx).1, fun j hj y hy => ?_⟩
      by_cases hjt : j < t
      · exact List.mem_append_left _ (h2 j hjt y hy)
      · obtain rfl : j = t := by omega
        rw [hx] at hy; cases hy; simp
    · obtain ⟨t', ht', h3, h4⟩ := h.triedS v' hv'
      exact ⟨t', by rw [List.getElem?_set, if_neg hvv]; exact ht', h3, fun j hj y hy => List.mem_append_left _ (h4 j hj y hy)⟩

/-- all beside v were met -/
theorem WInv.pop {bs : List (List Nat)} {n r : Nat} {order o : List Nat} {v : Nat} {up : List Int} {met : List Bool} {tried : List Nat} {fin : List Nat × List Int} (h : WInv bs n (r + 1) order (v :: o) up met tried fin)
    {t : Nat} (hv : v < n) (ht : tried[v]? = some t) (hx : ¬ t < (bs.getD v []).length) : WInv bs n r order o up met tried fin := by
  obtain ⟨t', ht', h1, h2⟩ := h.triedS v hv
  rw [ht] at ht'; cases ht'
  have hfr : fresh bs order v = none := fresh_none rfl (by
    intro y hy
    obtain ⟨j, hj, rfl⟩ := List.getElem_of_mem hy
    exact h2 j (by omega) _ (by simp))
  refine { h with go := ?_, rank := ?_, ol := ?_, inP := fun y hy => h.inP y (List.mem_cons_of_mem _ hy) }
  · have hg := h.go
    rw [dfs, hfr] at hg
    exact hg
  · have := h.rank; simp at this; omega
  · have := h.ol; omega
end Go.Proofs.Ytddndhhhmlcgjaa
