/- The document's walk is the program's: a plain law. -/
import Derived.Test.YtddndhhhmlcgjaaLongQ
import Derived.Test.YtddndhhhmlcgjaaRef1
namespace Go.Proofs.Ytddndhhhmlcgjaa

theorem next_fresh {n : Nat} {es : List (Int × Int)} (h : rightB (n : Int) es = true) {order : List Nat} {v : Nat} (hv : v < n) :
    nextI n es v (order.map fun (x : Nat) => (x : Int)) = match fresh (besideL n es) order v with | some x => (x : Int) | none => -1 := by
  have hc : ∀ k : Nat, (order.map fun (x : Nat) => (x : Int)).contains (k : Int) = order.contains k := by
    intro k
    rw [Bool.eq_iff_iff]
    simp only [List.contains_iff_mem, List.mem_map]
    constructor
    · rintro ⟨y, hy, e⟩; rw [show k = y by omega]; exact hy
    · intro hk; exact ⟨k, hk, rfl⟩
  cases hf : fresh (besideL n es) order v with
  | none =>
    have hno := fresh_nobody h hv hf
    refine next_none fun j hj => ?_
    rw [hc, has_adj h]
    by_cases hm : j ∈ adj es v
    · have := hno j hm; simp [this]
    · simp [hm]
  | some x =>
    obtain ⟨h1, h2, h3⟩ := fresh_least h hv hf
    have hx : x < n := by
      have := beside_lt h v hv x (by rw [beside_getD hv]; exact h1); exact this
    refine next_at hx (fun j hj => ?_) ?_
    · rw [hc, has_adj h]
      by_cases hm : j ∈ adj es v
      · by_cases ho : j ∈ order
        · simp [ho]
        · have := h3 j hm ho; omega
      · simp [hm]
    · rw [hc, has_adj h]; simp [h1, h2]

/-- K of those met are still to be asked. -/
def RInv (bs : List (List Nat)) (n st K : Nat) (order : List Nat) (up : List Int) (fin : List Nat × List Int) : Prop :=
  ∃ f opn, DInv bs n st f order opn up ∧ dfs bs f order opn up = fin ∧ opn.Sublist (order.take K).reverse ∧ K ≤ order.length

theorem RInv.start {bs : List (List Nat)} {n st : Nat} (hn : bs.length = n) (hst : st < n) : RInv bs n st 1 [st] (List.replicate n (-1)) (walkL bs st) := by
  refine ⟨2 * n, [st], ⟨by simp; omega, by simp; omega, rfl, by simp, by simp [hst], by simp, by simp [hst], ?_, ?_, by simp, trivial, ?_, ?_⟩, by unfold walkL; rw [hn], by simp, by simp⟩
  · intro x hx _; simp [hx]
  · intro i v h0 hv; rw [List.getElem?_eq_none (by simp; omega)] at hv; cases hv
  · intro x hx hxo; simp at hx hxo; exact absurd hx hxo
  · intro i j a b ha hb hij; rw [List.getElem?_eq_none (l := [st]) (by simp; omega)] at hb; cases hb

theorem RInv.finish {bs : List (List Nat)} {n st : Nat} {order : List Nat} {up : List Int} {fin : List Nat × List Int} (h : RInv bs n st 0 order up fin) : fin = (order, up) := by
  obtain ⟨f, opn, _, hd, hs, _⟩ := h
  have : opn = [] := by simpa using hs
  subst this
  rw [← hd]
  cases f <;> rfl

theorem RInv.split {bs : List (List Nat)} {n st k : Nat} {order : List Nat} {up : List Int} {fin : List Nat × List Int} (h : RInv bs n st (k + 1) order up fin) {v : Nat} (hv : order[k]? = some v) :
    (∃ f o, DInv bs n st (f + 1) order (v :: o) up ∧ dfs bs (f + 1) order (v :: o) up = fin ∧ o.Sublist (order.take k).reverse) ∨
    (∃ f opn, DInv bs n st f order opn up ∧ dfs bs f order opn up = fin ∧ opn.Sublist (order.take k).reverse ∧ v ∉ opn) := by
  obtain ⟨f, opn, hi, hd, hs, hK⟩ := h
  obtain ⟨hk, rfl⟩ := List.getElem?_eq_some_iff.1 hv
  rw [List.take_succ_eq_append_getElem hk, List.reverse_append, List.reverse_singleton, List.singleton_append] at hs
  have hnot : order[k] ∉ (order.take k).reverse := by
    rw [List.mem_reverse]
    intro hm
    obtain ⟨j, hj, hjx⟩ := List.mem_take_iff_getElem.1 hm
    have hj' := Nat.lt_min.1 hj
    have := List.pairwise_iff_getElem.1 hi.nd j k hj'.2 hk hj'.1
    exact this hjx
  cases hs with
  | cons _ hs => exact .inr ⟨f, opn, hi, hd, hs, fun hm => hnot (hs.subset hm)⟩
  | cons_cons _ hs =>
    rename_i o
    have hf : ∃ f', f = f' + 1 := ⟨f - 1, by have := hi.rank; simp at this; omega⟩
    obtain ⟨f', rfl⟩ := hf
    exact .inl ⟨f', o, hi, hd, hs⟩

theorem RInv.skip {bs : List (List Nat)} {n st k : Nat} {order : List Nat} {up : List Int} {fin : List Nat × List Int} (h : RInv bs n st (k + 1) order up fin) {v : Nat} (hv : order[k]? = some v) (hf : fresh bs order v = none) : RInv bs n st k order up fin := by
  have hK : k ≤ order.length := by obtain ⟨_, _, _, _, _, h⟩ := h; omega
  rcases h.split hv with ⟨f, o, hi, hd, hs⟩ | ⟨f, opn, hi, hd, hs, _⟩
  · refine ⟨f, o, hi.pop hf, ?_, hs, hK⟩
    rw [dfs, hf] at hd; exact hd
  · exact ⟨f, opn, hi, hd, hs, hK⟩

theorem RInv.push {bs : List (List Nat)} {n st k : Nat} {order : List Nat} {up : List Int} {fin : List Nat × List Int} (hbl : ∀ u, u < n → ∀ x ∈ bs.getD u [], x < n) (h : RInv bs n st (k + 1) order up fin) {v x : Nat} (hv : order[k]? = some v) (hf : fresh bs order v = some x) :
    RInv bs n st (order.length + 1) (order ++ [x]) (up.set x (v : Int)) fin := by
  rcases h.split hv with ⟨f, o, hi, hd, hs⟩ | ⟨f, opn, hi, hd, hs, hno⟩
  · refine ⟨f, x :: v :: o, hi.push hbl hf, ?_, ?_, by simp⟩
    · rw [dfs, hf] at hd; exact hd
    · rw [List.take_of_length_le (by simp), List.reverse_append, List.reverse_singleton, List.singleton_append]
      refine List.Sublist.cons_cons _ ?_
      obtain ⟨hk, rfl⟩ := List.getElem?_eq_some_iff.1 hv
      have h1 : (order[k] :: o).Sublist (order.take (k + 1)).reverse := by
        rw [List.take_succ_eq_append_getElem hk, List.reverse_append, List.reverse_singleton, List.singleton_append]
        exact List.Sublist.cons_cons _ hs
      exact h1.trans (List.reverse_sublist.2 (List.take_sublist _ _))
  · exfalso
    obtain ⟨h1, h2⟩ := fresh_some hf
    exact h2 (hi.done v (List.mem_of_getElem? hv) hno x h1)
theorem RInv.facts {bs : List (List Nat)} {n st K : Nat} {order : List Nat} {up : List Int} {fin : List Nat × List Int} (h : RInv bs n st K order up fin) : order.length ≤ n ∧ (∀ x ∈ order, x < n) ∧ up.length = n ∧ K ≤ order.length := by
  obtain ⟨f, opn, hi, _, _, hK⟩ := h
  exact ⟨hi.len, hi.lt, hi.ul, hK⟩
end Go.Proofs.Ytddndhhhmlcgjaa
