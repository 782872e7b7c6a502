/- What a walk meets, and from whom. -/
import Derived.Test.YtddndhhhmlcgjaaPartsQ
import Derived.Test.YtddndhhhmlcgjaaPathQ
namespace Go.Proofs.Ytddndhhhmlcgjaa

structure MetOk (n : Nat) (es : List (Int × Int)) (st : Nat) (order : List Nat) (up d : List Int) (ix : Nat → Nat) : Prop where
  head : order[0]? = some st
  len : order.length ≤ n
  ul : up.length = n
  dl : d.length = n
  lt : ∀ x ∈ order, x < n
  new : ∀ (i v : Nat), order[i]? = some v → v ∉ order.take i ∧ ix v = i
  reach : ∀ (v : Nat) (x : Int), d[v]? = some x → (v ∈ order ↔ 0 ≤ x)
  top : up[st]? = some (-1)
  from_ : ∀ (i v : Nat), 0 < i → order[i]? = some v → ∃ u : Nat, up[v]? = some (u : Int) ∧ u ∈ order.take i ∧ ix u < i ∧ u < n ∧ hasB n es u v = true ∧ ∀ w : Nat, w < v → hasB n es u w = true → w ∈ order.take i ∧ ix w < i
  unmet : ∀ x, x < n → x ∉ order → up[x]? = some (-1)
  edge : ∀ a b : Nat, a ∈ order → b ∈ adj es a → b ∈ order
  climb : ∀ a b : Nat, a ∈ order → b ∈ order → b ∈ adj es a → ix a ≤ ix b → Anc up a b
  par : ∀ b ∈ order, ∀ u : Nat, up[b]? = some (u : Int) → u ∈ order ∧ ix u < ix b
  ixlt : ∀ x ∈ order, ix x < order.length
  ixne : ∀ a b : Nat, a ∈ order → b ∈ adj es a → ix a ≠ ix b

theorem met_ok {n : Nat} {es : List (Int × Int)} (h : rightB n es = true) {st : Nat} (hst : st < n) :
    MetOk n es st (walkL (besideL n es) st).1 (walkL (besideL n es) st).2 (awayL (besideL n es) st) (fun x => (walkL (besideL n es) st).1.idxOf x) := by
  obtain ⟨f', hi⟩ := walkL_inv (besideL_length n es) (beside_lt h) hst
  have hd := away_dist h hst
  have hrd := reach_dist h hst
  unfold reachL at hrd
  generalize (walkL (besideL n es) st).1 = order at hi hrd ⊢
  generalize (walkL (besideL n es) st).2 = up at hi ⊢
  have hix : ∀ (i v : Nat), order[i]? = some v → order.idxOf v = i := by
    intro i v hv
    obtain ⟨hl, rfl⟩ := List.getElem?_eq_some_iff.1 hv
    exact hi.nd.idxOf_getElem i hl
  have hat : ∀ x ∈ order, order[order.idxOf x]? = some x := fun x hx => by
    rw [List.getElem?_eq_getElem (List.idxOf_lt_length_iff.2 hx), List.getElem_idxOf]
  have htk : ∀ (i x : Nat), x ∈ order.take i → order.idxOf x < i := by
    intro i x hx
    obtain ⟨j, hj, hjx⟩ := List.mem_take_iff_getElem.1 hx
    have hj' := Nat.lt_min.1 hj
    rw [hix j x (by rw [List.getElem?_eq_getElem hj'.2, hjx])]
    exact hj'.1
  have hedge : ∀ a b : Nat, a ∈ order → b ∈ adj es a → b ∈ order := by
    intro a b ha hb
    refine hi.done a ha (by simp) b ?_
    rw [beside_getD (hi.lt a ha)]; exact hb
  have hne : ∀ a b : Nat, b ∈ adj es a → a ≠ b := by
    intro a b hb e
    subst e
    obtain ⟨j, hj, he⟩ := (mem_adj h a a).1 hb
    have := ((rightB_iff _ _).1 h).2.2.2.1 j hj
    rcases he with he | he <;> rw [he] at this <;> simp only at this <;> omega
  have hixne : ∀ a b : Nat, a ∈ order → b ∈ adj es a → order.idxOf a ≠ order.idxOf b := by
    intro a b ha hb e
    have h1 := hat a ha
    have h2 := hat b (hedge a b ha hb)
    rw [e, h2] at h1
    cases h1
    exact hne _ _ hb rfl
  refine ⟨hi.head, hi.len, hi.ul, hd.len, hi.lt, ?_, ?_, hi.ust, ?_, hi.unmet, hedge, ?_, ?_, fun x hx => List.idxOf_lt_length_iff.2 hx, hixne⟩
  · intro i v hv
    refine ⟨fun hm => ?_, hix i v hv⟩
    have := htk i v hm
    rw [hix i v hv] at this
    omega
  · intro v x hx
    rw [hrd v, hx]
    constructor
    · rintro ⟨k, e⟩; cases e; omega
    · intro h0; exact ⟨x.toNat, by congr 1; omega⟩
  · intro i v h0 hv
    obtain ⟨u, h1, h2, h3, j, h4, h5⟩ := hi.from_ i v h0 hv
    have hun : u < n := hi.lt u (List.mem_of_mem_take h2)
    rw [beside_getD hun] at h3 h4 h5
    refine ⟨u, h1, h2, htk i u h2, hun, by rw [has_adj h]; simpa using h3, fun w hw hh => ?_⟩
    rw [has_adj h] at hh
    have hwm : w ∈ adj es u := by simpa using hh
    obtain ⟨k, hk, rfl⟩ := List.getElem_of_mem hwm
    have hkj : k < j := by
      obtain ⟨hj, rfl⟩ := List.getElem?_eq_some_iff.1 h4
      rcases Nat.lt_or_ge k j with h6 | h6
      · exact h6
      · rcases Nat.eq_or_lt_of_le h6 with h7 | h7
        · subst h7; omega
        · have := List.pairwise_iff_getElem.1 (adj_rise h u) j k hj hk h7
          omega
    have := h5 k hkj _ (List.getElem?_eq_getElem hk)
    exact ⟨this, htk i _ this⟩
  · intro a b ha hb hab hle
    have := hixne a b ha hab
    refine hi.under (order.idxOf a) (order.idxOf b) a b (hat a ha) (hat b hb) (by omega) ?_
    rw [beside_getD (hi.lt a ha)]; exact hab
  · intro b hb u hu
    have h0 : 0 < order.idxOf b := by
      rcases Nat.eq_zero_or_pos (order.idxOf b) with h0 | h0
      · have := hat b hb
        rw [h0, hi.head] at this
        cases this
        rw [hi.ust] at hu
        simp at hu; try omega
      · exact h0
    obtain ⟨u', h1, h2, _⟩ := hi.from_ _ b h0 (hat b hb)
    rw [hu] at h1
    have : u = u' := by simp at h1; omega
    subst this
    exact ⟨List.mem_of_mem_take h2, htk _ _ h2⟩

/-- whoever climbs comes there -/
theorem Anc.next {up : List Int} {a b : Nat} (h : Anc up a b) (hne : b ≠ a) : ∃ u : Nat, up[b]? = some (u : Int) ∧ Anc up a u := by
  cases h with
  | refl => exact absurd rfl hne
  | step hu hk => exact ⟨_, hu, hk⟩
end Go.Proofs.Ytddndhhhmlcgjaa
