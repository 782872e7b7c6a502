/- What a walk is. -/
import Derived.Test.YtddndhhhmlcgjaaDfs
import Derived.Test.YtddndhhhmlcgjaaPathP
namespace Go.Proofs.Ytddndhhhmlcgjaa

/-- a is b, or above it -/
inductive Anc (up : List Int) (a : Nat) : Nat → Prop
  | refl : Anc up a a
  | step {b u : Nat} : up[b]? = some (u : Int) → Anc up a u → Anc up a b

theorem Anc.trans {up : List Int} {a b c : Nat} (h : Anc up a b) (k : Anc up b c) : Anc up a c := by
  induction k with
  | refl => exact h
  | step hu _ ih => exact .step hu ih

def UpChain (up : List Int) : List Nat → Prop
  | [] => True
  | [_] => True
  | v :: v' :: o => up[v]? = some (v' : Int) ∧ UpChain up (v' :: o)
theorem UpChain.anc {up : List Int} : ∀ (o : List Nat) (v : Nat), UpChain up (v :: o) → ∀ x ∈ v :: o, Anc up x v
  | [], v, _, x, hx => by simp at hx; subst hx; exact .refl
  | v' :: o, v, h, x, hx => by
    rcases List.mem_cons.1 hx with rfl | hx
    · exact .refl
    · exact .step h.1 (UpChain.anc o v' h.2 x hx)
theorem UpChain.tail {up : List Int} {v : Nat} {o : List Nat} (h : UpChain up (v :: o)) : UpChain up o := by
  cases o with
  | nil => trivial
  | cons v' o => exact h.2
/-- who is not above is not asked -/
theorem UpChain.set {up : List Int} {x : Nat} {y : Int} : ∀ (o : List Nat), x ∉ o → UpChain up o → UpChain (up.set x y) o
  | [], _, _ => trivial
  | [_], _, _ => trivial
  | v :: v' :: o, hx, h => ⟨by rw [List.getElem?_set, if_neg (fun e => hx (by simp [e]))]; exact h.1, UpChain.set (v' :: o) (fun e => hx (by simp at e ⊢; right; exact e)) h.2⟩

/-- where the walk stands -/
structure DInv (bs : List (List Nat)) (n st f : Nat) (order opn : List Nat) (up : List Int) : Prop where
  rank : 2 * (n - order.length) + opn.length ≤ f
  len : order.length ≤ n
  head : order[0]? = some st
  nd : order.Nodup
  lt : ∀ x ∈ order, x < n
  ul : up.length = n
  ust : up[st]? = some (-1)
  unmet : ∀ x, x < n → x ∉ order → up[x]? = some (-1)
  from_ : ∀ (i v : Nat), 0 < i → order[i]? = some v → ∃ u, up[v]? = some ((u : Nat) : Int) ∧ u ∈ order.take i ∧ v ∈ bs.getD u [] ∧
    ∃ j : Nat, (bs.getD u [])[j]? = some v ∧ ∀ k : Nat, k < j → ∀ x, (bs.getD u [])[k]? = some x → x ∈ order.take i
  opnO : ∀ x ∈ opn, x ∈ order
  chain : UpChain up opn
  done : ∀ x ∈ order, x ∉ opn → ∀ y ∈ bs.getD x [], y ∈ order
  under : ∀ (i j a b : Nat), order[i]? = some a → order[j]? = some b → i < j → b ∈ bs.getD a [] → Anc up a b

theorem nodup_len : ∀ (n : Nat) (l : List Nat), l.Nodup → (∀ x ∈ l, x < n) → l.length ≤ n := by
  intro n
  induction n with
  | zero =>
    intro l _ h
    cases l with
    | nil => simp
    | cons a l => exact absurd (h a (by simp)) (by omega)
  | succ n ih =>
    intro l hn h
    have h1 := ih (l.erase n) (hn.erase n) (fun x hx => by
      have hx' := (List.Nodup.mem_erase_iff hn).1 hx
      have := h x hx'.2
      have := hx'.1
      omega)
    rw [List.length_erase] at h1
    split at h1 <;> omega

theorem Anc.keep {up : List Int} {order : List Nat} {x : Nat} {y : Int} (hx : x ∉ order) (hcl : ∀ b ∈ order, ∀ u : Nat, up[b]? = some (u : Int) → u ∈ order) {a b : Nat} (h : Anc up a b) : b ∈ order → Anc (up.set x y) a b := by
  induction h with
  | refl => intro _; exact .refl
  | @step b u hu _ ih =>
    intro hb
    refine .step ?_ (ih (hcl b hb u hu))
    rw [List.getElem?_set, if_neg (fun (e : x = b) => hx (by rw [e]; exact hb))]
    exact hu

theorem DInv.parent {bs : List (List Nat)} {n st f : Nat} {order opn : List Nat} {up : List Int} (h : DInv bs n st f order opn up) : ∀ b ∈ order, ∀ u : Nat, up[b]? = some (u : Int) → u ∈ order := by
  intro b hb u hu
  obtain ⟨i, hi, rfl⟩ := List.getElem_of_mem hb
  rcases Nat.eq_zero_or_pos i with h0 | h0
  · subst h0
    have := h.head
    rw [List.getElem?_eq_getElem hi] at this
    cases this
    rw [h.ust] at hu
    simp at hu; try omega
  · obtain ⟨u', h1, h2, _⟩ := h.from_ i order[i] h0 (by simp)
    rw [hu] at h1
    simp at h1
    have : u = u' := by omega
    subst this
    exact List.mem_of_mem_take h2

theorem DInv.push {bs : List (List Nat)} {n st f v x : Nat} {order o : List Nat} {up : List Int} (hbl : ∀ u, u < n → ∀ x ∈ bs.getD u [], x < n) (h : DInv bs n st (f + 1) order (v :: o) up) (hf : fresh bs order v = some x) :
    DInv bs n st f (order ++ [x]) (x :: v :: o) (up.set x (v : Int)) := by
  obtain ⟨hxb, hxo⟩ := fresh_some hf
  have hv : v ∈ order := h.opnO v (by simp)
  have hxn : x < n := hbl v (h.lt v hv) x hxb
  have hnd : (order ++ [x]).Nodup := by
    rw [List.nodup_append]
    refine ⟨h.nd, by simp, ?_⟩
    intro a ha b hb
    simp at hb; subst hb
    exact fun e => hxo (e ▸ ha)
  have hlt : ∀ y ∈ order ++ [x], y < n := fun y hy => by
    rcases List.mem_append.1 hy with hy | hy
    · exact h.lt y hy
    · simp at hy; subst hy; exact hxn
  have hlen := nodup_len n _ hnd hlt
  have hst : st ∈ order := List.mem_of_getElem? h.head
  have hpar := h.parent
  have hpos : 0 < order.length := by
    rcases Nat.eq_zero_or_pos order.length with h0 | h0
    · have := h.head; rw [List.getElem?_eq_none (by omega)] at this; cases this
    · exact h0
  have hset : ∀ y ∈ order, (up.set x (v : Int))[y]? = up[y]? := fun y hy => by rw [List.getElem?_set, if_neg (fun (e : x = y) => hxo (by rw [e]; exact hy))]
  have hupx : (up.set x (v : Int))[x]? = some (v : Int) := by rw [List.getElem?_set, if_pos rfl, if_pos (by rw [h.ul]; exact hxn)]
  refine ⟨?_, hlen, ?_, hnd, hlt, by simp [h.ul], by rw [hset st hst]; exact h.ust, ?_, ?_, ?_, ?_, ?_, ?_⟩
  · have := h.rank; simp at this hlen ⊢; omega
  · rw [List.getElem?_append_left hpos]; exact h.head
  · intro y hy hyo
    simp at hyo
    rw [List.getElem?_set, if_neg (fun e => hyo.2 e.symm)]
    exact h.unmet y hy hyo.1
  · intro i w h0 hw
    rcases Nat.lt_or_ge i order.length with hi | hi
    · rw [List.getElem?_append_left hi] at hw
      obtain ⟨u, h1, h2, h3, j, h4, h5⟩ := h.from_ i w h0 hw
      have ht : (order ++ [x]).take i = order.take i := by rw [List.take_append_of_le_length (by omega)]
      rw [ht]
      exact ⟨u, by rw [hset w (List.mem_of_getElem? hw)]; exact h1, h2, h3, j, h4, h5⟩
    · have hil := (List.getElem?_eq_some_iff.1 hw).1
      simp at hil
      have : i = order.length := by omega
      subst this
      rw [List.getElem?_append_right (by omega)] at hw
      simp at hw; subst hw
      have ht : (order ++ [x]).take order.length = order := by simp
      rw [ht]
      refine ⟨v, hupx, hv, hxb, ?_⟩
      unfold fresh at hf
      rw [List.find?_eq_some_iff_getElem] at hf
      obtain ⟨_, j, hj, hjx, hbefore⟩ := hf
      refine ⟨j, by rw [List.getElem?_eq_getElem hj, hjx], fun k hk y hy => ?_⟩
      have hkl : k < (bs.getD v []).length := by omega
      rw [List.getElem?_eq_getElem hkl] at hy
      cases hy
      have := hbefore k hk
      simpa using this
  · intro y hy
    rcases List.mem_cons.1 hy with rfl | hy
    · simp
    · exact List.mem_append_left _ (h.opnO y hy)
  · refine ⟨hupx, UpChain.set _ (fun e => hxo (h.opnO x e)) h.chain⟩
  · intro y hy hyo w hw
    simp only [List.mem_cons, not_or] at hyo
    rcases List.mem_append.1 hy with hy | hy
    · exact List.mem_append_left _ (h.done y hy (by simp only [List.mem_cons, not_or]; exact hyo.2) w hw)
    · simp at hy; exact absurd hy hyo.1
  · intro i j a b ha hb hij hab
    have hjl := (List.getElem?_eq_some_iff.1 hb).1
    simp at hjl
    rw [List.getElem?_append_left (by omega)] at ha
    have hao := List.mem_of_getElem? ha
    rcases Nat.lt_or_ge j order.length with hj | hj
    · rw [List.getElem?_append_left hj] at hb
      exact (h.under i j a b ha hb hij hab).keep hxo hpar (List.mem_of_getElem? hb)
    · rw [List.getElem?_append_right hj] at hb
      have : j = order.length := by omega
      subst this
      simp at hb; subst hb
      by_cases hop : a ∈ v :: o
      · exact .step hupx ((h.chain.anc o v a hop).keep hxo hpar hv)
      · exact absurd (h.done a hao hop x hab) hxo

theorem DInv.pop {bs : List (List Nat)} {n st f v : Nat} {order o : List Nat} {up : List Int} (h : DInv bs n st (f + 1) order (v :: o) up) (hf : fresh bs order v = none) : DInv bs n st f order o up :=
  { h with
    rank := by have := h.rank; simp at this; omega
    opnO := fun x hx => h.opnO x (by simp [hx])
    chain := h.chain.tail
    done := by
      intro x hx hxo y hy
      by_cases hxv : x = v
      · subst hxv
        unfold fresh at hf
        rw [List.find?_eq_none] at hf
        have := hf y hy
        simpa using this
      · exact h.done x hx (by simp [hxv, hxo]) y hy }

theorem dfs_inv {bs : List (List Nat)} {n st : Nat} (hbl : ∀ u, u < n → ∀ x ∈ bs.getD u [], x < n) : ∀ (f : Nat) (order opn : List Nat) (up : List Int), DInv bs n st f order opn up → ∃ f', DInv bs n st f' (dfs bs f order opn up).1 [] (dfs bs f order opn up).2 := by
  intro f
  induction f with
  | zero =>
    intro order opn up h
    have := h.rank
    have h0 : opn = [] := List.length_eq_zero_iff.1 (by omega)
    subst h0
    exact ⟨0, h⟩
  | succ f ih =>
    intro order opn up h
    cases opn with
    | nil => exact ⟨_, h⟩
    | cons v o =>
      rw [dfs]
      cases hf : fresh bs order v with
      | none => exact ih _ _ _ (h.pop hf)
      | some x => exact ih _ _ _ (h.push hbl hf)

theorem walkL_inv {bs : List (List Nat)} {n st : Nat} (hn : bs.length = n) (hbl : ∀ u, u < n → ∀ x ∈ bs.getD u [], x < n) (hst : st < n) : ∃ f', DInv bs n st f' (walkL bs st).1 [] (walkL bs st).2 := by
  unfold walkL
  refine dfs_inv hbl _ _ _ _ ?_
  rw [hn]
  refine ⟨by simp; omega, by simp; omega, rfl, by simp, by simp [hst], by simp, by simp [hst], ?_, ?_, by simp, trivial, ?_, ?_⟩
  · intro x hx _; simp [hx]
  · intro i v h0 hv; rw [List.getElem?_eq_none (by simp; omega)] at hv; cases hv
  · intro x hx hxo; simp at hx hxo; exact absurd hx hxo
  · intro i j a b ha hb hij; rw [List.getElem?_eq_none (l := [st]) (by simp; omega)] at hb; cases hb
end Go.Proofs.Ytddndhhhmlcgjaa
