/- All parts, as a plain function. -/
import Derived.Test.YtddndhhhmlcgjaaDfs
namespace Go.Proofs.Ytddndhhhmlcgjaa

def sortN (l : List Nat) : List Nat := l.mergeSort fun x y => decide (x ≤ y)
theorem sortN_cast (l : List Nat) : (l.map (fun (x : Nat) => (x : Int))).mergeSort (fun x y => decide (x ≤ y)) = (sortN l).map (fun (x : Nat) => (x : Int)) := by
  unfold sortN
  rw [List.map_mergeSort]
  intro a _ b _
  simp
theorem sortN_length (l : List Nat) : (sortN l).length = l.length := by simp [sortN]
theorem mem_sortN (l : List Nat) (x : Nat) : x ∈ sortN l ↔ x ∈ l := by simp [sortN]

def parts1 (bs : List (List Nat)) (s : List Nat × List (List Nat)) (v : Nat) : List Nat × List (List Nat) :=
  if s.1.contains v then s else (s.1 ++ (walkL bs v).1, s.2 ++ [sortN (walkL bs v).1])
def partsL (bs : List (List Nat)) : List (List Nat) := ((List.range bs.length).foldl (parts1 bs) ([], [])).2

theorem dfs_lt {bs : List (List Nat)} {n : Nat} (hn : ∀ (v : Nat) (r : List Nat), bs[v]? = some r → ∀ x ∈ r, x < n) : ∀ (f : Nat) (order opn : List Nat) (up : List Int), (∀ x ∈ order, x < n) → ∀ x ∈ (dfs bs f order opn up).1, x < n := by
  intro f
  induction f with
  | zero => intro order opn up h; exact h
  | succ f ih =>
    intro order opn up h
    cases opn with
    | nil => exact h
    | cons v o =>
      rw [dfs]
      cases hf : fresh bs order v with
      | none => exact ih _ _ _ h
      | some x =>
        refine ih _ _ _ fun y hy => ?_
        rcases List.mem_append.1 hy with hy | hy
        · exact h y hy
        · simp at hy
          subst hy
          have := (fresh_some hf).1
          simp only [List.getD] at this
          cases hb : bs[v]? with
          | none => rw [hb] at this; simp at this
          | some r => rw [hb] at this; exact hn v r hb _ this
theorem dfs_len {bs : List (List Nat)} : ∀ (f : Nat) (order opn : List Nat) (up : List Int), (dfs bs f order opn up).1.length ≤ order.length + f := by
  intro f
  induction f with
  | zero => intro order opn up; simp [dfs]
  | succ f ih =>
    intro order opn up
    cases opn with
    | nil => simp [dfs]
    | cons v o =>
      rw [dfs]
      cases hf : fresh bs order v with
      | none => have := ih order o up; simp only; omega
      | some x => have := ih (order ++ [x]) (x :: v :: o) (up.set x (v : Int)); simp at this ⊢; omega
theorem walkL_lt {bs : List (List Nat)} {n st : Nat} (hn : ∀ (v : Nat) (r : List Nat), bs[v]? = some r → ∀ x ∈ r, x < n) (hst : st < n) : ∀ x ∈ (walkL bs st).1, x < n :=
  dfs_lt hn _ _ _ _ (fun x hx => by simp at hx; omega)
theorem walkL_len {bs : List (List Nat)} {st : Nat} : (walkL bs st).1.length ≤ 2 * bs.length + 1 := by
  have := dfs_len (bs := bs) (2 * bs.length) [st] [st] (List.replicate bs.length (-1))
  unfold walkL; simp at this; omega
theorem parts1_len {bs : List (List Nat)} (s : List Nat × List (List Nat)) (v : Nat) : (parts1 bs s v).2.length ≤ s.2.length + 1 := by
  unfold parts1; split <;> simp
theorem parts_take_len {bs : List (List Nat)} (l : List Nat) (s : List Nat × List (List Nat)) : (l.foldl (parts1 bs) s).2.length ≤ s.2.length + l.length := by
  induction l generalizing s with
  | nil => simp
  | cons v l ih => have h1 := ih (parts1 bs s v); have h2 := parts1_len (bs := bs) s v; simp only [List.foldl_cons, List.length_cons]; omega
end Go.Proofs.Ytddndhhhmlcgjaa
