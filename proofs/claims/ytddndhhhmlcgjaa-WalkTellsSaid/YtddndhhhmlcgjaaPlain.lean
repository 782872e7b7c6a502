/- Plain mathematics of graphs: no program, no world. -/
import Derived.Tactics
namespace Go.Proofs.Ytddndhhhmlcgjaa

def cmpI (a b : Int) : Int := if a < b then -1 else if b < a then 1 else 0
def orI (x y : Int) : Int := if x = 0 then y else x
def cmpP (a b : Int × Int) : Int := orI (cmpI a.1 b.1) (cmpI a.2 b.2)
theorem cmpI_le (a b : Int) : -1 ≤ cmpI a b ∧ cmpI a b ≤ 1 := by unfold cmpI; split <;> (try split) <;> omega
theorem orI_le (a b : Int) (h : -1 ≤ a ∧ a ≤ 1) (h2 : -1 ≤ b ∧ b ≤ 1) : -1 ≤ orI a b ∧ orI a b ≤ 1 := by unfold orI; split <;> omega
theorem cmpP_le (a b : Int × Int) : -1 ≤ cmpP a b ∧ cmpP a b ≤ 1 := orI_le _ _ (cmpI_le _ _) (cmpI_le _ _)

/-- the order of edges -/
def lessP (a b : Int × Int) : Prop := a.1 < b.1 ∨ (a.1 = b.1 ∧ a.2 < b.2)
theorem cmpP_neg (a b : Int × Int) : cmpP a b < 0 ↔ lessP a b := by
  unfold cmpP cmpI orI lessP
  repeat' split
  all_goals omega

def okE (n : Int) (e : Int × Int) : Bool := decide (0 ≤ e.1) && decide (e.1 < e.2) && decide (e.2 < n)
def risB : List (Int × Int) → Bool
  | a :: b :: r => decide (cmpP a b < 0) && risB (b :: r)
  | _ => true
def rightB (n : Int) (es : List (Int × Int)) : Bool :=
  decide (0 ≤ n) && decide (n ≤ 200) && decide (es.length ≤ 594) && es.all (okE n) && risB es

theorem risB_iff (es : List (Int × Int)) : risB es = true ↔ ∀ k (h : k + 1 < es.length), cmpP es[k] es[k+1] < 0 := by
  induction es with
  | nil => simp [risB]
  | cons a r ih =>
    cases r with
    | nil => simp [risB]
    | cons b r =>
      rw [risB, Bool.and_eq_true, ih]
      constructor
      · rintro ⟨h1, h2⟩ k h
        cases k with
        | zero => simpa using h1
        | succ k => exact h2 k (by simpa using h)
      · intro h
        exact ⟨by simpa using h 0 (by simp), fun k hk => h (k + 1) (by simpa using hk)⟩

theorem okE_iff (n : Int) (e : Int × Int) : okE n e = true ↔ 0 ≤ e.1 ∧ e.1 < e.2 ∧ e.2 < n := by
  simp [okE, and_assoc]

theorem rightB_iff (n : Int) (es : List (Int × Int)) : rightB n es = true ↔
    0 ≤ n ∧ n ≤ 200 ∧ es.length ≤ 594 ∧ (∀ k (h : k < es.length), 0 ≤ es[k].1 ∧ es[k].1 < es[k].2 ∧ es[k].2 < n) ∧ (∀ k (h : k + 1 < es.length), cmpP es[k] es[k+1] < 0) := by
  unfold rightB
  simp only [Bool.and_eq_true, decide_eq_true_eq, risB_iff, List.all_eq_true, okE_iff, and_assoc]
  constructor
  · rintro ⟨a, b, c, d, e⟩; exact ⟨a, b, c, fun k h => d _ (List.getElem_mem h), e⟩
  · rintro ⟨a, b, c, d, e⟩
    refine ⟨a, b, c, fun x hx => ?_, e⟩
    obtain ⟨k, hk, rfl⟩ := List.getElem_of_mem hx
    exact d k hk

theorem right_no {n : Int} {es : List (Int × Int)} (h : ¬ (0 ≤ n ∧ n ≤ 200 ∧ es.length ≤ 594)) : rightB n es = false := by
  rw [Bool.eq_false_iff, Ne, rightB_iff]; rintro ⟨a, b, c, _⟩; exact h ⟨a, b, c⟩
theorem right_no_edge {n : Int} {es : List (Int × Int)} (k : Nat) (hk : k < es.length) (h : ¬ (0 ≤ es[k].1 ∧ es[k].1 < es[k].2 ∧ es[k].2 < n)) : rightB n es = false := by
  rw [Bool.eq_false_iff, Ne, rightB_iff]; rintro ⟨a, b, c, d, _⟩; exact h (d k hk)
theorem right_no_ris {n : Int} {es : List (Int × Int)} (k : Nat) (hk : k + 1 < es.length) (h : ¬ cmpP es[k] es[k+1] < 0) : rightB n es = false := by
  rw [Bool.eq_false_iff, Ne, rightB_iff]; rintro ⟨a, b, c, d, e⟩; exact h (e k hk)

/-- whom an edge brings beside v -/
def adj1 (e : Int × Int) (v : Nat) : List Nat := if e.1 = v then [e.2.toNat] else if e.2 = v then [e.1.toNat] else []
def adj (es : List (Int × Int)) (v : Nat) : List Nat := es.flatMap fun e => adj1 e v
def besideL (n : Nat) (es : List (Int × Int)) : List (List Nat) := (List.range n).map (adj es)
theorem besideL_length (n : Nat) (es : List (Int × Int)) : (besideL n es).length = n := by simp [besideL]
theorem besideL_get (n : Nat) (es : List (Int × Int)) (v : Nat) : (besideL n es)[v]? = if v < n then some (adj es v) else none := by
  unfold besideL
  rw [List.getElem?_map]
  split
  · rename_i h; rw [List.getElem?_range h]; rfl
  · rename_i h; rw [List.getElem?_eq_none (by simpa using h)]; rfl
theorem adj_take (es : List (Int × Int)) (k : Nat) (h : k < es.length) (v : Nat) : adj (es.take (k + 1)) v = adj (es.take k) v ++ adj1 es[k] v := by
  unfold adj
  rw [List.take_succ_eq_append_getElem h, List.flatMap_append]
  simp
theorem adj1_len (e : Int × Int) (v : Nat) : (adj1 e v).length ≤ 1 := by unfold adj1; split <;> (try split) <;> simp
theorem adj_len (es : List (Int × Int)) (v : Nat) : (adj es v).length ≤ es.length := by
  unfold adj
  induction es with
  | nil => simp
  | cons e es ih => have := adj1_len e v; simp only [List.flatMap_cons, List.length_append, List.length_cons]; omega
theorem adj_take_len (es : List (Int × Int)) (k v : Nat) : (adj (es.take k) v).length ≤ es.length := by
  have := adj_len (es.take k) v
  rw [List.length_take] at this
  omega
end Go.Proofs.Ytddndhhhmlcgjaa
