/- Distances by relaxing: a plain law. -/
import Derived.Test.YtddndhhhmlcgjaaDist
import Derived.Test.YtddndhhhmlcgjaaPathP
import Derived.Test.YtddndhhhmlcgjaaLawAwayP
namespace Go.Proofs.Ytddndhhhmlcgjaa

def reached (out : List Int) : Nat := out.countP fun x => decide (0 ≤ x)
/-- what is still to be gained -/
def toGain (n : Nat) (out : List Int) : Nat := (out.map fun x => if x < 0 then n else x.toNat).sum

structure AI (bs : List (List Nat)) (n st : Nat) (out : List Int) : Prop where
  len : out.length = n
  st0 : out[st]? = some 0
  val : ∀ (v : Nat) (x : Int), out[v]? = some x → x = -1 ∨ 0 ≤ x
  zero : ∀ v : Nat, out[v]? = some 0 → v = st
  up : ∀ (v : Nat) (x : Int), out[v]? = some x → 0 < x → ∃ (u : Nat) (y : Int), v ∈ bs.getD u [] ∧ out[u]? = some y ∧ 0 ≤ y ∧ y ≤ x - 1
  bound : ∀ (v : Nat) (x : Int), out[v]? = some x → x + 1 ≤ reached out

theorem sum_set {f : Int → Nat} : ∀ (l : List Int) (v : Nat) (x y : Int), l[v]? = some x → ((l.set v y).map f).sum + f x = (l.map f).sum + f y
  | [], v, x, y, h => by simp at h
  | a :: l, 0, x, y, h => by simp at h; subst h; simp; omega
  | a :: l, v + 1, x, y, h => by
    have := sum_set (f := f) l v x y (by simpa using h)
    simp at this ⊢; omega
theorem count_set {p : Int → Bool} : ∀ (l : List Int) (v : Nat) (x y : Int), l[v]? = some x → (l.set v y).countP p + (if p x then 1 else 0) = l.countP p + (if p y then 1 else 0)
  | [], v, x, y, h => by simp at h
  | a :: l, 0, x, y, h => by simp at h; subst h; simp [List.countP_cons]; omega
  | a :: l, v + 1, x, y, h => by
    have := count_set (p := p) l v x y (by simpa using h)
    simp [List.countP_cons] at this ⊢; omega

theorem reached_le (out : List Int) : reached out ≤ out.length := List.countP_le_length

/-- a shorter way is found by a step -/
theorem AI.relax {bs : List (List Nat)} {n st : Nat} {out : List Int} (h : AI bs n st out) {u v : Nat} {A B : Int} (hA : out[u]? = some A) (hB : out[v]? = some B) (huv : v ∈ bs.getD u []) (h0 : 0 ≤ A) (hc : B < 0 ∨ A + 1 < B) :
    AI bs n st (out.set v (A + 1)) ∧ toGain n (out.set v (A + 1)) < toGain n out := by
  have hvl : v < out.length := (List.getElem?_eq_some_iff.1 hB).1
  have hcnt := count_set (p := fun x => decide (0 ≤ x)) out v B (A + 1) hB
  simp only [show decide (0 ≤ A + 1) = true by simp; omega, if_true] at hcnt
  have hbA := h.bound u A hA
  have hrn := reached_le (out.set v (A + 1))
  rw [List.length_set, h.len] at hrn
  have hr1 : reached out ≤ reached (out.set v (A + 1)) := by
    unfold reached; split at hcnt <;> omega
  have hr2 : B < 0 → reached (out.set v (A + 1)) = reached out + 1 := by
    intro hB0
    unfold reached
    rw [if_neg (by simp; omega)] at hcnt; omega
  have hget : ∀ (w : Nat) (x : Int), (out.set v (A + 1))[w]? = some x → (w = v ∧ x = A + 1) ∨ (w ≠ v ∧ out[w]? = some x) := by
    intro w x hw
    rw [List.getElem?_set] at hw
    by_cases e : v = w
    · rw [if_pos e, if_pos hvl] at hw; left; exact ⟨e.symm, (Option.some.inj hw).symm⟩
    · rw [if_neg e] at hw; right; exact ⟨fun e' => e e'.symm, hw⟩
  have hne0 : v ≠ st := by
    intro e; subst e
    rw [h.st0] at hB; cases hB; omega
  have hnewB : A + 1 + 1 ≤ (reached (out.set v (A + 1)) : Int) := by
    rcases hc with hc | hc
    · have := hr2 hc; omega
    · have := h.bound v B hB; omega
  refine ⟨⟨by simp [h.len], ?_, ?_, ?_, ?_, ?_⟩, ?_⟩
  · rw [List.getElem?_set, if_neg hne0]; exact h.st0
  · intro w x hw
    rcases hget w x hw with ⟨_, rfl⟩ | ⟨_, hw⟩
    · right; omega
    · exact h.val w x hw
  · intro w hw
    rcases hget w 0 hw with ⟨_, e⟩ | ⟨_, hw⟩
    · omega
    · exact h.zero w hw
  · intro w x hw hx
    have hwit : ∀ (q : Nat) (y : Int), w ∈ bs.getD q [] → out[q]? = some y → 0 ≤ y → y ≤ x - 1 → ∃ (u : Nat) (y : Int), w ∈ bs.getD u [] ∧ (out.set v (A + 1))[u]? = some y ∧ 0 ≤ y ∧ y ≤ x - 1 := by
      intro q y h1 h2 h3 h4
      by_cases e : v = q
      · subst e
        rw [hB] at h2; cases h2
        refine ⟨v, A + 1, h1, by rw [List.getElem?_set, if_pos rfl, if_pos hvl], by omega, by omega⟩
      · exact ⟨q, y, h1, by rw [List.getElem?_set, if_neg e]; exact h2, h3, h4⟩
    rcases hget w x hw with ⟨rfl, rfl⟩ | ⟨_, hw⟩
    · exact hwit u A huv hA h0 (by omega)
    · obtain ⟨q, y, h1, h2, h3, h4⟩ := h.up w x hw hx
      exact hwit q y h1 h2 h3 h4
  · intro w x hw
    rcases hget w x hw with ⟨_, rfl⟩ | ⟨_, hw⟩
    · exact hnewB
    · have := h.bound w x hw; omega
  · have hs := sum_set (f := fun x => if x < 0 then n else x.toNat) out v B (A + 1) hB
    unfold toGain
    simp only [show ¬ (A + 1 < 0) by omega, if_false] at hs
    rcases hc with hc | hc
    · rw [if_pos hc] at hs; omega
    · rw [if_neg (by omega)] at hs; omega

theorem AI.start {bs : List (List Nat)} {n st : Nat} (hst : st < n) : AI bs n st ((List.replicate n (-1)).set st 0) := by
  have hget : ∀ (w : Nat) (x : Int), ((List.replicate n (-1 : Int)).set st 0)[w]? = some x → (w = st ∧ x = 0) ∨ x = -1 := by
    intro w x hw
    rw [List.getElem?_set] at hw
    by_cases e : st = w
    · rw [if_pos e, if_pos (by simpa using hst)] at hw; left; exact ⟨e.symm, (Option.some.inj hw).symm⟩
    · rw [if_neg e] at hw
      obtain ⟨hl, he⟩ := List.getElem?_eq_some_iff.1 hw
      right; simpa using he.symm
  have hcnt := count_set (p := fun x => decide (0 ≤ x)) (List.replicate n (-1)) st (-1) 0 (by simp [hst])
  refine ⟨by simp, by simp [hst], ?_, ?_, ?_, ?_⟩
  · intro v x hx
    rcases hget v x hx with ⟨_, rfl⟩ | rfl <;> omega
  · intro v hv
    rcases hget v 0 hv with ⟨h, _⟩ | h
    · exact h
    · omega
  · intro v x hx h0
    rcases hget v x hx with ⟨_, rfl⟩ | rfl <;> omega
  · intro v x hx
    have : reached ((List.replicate n (-1 : Int)).set st 0) = (List.replicate n (-1 : Int)).countP (fun x => decide (0 ≤ x)) + 1 := by
      unfold reached
      simpa using hcnt
    rcases hget v x hx with ⟨_, rfl⟩ | rfl <;> omega

/-- nothing is to be gained by an edge -/
def Calm (out : List Int) (u v : Nat) : Prop := ∀ A B : Int, out[u]? = some A → out[v]? = some B → 0 ≤ A → 0 ≤ B ∧ B ≤ A + 1

theorem AI.done {m st : Nat} {es : List (Int × Int)} {out : List Int} (hr : rightB m es = true) (hst : st < m) (h : AI (besideL m es) m st out)
    (hcalm : ∀ (k : Nat) (hk : k < es.length), Calm out es[k].1.toNat es[k].2.toNat ∧ Calm out es[k].2.toNat es[k].1.toNat) : out = awayL (besideL m es) st := by
  have hnear : ∀ (u : Nat) (x : Int), out[u]? = some x → 0 ≤ x → ∀ w ∈ (besideL m es).getD u [], ∃ y, out[w]? = some y ∧ 0 ≤ y ∧ y ≤ x + 1 := by
    intro u x hx h0 w hw
    have hum : u < m := by have := (List.getElem?_eq_some_iff.1 hx).1; rw [h.len] at this; exact this
    have hwm := beside_lt hr u hum w hw
    rw [beside_getD hum] at hw
    obtain ⟨j, hj, he⟩ := (mem_adj hr u w).1 hw
    obtain ⟨y, hy⟩ : ∃ y, out[w]? = some y := ⟨_, List.getElem?_eq_getElem (by rw [h.len]; exact hwm)⟩
    obtain ⟨c1, c2⟩ := hcalm j hj
    rcases he with he | he
    · rw [he] at c1
      exact ⟨y, hy, c1 x y (by simpa using hx) (by simpa using hy) h0⟩
    · rw [he] at c2
      exact ⟨y, hy, c2 x y (by simpa using hx) (by simpa using hy) h0⟩
  have hd : IsDist (besideL m es) m st out := by
    refine ⟨h.len, ?_, h.st0, h.zero, ?_, hnear⟩
    · intro v x hx
      rcases h.val v x hx with h1 | h1
      · exact .inl h1
      · have := h.bound v x hx
        have h2 := reached_le out
        rw [h.len] at h2
        exact .inr ⟨h1, by omega⟩
    · intro v x hx h0
      obtain ⟨u, y, h1, h2, h3, h4⟩ := h.up v x hx h0
      obtain ⟨z, h5, h6, h7⟩ := hnear u y h2 h3 v h1
      rw [hx] at h5; cases h5
      exact ⟨u, h1, by rw [h2]; congr 1; omega⟩
  exact hd.unique (away_dist hr hst)
end Go.Proofs.Ytddndhhhmlcgjaa
