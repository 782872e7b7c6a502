/- What a path is. -/
import Derived.Test.YtddndhhhmlcgjaaPathP
import Derived.Test.YtddndhhhmlcgjaaLawAwayP
import Derived.Test.YtddndhhhmlcgjaaHas
import Derived.Test.YtddndhhhmlcgjaaThere
namespace Go.Proofs.Ytddndhhhmlcgjaa

/-- what 'there' says -/
theorem there_say {n : Int} {es : List (Int × Int)} {vs : List Int} (h : thereB n es vs = true) : rightB n es = true ∧ (∀ v ∈ vs, 0 ≤ v ∧ v < n) ∧ n ≤ 60 := by
  unfold thereB at h
  simp only [Bool.and_eq_true, decide_eq_true_eq, List.all_eq_true, inR_iff] at h
  exact ⟨h.2.1, h.1, h.2.2⟩

/-- those beside one rise -/
theorem adj_rise {n : Int} {es : List (Int × Int)} (h : rightB n es = true) (u : Nat) : (adj es u).Pairwise (· < ·) := by
  obtain ⟨h0, h1, h2, h3, h4⟩ := (rightB_iff _ _).1 h
  have hr := rise_lt h4
  unfold adj
  rw [List.pairwise_flatMap]
  constructor
  · intro e he
    unfold adj1; split
    · simp
    · split <;> simp
  · rw [List.pairwise_iff_getElem]
    intro i j hi hj hij x hx y hy
    obtain ⟨d, rfl⟩ : ∃ d, j = i + d + 1 := ⟨j - i - 1, by omega⟩
    have hc := hr d i hj
    rw [cmpP_lt] at hc
    have q1 := h3 i hi
    have q2 := h3 (i + d + 1) hj
    unfold adj1 at hx hy
    split at hx
    · simp at hx
      split at hy
      · simp at hy; omega
      · split at hy
        · simp at hy; omega
        · simp at hy
    · split at hx
      · simp at hx
        split at hy
        · simp at hy; omega
        · split at hy
          · simp at hy; omega
          · simp at hy
      · simp at hx

/-- graph.Has says who is beside whom -/
theorem has_adj {m : Nat} {es : List (Int × Int)} (h : rightB (m : Int) es = true) (u v : Nat) : hasB m es u v = decide (v ∈ adj es u) := by
  rw [hasB, h, Bool.true_and, Bool.eq_iff_iff]
  simp only [List.contains_iff_mem, decide_eq_true_eq]
  rw [mem_adj h]
  obtain ⟨h0, h1, h2, h3, h4⟩ := (rightB_iff _ _).1 h
  constructor
  · intro hm
    obtain ⟨k, hk, he⟩ := List.getElem_of_mem hm
    refine ⟨k, hk, ?_⟩
    rcases Nat.le_total u v with huv | huv
    · left; rw [he]; ext <;> simp <;> omega
    · right; rw [he]; ext <;> simp <;> omega
  · rintro ⟨k, hk, he⟩
    have q := h3 k hk
    have hm := List.getElem_mem hk
    rcases he with he | he
    · rw [he] at q hm
      simp only at q
      have e1 : (min (u : Int) (v : Int), max (u : Int) (v : Int)) = ((u : Int), (v : Int)) := by ext <;> simp <;> omega
      rw [e1]; exact hm
    · rw [he] at q hm
      simp only at q
      have e1 : (min (u : Int) (v : Int), max (u : Int) (v : Int)) = ((v : Int), (u : Int)) := by ext <;> simp <;> omega
      rw [e1]; exact hm

/-- each one is the next of the one ahead of it -/
def GoodW (bs : List (List Nat)) (far : List Int) (way : List Nat) : Prop := ∀ (i : Nat) (u v : Nat), way[i]? = some u → way[i+1]? = some v → nxt bs far u = some v

theorem pathRun_good {bs : List (List Nat)} {n st : Nat} {far : List Int} (h : IsDist bs n st far) (hs : symB bs) : ∀ (r v : Nat) (way : List Nat), way[way.length - 1]? = some v → far[v]? = some (r : Int) → GoodW bs far way →
    GoodW bs far (pathRun bs far r v way) ∧ (pathRun bs far r v way).length = way.length + r ∧ (pathRun bs far r v way)[0]? = way[0]? ∧ (pathRun bs far r v way)[way.length + r - 1]? = some st := by
  intro r
  induction r with
  | zero =>
    intro v way hw hv hg
    obtain rfl := h.zero v hv
    exact ⟨hg, rfl, rfl, hw⟩
  | succ r ih =>
    intro v way hw hv hg
    have hwl : 0 < way.length := by
      rcases Nat.eq_zero_or_pos way.length with h0 | h0
      · rw [List.getElem?_eq_none (by omega)] at hw; cases hw
      · exact h0
    obtain ⟨w0, hw0, hw1⟩ := nxt_ex h hs hv (by omega)
    have hgv : far.getD v 0 = ((r + 1 : Nat) : Int) := by simp [List.getD, hv]
    cases hn : nxt bs far v with
    | none =>
      exfalso
      unfold nxt at hn
      rw [List.find?_eq_none] at hn
      have := hn w0 hw0
      simp [List.getD, hv, hw1] at this
    | some w =>
      obtain ⟨hm, hf⟩ := nxt_some hn
      rw [hgv] at hf
      have hfw : far[w]? = some (r : Int) := by
        simp only [List.getD] at hf
        cases hfw : far[w]? with
        | none =>
          obtain ⟨y, hy, _⟩ := h.near v _ hv (by omega) w hm
          rw [hfw] at hy; cases hy
        | some y => rw [hfw] at hf; simp at hf; congr 1; try omega
      have hg2 : GoodW bs far (way ++ [w]) := by
        intro i a b ha hb
        rcases Nat.lt_trichotomy (i + 1) way.length with hlt | hlt | hlt
        · rw [List.getElem?_append_left (by omega)] at ha hb
          exact hg i a b ha hb
        · rw [List.getElem?_append_left (by omega)] at ha
          rw [List.getElem?_append_right (by omega), hlt] at hb
          simp at hb
          rw [show i = way.length - 1 by omega, hw] at ha
          cases ha; rw [← hb]; exact hn
        · rw [List.getElem?_eq_none (by simp; omega)] at hb; cases hb
      obtain ⟨k1, k2, k3, k4⟩ := ih w (way ++ [w]) (by simp) hfw hg2
      simp only [pathRun, hn]
      refine ⟨k1, by rw [k2]; simp <;> omega, by rw [k3]; rw [List.getElem?_append_left hwl], ?_⟩
      have : (way ++ [w]).length + r - 1 = way.length + (r + 1) - 1 := by simp <;> omega
      rw [this] at k4; exact k4

theorem path_good {n : Nat} {es : List (Int × Int)} (h : rightB n es = true) {st to_ : Nat} (ht : to_ < n) {x : Nat} (hx : (awayL (besideL n es) to_)[st]? = some (x : Int)) :
    GoodW (besideL n es) (awayL (besideL n es) to_) (pathL (besideL n es) st to_) ∧ (pathL (besideL n es) st to_).length = x + 1 ∧ (pathL (besideL n es) st to_)[0]? = some st ∧ (pathL (besideL n es) st to_)[x]? = some to_ := by
  have hd := away_dist h ht
  have := pathRun_good hd (adj_sym h) x st [st] (by simp) hx (by intro i u v hu hv; simp at hv)
  unfold pathL
  have e : ((awayL (besideL n es) to_).getD st 0).toNat = x := by simp [List.getD, hx]
  rw [e]
  obtain ⟨a, b, c, d⟩ := this
  refine ⟨a, by rw [b]; simp <;> omega, by rw [c]; simp, ?_⟩
  have e2 : [st].length + x - 1 = x := by simp
  rw [e2] at d; exact d

/-- what the next one is -/
theorem nxt_least {n : Nat} {es : List (Int × Int)} (h : rightB n es = true) {far : List Int} {u v : Nat} (hu : u < n) (hn : nxt (besideL n es) far u = some v) :
    v ∈ adj es u ∧ far.getD v 0 = far.getD u 0 - 1 ∧ ∀ w ∈ adj es u, w < v → far.getD w 0 ≠ far.getD u 0 - 1 := by
  have h1 := nxt_some hn
  rw [beside_getD hu] at h1
  refine ⟨h1.1, h1.2, ?_⟩
  intro w hw hwv hf
  unfold nxt at hn
  rw [beside_getD hu, List.find?_eq_some_iff_getElem] at hn
  obtain ⟨_, j, hj, hjv, hbefore⟩ := hn
  obtain ⟨i, hi, rfl⟩ := List.getElem_of_mem hw
  have hp := List.pairwise_iff_getElem.1 (adj_rise h u)
  rcases Nat.lt_trichotomy i j with hij | hij | hij
  · have := hbefore i hij
    rw [hf] at this; simp at this
  · subst hij; omega
  · have := hp j i hj hi hij; omega
end Go.Proofs.Ytddndhhhmlcgjaa
