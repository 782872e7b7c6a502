/- What WalkAway asks of distances. -/
import Derived.Test.YtddndhhhmlcgjaaPathP
namespace Go.Proofs.Ytddndhhhmlcgjaa

theorem IsDist.back {bs : List (List Nat)} {n a b : Nat} {f g : List Int} (hs : symB bs) (hf : IsDist bs n a f) (hg : IsDist bs n b g) : ∀ (k : Nat) (v : Nat) (y : Int), f[v]? = some (k : Int) → g[v]? = some y → 0 ≤ y → ∃ z, g[a]? = some z ∧ 0 ≤ z ∧ z ≤ y + k := by
  intro k
  induction k with
  | zero => intro v y hv hy h0; obtain rfl := hf.zero v hv; exact ⟨y, hy, h0, by omega⟩
  | succ k ih =>
    intro v y hv hy h0
    obtain ⟨u, h1, h2⟩ := hf.up v _ hv (by omega)
    obtain ⟨z, h3, h4, h5⟩ := hg.near v y hy h0 u (hs u v h1)
    obtain ⟨t, h6, h7, h8⟩ := ih u z (by rw [h2]; congr 1; omega) h3 h4
    exact ⟨t, h6, h7, by omega⟩
/-- from both ends it is as far -/
theorem IsDist.symm {bs : List (List Nat)} {n a b : Nat} {f g : List Int} (hs : symB bs) (hf : IsDist bs n a f) (hg : IsDist bs n b g) (hb : b < n) (ha : a < n) : f[b]? = g[a]? := by
  obtain ⟨x, hx⟩ : ∃ x, f[b]? = some x := ⟨f[b]'(by rw [hf.len]; exact hb), by simp⟩
  obtain ⟨y, hy⟩ : ∃ y, g[a]? = some y := ⟨g[a]'(by rw [hg.len]; exact ha), by simp⟩
  rw [hx, hy]
  congr 1
  have a1 := hf.val b x hx
  have a2 := hg.val a y hy
  have b1 : 0 ≤ x → 0 ≤ y ∧ y ≤ x := fun h => by
    obtain ⟨k, rfl⟩ := Int.eq_ofNat_of_zero_le h
    obtain ⟨z, h1, h2, h3⟩ := hf.back hs hg k b 0 hx hg.st0 (by omega)
    rw [hy] at h1; cases h1; exact ⟨h2, by omega⟩
  have b2 : 0 ≤ y → 0 ≤ x ∧ x ≤ y := fun h => by
    obtain ⟨k, rfl⟩ := Int.eq_ofNat_of_zero_le h
    obtain ⟨z, h1, h2, h3⟩ := hg.back hs hf k a 0 hy hf.st0 (by omega)
    rw [hx] at h1; cases h1; exact ⟨h2, by omega⟩
  omega

theorem beside_getD {n : Nat} {es : List (Int × Int)} {u : Nat} (hu : u < n) : (besideL n es).getD u [] = adj es u := by simp [List.getD, besideL_get, hu]

/-- whoever is beside, is by an edge -/
theorem mem_adj {n : Int} {es : List (Int × Int)} (h : rightB n es = true) (u v : Nat) : v ∈ adj es u ↔ ∃ j, ∃ hj : j < es.length, (es[j] = ((u : Int), (v : Int)) ∨ es[j] = ((v : Int), (u : Int))) := by
  obtain ⟨h0, h1, h2, h3, _⟩ := (rightB_iff _ _).1 h
  unfold adj
  rw [List.mem_flatMap]
  constructor
  · rintro ⟨e, he, hx⟩
    obtain ⟨k, hk, rfl⟩ := List.getElem_of_mem he
    have := h3 k hk
    refine ⟨k, hk, ?_⟩
    unfold adj1 at hx
    split at hx
    · simp at hx; left; ext <;> simp <;> omega
    · split at hx
      · simp at hx; right; ext <;> simp <;> omega
      · simp at hx
  · rintro ⟨k, hk, he⟩
    have := h3 k hk
    refine ⟨es[k], List.getElem_mem hk, ?_⟩
    unfold adj1
    rcases he with he | he
    · rw [he]; simp
    · rw [he] at this ⊢
      simp only at this
      rw [if_neg (by simp; omega), if_pos rfl]; simp

theorem edge_dist {m s : Nat} {es : List (Int × Int)} {d : List Int} (h : rightB m es = true) (hd : IsDist (besideL m es) m s d) {u v : Nat} (hu : u < m) (hv : v < m) (he : v ∈ adj es u) :
    ∃ du dv, d[u]? = some du ∧ d[v]? = some dv ∧ ((du = -1 ∧ dv = -1) ∨ (0 ≤ du ∧ 0 ≤ dv ∧ du ≤ dv + 1 ∧ dv ≤ du + 1)) := by
  obtain ⟨x, hx⟩ : ∃ x, d[u]? = some x := ⟨d[u]'(by rw [hd.len]; exact hu), by simp⟩
  obtain ⟨y, hy⟩ : ∃ y, d[v]? = some y := ⟨d[v]'(by rw [hd.len]; exact hv), by simp⟩
  refine ⟨x, y, hx, hy, ?_⟩
  have a1 := hd.val u x hx
  have a2 := hd.val v y hy
  have hs := adj_sym h
  have he1 : v ∈ (besideL m es).getD u [] := by rw [beside_getD hu]; exact he
  have he2 := hs u v he1
  have b1 : 0 ≤ x → 0 ≤ y ∧ y ≤ x + 1 := fun h0 => by
    obtain ⟨z, h1, h2, h3⟩ := hd.near u x hx h0 v he1
    rw [hy] at h1; cases h1; exact ⟨h2, h3⟩
  have b2 : 0 ≤ y → 0 ≤ x ∧ x ≤ y + 1 := fun h0 => by
    obtain ⟨z, h1, h2, h3⟩ := hd.near v y hy h0 u he2
    rw [hx] at h1; cases h1; exact ⟨h2, h3⟩
  omega

/-- who has one nearer beside it among the first k edges is marked -/
def Near (es : List (Int × Int)) (d : List Int) (k : Nat) (nl : List Bool) : Prop :=
  ∀ (j : Nat) (hj : j < es.length), j < k → ∀ (u v : Nat) (x : Int), (es[j] = ((u : Int), (v : Int)) ∨ es[j] = ((v : Int), (u : Int))) → d[u]? = some x → d[v]? = some (x + 1) → nl[v]? = some true

theorem Near.start (es : List (Int × Int)) (d : List Int) (nl : List Bool) : Near es d 0 nl := fun j _ h => absurd h (by omega)
theorem Near.step {es : List (Int × Int)} {d : List Int} {k : Nat} {nl : List Bool} (h : Near es d k nl) (hk : k < es.length) {p q : Nat} {P Q : Int} {b : Bool} (he : es[k] = ((p : Int), (q : Int)) ∨ es[k] = ((q : Int), (p : Int)))
    (hP : d[p]? = some P) (hQ : d[q]? = some Q) (hPQ : P ≤ Q) (hb : nl[q]? = some b) : Near es d (k + 1) (nl.set q (b || (Q == P + 1))) := by
  have hql : q < nl.length := (List.getElem?_eq_some_iff.1 hb).1
  intro j hj hjk u v x he' hx hy
  rw [List.getElem?_set]
  by_cases hqv : q = v
  · rw [if_pos hqv, if_pos hql]
    subst hqv
    by_cases hjk' : j < k
    · have h1 := h j hj hjk' u q x he' hx hy
      rw [hb] at h1; cases h1; simp
    · obtain rfl : j = k := by omega
      have hup : u = p := by
        rcases he with e | e <;> rcases he' with e' | e' <;> rw [e] at e' <;> simp at e' <;> omega
      subst hup
      rw [hP] at hx; cases hx
      rw [hQ] at hy; cases hy
      simp
  · rw [if_neg hqv]
    by_cases hjk' : j < k
    · exact h j hj hjk' u v x he' hx hy
    · obtain rfl : j = k := by omega
      exfalso
      have hup : u = q ∧ v = p := by
        rcases he with e | e <;> rcases he' with e' | e' <;> rw [e] at e' <;> simp at e' <;> omega
      obtain ⟨rfl, rfl⟩ := hup
      rw [hQ] at hx; cases hx
      rw [hP] at hy; cases hy
      omega
theorem Near.all {m s : Nat} {es : List (Int × Int)} {d : List Int} {nl : List Bool} (h : rightB m es = true) (hd : IsDist (besideL m es) m s d) (hn : Near es d es.length nl) {v : Nat} {x : Int} (hv : d[v]? = some x) (hx : 0 < x) : nl[v]? = some true := by
  obtain ⟨u, h1, h2⟩ := hd.up v x hv hx
  have hum : u < m := by have := (List.getElem?_eq_some_iff.1 h2).1; rw [hd.len] at this; exact this
  rw [beside_getD hum] at h1
  obtain ⟨j, hj, he⟩ := (mem_adj h u v).1 h1
  exact hn j hj hj u v (x - 1) he h2 (by rw [hv]; congr 1; omega)
end Go.Proofs.Ytddndhhhmlcgjaa
