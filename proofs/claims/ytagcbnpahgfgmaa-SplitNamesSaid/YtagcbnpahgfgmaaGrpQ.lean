/- Heads of vertices against links that hang together. -/
import Derived.Test.YtagcbnpahgfgmaaGrpP
import Derived.Test.YtagcbnpahgfgmaaFind
namespace Go.Proofs.Ytagcbnpahgfgmaa
open Go Go.RowKit

theorem RootOf.skip {ls : List Lk} {wo : List Int} {root : Int → Int} (h : RootOf ls wo root) {k : Lk} (hk : k.1 ∈ wo ∨ k.2.1 ∈ wo) : RootOf (ls ++ [k]) wo root := fun x y => by
  rw [h x y]
  constructor
  · intro c; exact c.mono fun a ha => by simp [ha]
  · intro c
    induction c with
    | refl => exact .refl
    | step _ h1 h2 h3 h4 ih =>
      rcases List.mem_append.1 h1 with h1 | h1
      · exact ih.step h1 h2 h3 h4
      · simp at h1; subst h1
        rcases hk with hk | hk
        · exact absurd hk h2
        · exact absurd hk h3
theorem RootOf.unite {ls : List Lk} {wo : List Int} {root : Int → Int} (h : RootOf ls wo root) {k : Lk} (h1 : k.1 ∉ wo) (h2 : k.2.1 ∉ wo) : RootOf (ls ++ [k]) wo (unite root (root k.1) (root k.2.1)) := by
  have hk : k ∈ ls ++ [k] := by simp
  have hup : ∀ {x y}, VCon ls wo x y → VCon (ls ++ [k]) wo x y := fun c => c.mono fun a ha => by simp [ha]
  have key : ∀ x y, Go.Proofs.Ytagcbnpahgfgmaa.unite root (root k.1) (root k.2.1) x = Go.Proofs.Ytagcbnpahgfgmaa.unite root (root k.1) (root k.2.1) y ↔ (root x = root y ∨ ((root x = root k.1 ∨ root x = root k.2.1) ∧ (root y = root k.1 ∨ root y = root k.2.1))) := fun x y => by
    unfold Go.Proofs.Ytagcbnpahgfgmaa.unite
    by_cases hx : root x = root k.1 ∨ root x = root k.2.1
    · rw [if_pos hx]
      by_cases hy : root y = root k.1 ∨ root y = root k.2.1
      · rw [if_pos hy]; exact ⟨fun _ => .inr ⟨hx, hy⟩, fun _ => rfl⟩
      · rw [if_neg hy]
        constructor
        · intro e; exfalso; apply hy; omega
        · rintro (e | ⟨_, e⟩)
          · exfalso; apply hy; rw [← e]; exact hx
          · exact absurd e hy
    · rw [if_neg hx]
      by_cases hy : root y = root k.1 ∨ root y = root k.2.1
      · rw [if_pos hy]
        constructor
        · intro e; exfalso; apply hx; omega
        · rintro (e | ⟨e, _⟩)
          · exfalso; apply hx; rw [e]; exact hy
          · exact absurd e hx
      · rw [if_neg hy]
        exact ⟨fun e => .inl e, fun e => e.resolve_right fun e' => hx e'.1⟩
  have toK : ∀ x, (root x = root k.1 ∨ root x = root k.2.1) → VCon (ls ++ [k]) wo x k.1 := fun x hx => by
    rcases hx with hx | hx
    · exact hup ((h _ _).1 hx)
    · exact (hup ((h _ _).1 hx)).trans (VCon.link hk h1 h2).symm
  intro x y
  rw [key]
  constructor
  · rintro (e | ⟨hx, hy⟩)
    · exact hup ((h _ _).1 e)
    · exact (toK x hx).trans (toK y hy).symm
  · intro c
    induction c with
    | refl => exact .inl rfl
    | step c0 m1 m2 m3 m4 ih =>
      rename_i y z k'
      have step : root y = root z ∨ ((root y = root k.1 ∨ root y = root k.2.1) ∧ (root z = root k.1 ∨ root z = root k.2.1)) := by
        rcases List.mem_append.1 m1 with m1 | m1
        · left; exact (h _ _).2 (VCon.refl.step m1 m2 m3 m4)
        · simp at m1; subst m1
          rcases m4 with ⟨rfl, rfl⟩ | ⟨rfl, rfl⟩
          · exact .inr ⟨.inl rfl, .inr rfl⟩
          · exact .inr ⟨.inr rfl, .inl rfl⟩
      rcases ih with e | ⟨e1, e2⟩
      · rw [e]; exact step
      · rcases step with e3 | ⟨_, e4⟩
        · rw [e3] at e2; exact .inr ⟨e1, e2⟩
        · exact .inr ⟨e1, e4⟩

/-- the kind of the link at i: a head, or itself alone -/
def colZ (ls : List Lk) (wo : List Int) (root : Int → Int) (i : Nat) : Int := match ls[i]? with
  | some k => if k.1 ∈ wo then (if k.2.1 ∈ wo then -((i : Int) + 1) else root k.2.1) else root k.1
  | none => -((i : Int) + 1)
theorem col_end {ls : List Lk} {wo : List Int} {root : Int → Int} (h : RootOf ls wo root) {i : Nat} {k : Lk} (hi : ls[i]? = some k) {v : Int} (hv : v ∉ wo) (he : v = k.1 ∨ v = k.2.1) : colZ ls wo root i = root v := by
  have hm := List.mem_of_getElem? hi
  unfold colZ
  rw [hi]
  simp only
  rcases he with rfl | rfl
  · rw [if_neg hv]
  · by_cases h1 : k.1 ∈ wo
    · rw [if_pos h1, if_neg hv]
    · rw [if_neg h1]
      exact (h _ _).2 (VCon.link hm h1 hv)
theorem col_iff {ls : List Lk} {wo : List Int} {root : Int → Int} (h : RootOf ls wo root) (hnn : ∀ v, 0 ≤ v → 0 ≤ root v) (hok : ∀ k ∈ ls, OkL k) {i j : Nat} (hi : i < ls.length) (hj : j < ls.length) :
    colZ ls wo root i = colZ ls wo root j ↔ LCon ls wo i j := by
  constructor
  · intro e
    obtain ⟨a, ha⟩ : ∃ a, ls[i]? = some a := ⟨ls[i], by simp⟩
    obtain ⟨b, hb⟩ : ∃ b, ls[j]? = some b := ⟨ls[j], by simp⟩
    have oka := hok a (List.mem_of_getElem? ha)
    have okb := hok b (List.mem_of_getElem? hb)
    -- an end of a link that is left
    have ends : ∀ (m : Nat) (k : Lk), ls[m]? = some k → OkL k → (∃ v, v ∉ wo ∧ (v = k.1 ∨ v = k.2.1) ∧ 0 ≤ v) ∨ colZ ls wo root m = -((m : Int) + 1) := fun m k hm ok => by
      by_cases h1 : k.1 ∈ wo
      · by_cases h2 : k.2.1 ∈ wo
        · right; unfold colZ; rw [hm]; simp only; rw [if_pos h1, if_pos h2]
        · left; exact ⟨_, h2, .inr rfl, by have := ok.1; have := ok.2.1; omega⟩
      · left; exact ⟨_, h1, .inl rfl, ok.1⟩
    rcases ends i a ha oka with ⟨u, u1, u2, u3⟩ | hneg
    · rcases ends j b hb okb with ⟨v, v1, v2, v3⟩ | hneg
      · rw [col_end h ha u1 u2, col_end h hb v1 v2, h] at e
        have key : ∀ y, VCon ls wo u y → y ∉ wo → ∀ (m : Nat) (k : Lk), ls[m]? = some k → (y = k.1 ∨ y = k.2.1) → LCon ls wo i m := by
          intro y hy
          induction hy with
          | refl =>
            intro _ m k hm hk
            exact (show Con (bsL ls wo) (· < ls.length) i i from .refl hi).step (mem_bsL.2 ⟨a, k, ha, hm, (touchB_iff _ _ _).2 ⟨u, u1, u2, hk⟩⟩) (List.getElem?_eq_some_iff.1 hm).1
          | step _c0 m1 m2 m3 m4 ih =>
            rename_i y z k'
            intro hz m k hm hk
            obtain ⟨p, hp, hpe⟩ := List.getElem_of_mem m1
            have hp2 : ls[p]? = some k' := by rw [List.getElem?_eq_getElem hp, hpe]
            have hy1 : y ∉ wo ∧ (y = k'.1 ∨ y = k'.2.1) ∧ (z = k'.1 ∨ z = k'.2.1) := by
              rcases m4 with ⟨e1, e2⟩ | ⟨e1, e2⟩
              · exact ⟨by rw [e1]; exact m2, .inl e1, .inr e2⟩
              · exact ⟨by rw [e1]; exact m3, .inr e1, .inl e2⟩
            have c1 := ih hy1.1 p k' hp2 hy1.2.1
            exact c1.step (mem_bsL.2 ⟨k', k, hp2, hm, (touchB_iff _ _ _).2 ⟨z, hz, hy1.2.2, hk⟩⟩) (List.getElem?_eq_some_iff.1 hm).1
        exact key v e v1 j b hb v2
      · exfalso
        rw [hneg, col_end h ha u1 u2] at e
        have := hnn u u3; omega
    · rcases ends j b hb okb with ⟨v, v1, v2, v3⟩ | hneg2
      · exfalso
        rw [hneg, col_end h hb v1 v2] at e
        have := hnn v v3; omega
      · rw [hneg, hneg2] at e
        have : i = j := by omega
        subst this; exact .refl hi
  · intro c
    induction c with
    | refl _ => rfl
    | step _c0 m1 m2 ih =>
      rename_i y z
      obtain ⟨a, b, ha, hb, ht⟩ := mem_bsL.1 m1
      obtain ⟨v, v1, v2, v3⟩ := (touchB_iff _ _ _).1 ht
      have hy : y < ls.length := (List.getElem?_eq_some_iff.1 ha).1
      rw [ih hy, col_end h ha v1 v2, col_end h hb v1 v3]
theorem first_of (c : Nat → Int) (n : Nat) : ∀ j, j < n → ∃ i ∈ firsts c n, c i = c j := by
  intro j
  induction j using Nat.strongRecOn with
  | _ j ih =>
    intro hj
    by_cases h : ∀ i, i < j → c i ≠ c j
    · exact ⟨j, mem_firsts.2 ⟨hj, h⟩, rfl⟩
    · have : ∃ i, i < j ∧ c i = c j := Classical.byContradiction fun hno => h fun i hi e => hno ⟨i, hi, e⟩
      obtain ⟨i, hi, e⟩ := this
      obtain ⟨m, hm, e2⟩ := ih i hi (by omega)
      exact ⟨m, hm, e2.trans e⟩
/-- where the groups stand -/
def AtOf (A : Int → Option Int) (c : Nat → Int) (k : Nat) : Prop :=
  (∀ v q, A v = some q → ∃ p i : Nat, q = (p : Int) ∧ (firsts c k)[p]? = some i ∧ c i = v) ∧ (∀ v, 0 ≤ v → A v = none → ∀ i ∈ firsts c k, c i ≠ v)
theorem AtOf.start (c : Nat → Int) : AtOf (fun _ => none) c 0 := ⟨(fun v q h => by cases h), fun v _ _ i hi => by simp [firsts] at hi⟩
theorem AtOf.neg {A : Int → Option Int} {c : Nat → Int} {k : Nat} (h : AtOf A c k) (hn : ∀ j, j < k → c j ≠ c k) (hk : c k < 0) : AtOf A c (k + 1) := by
  refine ⟨fun v q hq => ?_, fun v hv hq i hi => ?_⟩
  · obtain ⟨p, i, h1, h2, h3⟩ := h.1 v q hq
    exact ⟨p, i, h1, by rw [firsts_succ, if_pos hn, List.getElem?_append_left (List.getElem?_eq_some_iff.1 h2).1]; exact h2, h3⟩
  · rw [firsts_succ, if_pos hn] at hi
    rcases List.mem_append.1 hi with hi | hi
    · exact h.2 v hv hq i hi
    · simp at hi; subst hi; omega
theorem AtOf.old {A : Int → Option Int} {c : Nat → Int} {k p i : Nat} (h : AtOf A c k) (hp : (firsts c k)[p]? = some i) (hc : c i = c k) : AtOf A c (k + 1) := by
  have hi := (mem_firsts.1 (List.mem_of_getElem? hp)).1
  have e : firsts c (k + 1) = firsts c k := by rw [firsts_succ, if_neg (fun hn => hn i hi hc), List.append_nil]
  unfold AtOf
  rw [e]; exact h
theorem AtOf.fresh {A : Int → Option Int} {c : Nat → Int} {k : Nat} (h : AtOf A c k) (hk : 0 ≤ c k) (hA : A (c k) = none) : ∀ j, j < k → c j ≠ c k := fun j hj e => by
  obtain ⟨i, hi, e2⟩ := first_of c k j hj
  exact h.2 _ hk hA i hi (e2.trans e)
theorem AtOf.new {A : Int → Option Int} {c : Nat → Int} {k : Nat} (h : AtOf A c k) (hk : 0 ≤ c k) (hA : A (c k) = none) : AtOf (updF A (c k) ((firsts c k).length : Int)) c (k + 1) := by
  have hn := h.fresh hk hA
  have e : firsts c (k + 1) = firsts c k ++ [k] := by rw [firsts_succ, if_pos hn]
  refine ⟨fun v q hq => ?_, fun v hv hq i hi => ?_⟩
  · by_cases ev : v = c k
    · subst ev
      rw [updF_same] at hq; cases hq
      exact ⟨_, k, rfl, by rw [e]; simp, rfl⟩
    · rw [updF_ne _ _ ev] at hq
      obtain ⟨p, i, h1, h2, h3⟩ := h.1 v q hq
      exact ⟨p, i, h1, by rw [e, List.getElem?_append_left (List.getElem?_eq_some_iff.1 h2).1]; exact h2, h3⟩
  · by_cases ev : v = c k
    · subst ev; rw [updF_same] at hq; cases hq
    · rw [updF_ne _ _ ev] at hq
      rw [e] at hi
      rcases List.mem_append.1 hi with hi | hi
      · exact h.2 v hv hq i hi
      · simp at hi; subst hi; exact fun e => ev e.symm
theorem col_neg {ls : List Lk} {wo : List Int} {root : Int → Int} (hnn : ∀ v, 0 ≤ v → 0 ≤ root v) (hok : ∀ k ∈ ls, OkL k) {k : Nat} {x : Lk} (hk : ls[k]? = some x) (h1 : x.1 ∈ wo) (h2 : x.2.1 ∈ wo) :
    colZ ls wo root k < 0 ∧ ∀ j, j < k → colZ ls wo root j ≠ colZ ls wo root k := by
  have e : colZ ls wo root k = -((k : Int) + 1) := by unfold colZ; rw [hk]; simp only; rw [if_pos h1, if_pos h2]
  refine ⟨by omega, fun j hj e2 => ?_⟩
  rw [e] at e2
  unfold colZ at e2
  cases hy : ls[j]? with
  | none => rw [hy] at e2; simp only at e2; omega
  | some y =>
    have ok := hok y (List.mem_of_getElem? hy)
    rw [hy] at e2
    simp only at e2
    have h3 := hnn y.1 ok.1
    have h4 := hnn y.2.1 (by have := ok.1; have := ok.2.1; omega)
    split at e2
    · split at e2
      · omega
      · omega
    · omega
theorem pickL_append (ls : List Lk) (a b : List Nat) : pickL ls (a ++ b) = pickL ls a ++ pickL ls b := by simp [pickL]
theorem pickL_one {ls : List Lk} {i : Nat} {k : Lk} (h : ls[i]? = some k) : pickL ls [i] = [k] := by simp [pickL, h]
theorem pickL_length_le (ls : List Lk) (g : List Nat) : (pickL ls g).length ≤ g.length := List.length_filterMap_le _ _
end Go.Proofs.Ytagcbnpahgfgmaa
