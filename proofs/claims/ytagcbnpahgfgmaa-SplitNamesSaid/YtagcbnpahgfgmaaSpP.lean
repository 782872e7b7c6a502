/- Links split at pairs until no pair parts them: steps on a list of what is still to be split. No program in sight. -/
import Derived.Test.YtagcbnpahgfgmaaPaQ
namespace Go.Proofs.Ytagcbnpahgfgmaa

/-! ### the first pair, reckoned -/
def firstIK (B : Nat → Nat → Bool) (n : Nat) : Option (Nat × Nat) := (List.range n).findSome? fun i => ((List.range n).find? fun k => decide (i < k) && B i k).map fun k => (i, k)
theorem firstIK_none {B : Nat → Nat → Bool} {n : Nat} (h : firstIK B n = none) : ∀ i k, i < k → k < n → B i k = false := by
  intro i k hik hk
  unfold firstIK at h
  rw [List.findSome?_eq_none_iff] at h
  have h1 := h i (List.mem_range.2 (by omega))
  rw [Option.map_eq_none_iff, List.find?_eq_none] at h1
  have := h1 k (List.mem_range.2 hk)
  simpa [hik] using this
theorem firstIK_some {B : Nat → Nat → Bool} {n i k : Nat} (h : firstIK B n = some (i, k)) : FirstAt B n i k := by
  unfold firstIK at h
  rw [List.findSome?_eq_some_iff] at h
  obtain ⟨l1, a, l2, e, ha, hb⟩ := h
  rw [Option.map_eq_some_iff] at ha
  obtain ⟨k', hk', he⟩ := ha
  cases he
  rw [List.find?_range_eq_some] at hk'
  obtain ⟨h1, h2, h3⟩ := hk'
  simp only [Bool.and_eq_true, decide_eq_true_eq] at h1
  rw [List.mem_range] at h2
  have hl1 : l1 = List.range i := by
    have h5 := congrArg (List.take l1.length) e
    rw [List.take_left, List.take_range] at h5
    have hlen : l1.length = i := by
      have h6 := congrArg (fun l => l[l1.length]?) e
      simp only [List.getElem?_append_right (Nat.le_refl _), Nat.sub_self, List.getElem?_cons_zero] at h6
      rw [List.getElem?_eq_some_iff] at h6
      obtain ⟨h7, h8⟩ := h6
      simpa using h8
    rw [← h5, hlen, Nat.min_eq_left (by omega)]
  refine ⟨h1.1, h2, h1.2, fun k2 a1 a2 => ?_, fun i2 k2 a1 a2 a3 => ?_⟩
  · have := h3 k2 a2
    simpa [a1] using this
  · have h9 := hb i2 (by rw [hl1]; exact List.mem_range.2 a1)
    rw [Option.map_eq_none_iff, List.find?_eq_none] at h9
    have := h9 k2 (List.mem_range.2 a3)
    simpa [a2] using this
def firstC (ls : List Lk) : Int × Int × Bool × Int :=
  if twoL ls then match firstIK (pairAt ls) (vertsL ls).length with
    | some p => ((vertsL ls).getD p.1 0, (vertsL ls).getD p.2 0, true, 0)
    | none => (0, 0, false, 0)
  else (0, 0, false, 130)
theorem first_c (ls : List Lk) : firstL ls = firstC ls := by
  unfold firstC
  cases h : twoL ls with
  | false => rw [first_no h]; rfl
  | true =>
    simp only [if_true]
    cases hf : firstIK (pairAt ls) (vertsL ls).length with
    | none => rw [first_none h (firstIK_none hf)]
    | some p => rw [first_at h (firstIK_some hf)]
/-- a pair that is told parts the links -/
theorem firstC_true {ls : List Lk} {a b er : Int} (h : firstC ls = (a, b, true, er)) : twoL ls = true ∧ a ∈ vertsL ls ∧ b ∈ vertsL ls ∧ a < b ∧ pairP ls a b = true ∧ er = 0 := by
  unfold firstC at h
  cases h2 : twoL ls with
  | false => rw [h2] at h; simp at h
  | true =>
    rw [h2] at h
    simp only [if_true] at h
    cases hf : firstIK (pairAt ls) (vertsL ls).length with
    | none => rw [hf] at h; simp at h
    | some p =>
      rw [hf] at h
      simp only [Prod.mk.injEq] at h
      obtain ⟨e1, e2, _, e4⟩ := h
      have hfa := firstIK_some (i := p.1) (k := p.2) hf
      have hil : p.1 < (vertsL ls).length := by have := hfa.lt; have := hfa.ltn; omega
      have g1 : (vertsL ls).getD p.1 0 = (vertsL ls)[p.1] := by simp [List.getD, hil]
      have g2 : (vertsL ls).getD p.2 0 = (vertsL ls)[p.2]'hfa.ltn := by simp [List.getD, hfa.ltn]
      have hy := hfa.yes
      unfold pairAt at hy
      rw [e1, e2] at hy
      rw [g1] at e1; rw [g2] at e2
      refine ⟨rfl, by rw [← e1]; exact List.getElem_mem _, by rw [← e2]; exact List.getElem_mem _, ?_, hy, e4.symm⟩
      rw [← e1, ← e2]
      exact List.pairwise_iff_getElem.1 (vertsL_sorted ls) _ _ hil hfa.ltn hfa.lt

theorem mem_le_sum {L : List Nat} {x : Nat} (h : x ∈ L) : x ≤ L.sum := by
  induction L with
  | nil => simp at h
  | cons c L ih =>
    rw [List.sum_cons]
    rcases List.mem_cons.1 h with rfl | h
    · omega
    · have := ih h; omega

/-! ### the two sides -/
def chosenB (n : Nat) (c : List Lk) : Bool := decide (1 < c.length) && decide (1 < (n : Int) - (c.length : Int))
def fromTo (n : Nat) (G : List (List Lk)) : Nat × Nat := match G.findIdx? (chosenB n) with
  | some i => (i, i + 1)
  | none => (0, 2)
def inS (f t : Nat) (G : List (List Lk)) (i : Nat) : List Lk := (List.range i).flatMap fun j => if f ≤ j ∧ j < t then G.getD j [] else []
def outS (f t : Nat) (G : List (List Lk)) (i : Nat) : List Lk := (List.range i).flatMap fun j => if f ≤ j ∧ j < t then [] else G.getD j []
theorem inS_succ (f t : Nat) (G : List (List Lk)) (i : Nat) (h : i < G.length) : inS f t G (i + 1) = inS f t G i ++ if f ≤ i ∧ i < t then G[i] else [] := by
  unfold inS
  rw [List.range_succ, List.flatMap_append]; simp [List.getD, h]
theorem outS_succ (f t : Nat) (G : List (List Lk)) (i : Nat) (h : i < G.length) : outS f t G (i + 1) = outS f t G i ++ if f ≤ i ∧ i < t then [] else G[i] := by
  unfold outS
  rw [List.range_succ, List.flatMap_append]; simp [List.getD, h]
def sidesL (ls : List Lk) (a b num : Int) : List Lk × List Lk :=
  let G := groupsL ls [a, b]
  let ft := fromTo ls.length G
  (sortL ((a, b, num) :: inS ft.1 ft.2 G G.length), sortL ((a, b, num) :: outS ft.1 ft.2 G G.length))
def inN (f t : Nat) (L : List Nat) (i : Nat) : Nat := ((List.range i).map fun j => if f ≤ j ∧ j < t then L.getD j 0 else 0).sum
theorem inS_len (f t : Nat) (G : List (List Lk)) : ∀ i, i ≤ G.length → (inS f t G i).length + (outS f t G i).length = (lensL (G.take i)).sum := by
  intro i
  induction i with
  | zero => intro _; simp [inS, outS, lensL]
  | succ i ih =>
    intro h
    rw [inS_succ f t G i (by omega), outS_succ f t G i (by omega), List.length_append, List.length_append, List.take_succ_eq_append_getElem (by omega)]
    have := ih (by omega)
    unfold lensL at this ⊢
    rw [List.map_append, List.sum_append]
    by_cases hc : f ≤ i ∧ i < t
    · rw [if_pos hc, if_pos hc]; simp only [List.length_nil, List.map_cons, List.map_nil, List.sum_cons, List.sum_nil]; omega
    · rw [if_neg hc, if_neg hc]; simp only [List.length_nil, List.map_cons, List.map_nil, List.sum_cons, List.sum_nil]; omega
theorem inS_one (G : List (List Lk)) (p : Nat) : ∀ i, i ≤ G.length → (inS p (p + 1) G i).length = if p < i then (G.getD p []).length else 0 := by
  intro i
  induction i with
  | zero => intro _; simp [inS]
  | succ i ih =>
    intro h
    rw [inS_succ _ _ G i (by omega), List.length_append, ih (by omega)]
    by_cases e : p = i
    · subst e
      rw [if_neg (by omega), if_pos (by omega), if_pos (by omega)]
      simp [List.getD, show p < G.length by omega]
    · rw [if_neg (show ¬ (p ≤ i ∧ i < p + 1) by omega)]
      by_cases e2 : p < i
      · rw [if_pos e2, if_pos (by omega)]; simp
      · rw [if_neg e2, if_neg (by omega)]; simp
/-- of the pair that is told: both sides have three links at least, and together two more -/
theorem sides_len {ls : List Lk} {a b num : Int} (h : twoL ls = true) (hp : pairP ls a b = true) :
    3 ≤ (sidesL ls a b num).1.length ∧ 3 ≤ (sidesL ls a b num).2.length ∧ (sidesL ls a b num).1.length + (sidesL ls a b num).2.length = ls.length + 2 := by
  have hR := two_right h
  obtain ⟨G, hG⟩ : ∃ G, G = groupsL ls [a, b] := ⟨_, rfl⟩
  have hsum : (lensL G).sum = ls.length := by rw [hG]; exact lens_sum hR
  have hpos : ∀ x ∈ lensL G, 1 ≤ x := by rw [hG]; exact lens_pos hR
  have hpn : partsN (lensL G) = true := by rw [hG]; exact hp
  have hll : (lensL G).length = G.length := by simp [lensL]
  have e1 : ∀ x : List Lk, (sortL ((a, b, num) :: x)).length = x.length + 1 := fun x => by rw [sortL_length]; rfl
  have hio := inS_len (fromTo ls.length G).1 (fromTo ls.length G).2 G G.length (Nat.le_refl _)
  rw [List.take_length, hsum] at hio
  have key : 2 ≤ (inS (fromTo ls.length G).1 (fromTo ls.length G).2 G G.length).length ∧ 2 ≤ (outS (fromTo ls.length G).1 (fromTo ls.length G).2 G G.length).length := by
    unfold fromTo at hio ⊢
    cases hf : G.findIdx? (chosenB ls.length) with
    | some i =>
      rw [hf] at hio
      simp only at hio ⊢
      rw [List.findIdx?_eq_some_iff_getElem] at hf
      obtain ⟨hi, hc, _⟩ := hf
      have h1 := inS_one G i G.length (Nat.le_refl _)
      rw [if_pos hi] at h1
      simp only [List.getD, List.getElem?_eq_getElem hi, Option.getD_some] at h1
      unfold chosenB at hc
      simp only [Bool.and_eq_true, decide_eq_true_eq] at hc
      omega
    | none =>
      rw [hf] at hio
      simp only at hio ⊢
      rw [List.findIdx?_eq_none_iff] at hf
      -- no class is chosen: all are single links, four at least
      have hall : ∀ x ∈ lensL G, x = 1 := fun x hx => by
        refine Classical.byContradiction fun hx1 => ?_
        have h1 := hpos x hx
        unfold lensL at hx
        obtain ⟨r, hr, rfl⟩ := List.mem_map.1 hx
        have hch := hf r hr
        unfold chosenB at hch
        simp only [Bool.and_eq_false_iff, decide_eq_false_iff_not] at hch
        have hbig : ls.length ≤ r.length + 1 := by omega
        -- then the others are one link at most: such do not part
        obtain ⟨i, k, hik, hk, h2, h3⟩ := (parts_ref _ hpos).1 hpn
        rw [hsum] at h3
        obtain ⟨m, hm⟩ := List.getElem?_of_mem hr
        have hml := (List.getElem?_eq_some_iff.1 hm).1
        have hlm := lens_at hm
        have hone : ∀ j x, (lensL G)[j]? = some x → j ≠ m → x + r.length ≤ ls.length := fun j x hj hjm => by
          have h4 : ∀ (L : List Nat) (j m x y : Nat), j ≠ m → L[j]? = some x → L[m]? = some y → x + y ≤ L.sum := by
            intro L
            induction L with
            | nil => intro j m x y _ hj; simp at hj
            | cons c L ih =>
              intro j m x y hjm hj hm
              rw [List.sum_cons]
              have hmem : ∀ (t z : Nat), L[t]? = some z → z ≤ L.sum := fun t z ht => by
                have := mem_le_sum (List.mem_of_getElem? ht)
                exact this
              cases j with
              | zero =>
                cases m with
                | zero => exact absurd rfl hjm
                | succ m => simp at hj hm; have := hmem m y hm; omega
              | succ j =>
                cases m with
                | zero => simp at hj hm; have := hmem j x hj; omega
                | succ m => simp at hj hm; have := ih j m x y (by omega) hj hm; omega
          have := h4 (lensL G) j m x r.length hjm hj hlm
          rw [hsum] at this; exact this
        have hkl : k < (lensL G).length := hk
        have hil : i < (lensL G).length := by omega
        unfold szN at h2 h3
        have gi : (lensL G).getD i 0 = (lensL G)[i] := by simp [List.getD, hil]
        have gk : (lensL G).getD k 0 = (lensL G)[k] := by simp [List.getD, hkl]
        rw [gi, gk] at h2 h3
        have pi := hpos _ (List.getElem_mem hil)
        have pk := hpos _ (List.getElem_mem hkl)
        by_cases him : i = m
        · have : (lensL G)[i] = r.length := by rw [List.getElem?_eq_some_iff] at hlm; obtain ⟨_, e⟩ := hlm; subst him; exact e
          omega
        · have a1 := hone i _ (List.getElem?_eq_getElem hil) him
          by_cases hlt : i < k
          · rw [if_pos hlt] at h2 h3
            by_cases hkm : k = m
            · have : (lensL G)[k] = r.length := by rw [List.getElem?_eq_some_iff] at hlm; obtain ⟨_, e⟩ := hlm; subst hkm; exact e
              omega
            · have a2 := hone k _ (List.getElem?_eq_getElem hkl) hkm
              -- three different classes
              have h5 : ∀ (L : List Nat) (j m t x y z : Nat), j ≠ m → j ≠ t → m ≠ t → L[j]? = some x → L[m]? = some y → L[t]? = some z → x + y + z ≤ L.sum := by
                intro L
                induction L with
                | nil => intro j m t x y z _ _ _ hj; simp at hj
                | cons c L ih =>
                  intro j m t x y z q1 q2 q3 hj hm ht
                  rw [List.sum_cons]
                  have h4 : ∀ (L : List Nat) (j m x y : Nat), j ≠ m → L[j]? = some x → L[m]? = some y → x + y ≤ L.sum := by
                    intro L
                    induction L with
                    | nil => intro j m x y _ hj; simp at hj
                    | cons c L ih =>
                      intro j m x y hjm hj hm
                      rw [List.sum_cons]
                      have hmem : ∀ (t z : Nat), L[t]? = some z → z ≤ L.sum := fun t z ht => mem_le_sum (List.mem_of_getElem? ht)
                      cases j with
                      | zero =>
                        cases m with
                        | zero => exact absurd rfl hjm
                        | succ m => simp at hj hm; have := hmem m y hm; omega
                      | succ j =>
                        cases m with
                        | zero => simp at hj hm; have := hmem j x hj; omega
                        | succ m => simp at hj hm; have := ih j m x y (by omega) hj hm; omega
                  cases j with
                  | zero =>
                    cases m with
                    | zero => omega
                    | succ m =>
                      cases t with
                      | zero => omega
                      | succ t => simp at hj hm ht; have := h4 L m t y z (by omega) hm ht; omega
                  | succ j =>
                    cases m with
                    | zero =>
                      cases t with
                      | zero => omega
                      | succ t => simp at hj hm ht; have := h4 L j t x z (by omega) hj ht; omega
                    | succ m =>
                      cases t with
                      | zero => simp at hj hm ht; have := h4 L j m x y (by omega) hj hm; omega
                      | succ t => simp at hj hm ht; have := ih j m t x y z (by omega) (by omega) (by omega) hj hm ht; omega
              have a3 := h5 (lensL G) i k m _ _ _ (by omega) him hkm (List.getElem?_eq_getElem hil) (List.getElem?_eq_getElem hkl) hlm
              rw [hsum] at a3
              omega
          · rw [if_neg hlt] at h2 h3
            omega
      have hL : ∀ M : List Nat, (∀ x ∈ M, x = 1) → M.sum = M.length ∧ onesN M = M.length := fun M => by
        induction M with
        | nil => intro _; exact ⟨rfl, rfl⟩
        | cons a M ih =>
          intro h
          obtain ⟨i1, i2⟩ := ih fun x hx => h x (by simp [hx])
          have ha := h a (by simp)
          rw [onesN_cons, i2]
          simp [ha, i1]; omega
      obtain ⟨s1, s2⟩ := hL _ hall
      have h4 : 4 ≤ G.length := by
        unfold partsN at hpn
        rw [s2, hll] at hpn
        refine Classical.byContradiction fun hno => ?_
        have : G.length = 0 ∨ G.length = 1 ∨ G.length = 2 ∨ G.length = 3 := by omega
        rcases this with e | e | e | e <;> rw [e] at hpn <;> simp at hpn
      have hin2 : (inS 0 2 G G.length).length = 2 := by
        have hg : ∀ i, (h : i < G.length) → G[i].length = 1 := fun i h => hall _ (List.mem_map.2 ⟨G[i], List.getElem_mem _, rfl⟩)
        have hst : ∀ i, 2 ≤ i → i ≤ G.length → (inS 0 2 G i).length = 2 := by
          intro i hi
          induction i with
          | zero => omega
          | succ i ih =>
            intro h
            rw [inS_succ 0 2 G i (by omega), List.length_append]
            by_cases e : i = 1
            · subst e
              rw [if_pos (by omega), inS_succ 0 2 G 0 (by omega), List.length_append, if_pos (by omega), hg 0 (by omega), hg 1 (by omega)]
              simp [inS]
            · rw [if_neg (by omega), ih (by omega) (by omega)]; rfl
        exact hst G.length (by omega) (Nat.le_refl _)
      rw [hin2] at hio ⊢
      omega
  unfold sidesL
  simp only [← hG, e1]
  omega
end Go.Proofs.Ytagcbnpahgfgmaa
