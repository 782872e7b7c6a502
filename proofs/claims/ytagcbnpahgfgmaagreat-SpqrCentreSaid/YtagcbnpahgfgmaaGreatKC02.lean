/- Facts that the claim rests on, part 3. -/
import Derived.Test.YtagcbnpahgfgmaaGreatKC01
namespace Go.Proofs.YtagcbnpahgfgmaaGreat
def firstIK (B : Nat → Nat → Bool) (n : Nat) : Option (Nat × Nat) := (List.range n).findSome? fun i => ((List.range n).find? fun k => decide (i < k) && B i k).map fun k => (i, k)
theorem firstIK_none {B : Nat → Nat → Bool} {n : Nat} (h : firstIK B n = none) : ∀ i k, i < k → k < n → B i k = false := by
 intro i k hik hk
 unfold firstIK at h
 rw [List.findSome?_eq_none_iff] at h
 have h1 := h i (List.mem_range.2 (by omega))
 rw [Option.map_eq_none_iff, List.find?_eq_none] at h1
 have := h1 k (List.mem_range.2 hk)
 simpa [hik] using this
theorem firstIK_some {B : Nat → Nat → Bool} {n i k : Nat} (h : firstIK B n = some (i, k)) : FirstAt B n i k := by
 unfold firstIK at h
 rw [List.findSome?_eq_some_iff] at h
 obtain ⟨l1, a, l2, e, ha, hb⟩ := h
 rw [Option.map_eq_some_iff] at ha
 obtain ⟨k', hk', he⟩ := ha
 cases he
 rw [List.find?_range_eq_some] at hk'
 obtain ⟨h1, h2, h3⟩ := hk'
 simp only [Bool.and_eq_true, decide_eq_true_eq] at h1
 rw [List.mem_range] at h2
 have hl1 : l1 = List.range i := by
  have h5 := congrArg (List.take l1.length) e
  rw [List.take_left, List.take_range] at h5
  have hlen : l1.length = i := by
   have h6 := congrArg (fun l => l[l1.length]?) e; simp only [List.getElem?_append_right (Nat.le_refl _), Nat.sub_self, List.getElem?_cons_zero] at h6; rw [List.getElem?_eq_some_iff] at h6; obtain ⟨h7, h8⟩ := h6; simpa using h8
  rw [← h5, hlen, Nat.min_eq_left (by omega)]
 refine ⟨h1.1, h2, h1.2, fun k2 a1 a2 => ?_, fun i2 k2 a1 a2 a3 => ?_⟩
 ·
  have := h3 k2 a2
  simpa [a1] using this
 ·
  have h9 := hb i2 (by rw [hl1]; exact List.mem_range.2 a1)
  rw [Option.map_eq_none_iff, List.find?_eq_none] at h9
  have := h9 k2 (List.mem_range.2 a3)
  simpa [a2] using this
def firstC (ls : List Lk) : Int × Int × Bool × Int :=
 if twoL ls then match firstIK (pairAt ls) (vertsL ls).length with
  | some p => ((vertsL ls).getD p.1 0, (vertsL ls).getD p.2 0, true, 0)
  | none => (0, 0, false, 0)
 else (0, 0, false, 130)
theorem first_c (ls : List Lk) : firstL ls = firstC ls := by
 unfold firstC
 cases h : twoL ls with
 | false => rw [first_no h]; rfl
 | true =>
  simp only [if_true]
  cases hf : firstIK (pairAt ls) (vertsL ls).length with
  | none => rw [first_none h (firstIK_none hf)]
  | some p => rw [first_at h (firstIK_some hf)]
theorem firstC_true {ls : List Lk} {a b er : Int} (h : firstC ls = (a, b, true, er)) : twoL ls = true ∧ a ∈ vertsL ls ∧ b ∈ vertsL ls ∧ a < b ∧ pairP ls a b = true ∧ er = 0 := by
 unfold firstC at h
 cases h2 : twoL ls with
 | false => rw [h2] at h; simp at h
 | true =>
  rw [h2] at h
  simp only [if_true] at h
  cases hf : firstIK (pairAt ls) (vertsL ls).length with
  | none => rw [hf] at h; simp at h
  | some p =>
   rw [hf] at h; simp only [Prod.mk.injEq] at h; obtain ⟨e1, e2, _, e4⟩ := h; have hfa := firstIK_some (i := p.1) (k := p.2) hf; have hil : p.1 < (vertsL ls).length := by have := hfa.lt; have := hfa.ltn; omega
   have g1 : (vertsL ls).getD p.1 0 = (vertsL ls)[p.1] := by simp [List.getD, hil]
   have g2 : (vertsL ls).getD p.2 0 = (vertsL ls)[p.2]'hfa.ltn := by simp [List.getD, hfa.ltn]
   have hy := hfa.yes; unfold pairAt at hy; rw [e1, e2] at hy; rw [g1] at e1; rw [g2] at e2; refine ⟨rfl, by rw [← e1]; exact List.getElem_mem _, by rw [← e2]; exact List.getElem_mem _, ?_, hy, e4.symm⟩; rw [← e1, ← e2]; exact List.pairwise_iff_getElem.1 (vertsL_sorted ls) _ _ hil hfa.ltn hfa.lt
theorem mem_le_sum {L : List Nat} {x : Nat} (h : x ∈ L) : x ≤ L.sum := by
 induction L with
 | nil => simp at h
 | cons c L ih =>
  rw [List.sum_cons]
  rcases List.mem_cons.1 h with rfl | h
  · omega
  · have := ih h; omega
def chosenB (n : Nat) (c : List Lk) : Bool := decide (1 < c.length) && decide (1 < (n : Int) - (c.length : Int))
def fromTo (n : Nat) (G : List (List Lk)) : Nat × Nat := match G.findIdx? (chosenB n) with
 | some i => (i, i + 1)
 | none => (0, 2)
def inS (f t : Nat) (G : List (List Lk)) (i : Nat) : List Lk := (List.range i).flatMap fun j => if f ≤ j ∧ j < t then G.getD j [] else []
def outS (f t : Nat) (G : List (List Lk)) (i : Nat) : List Lk := (List.range i).flatMap fun j => if f ≤ j ∧ j < t then [] else G.getD j []
theorem inS_succ (f t : Nat) (G : List (List Lk)) (i : Nat) (h : i < G.length) : inS f t G (i + 1) = inS f t G i ++ if f ≤ i ∧ i < t then G[i] else [] := by
 unfold inS
 rw [List.range_succ, List.flatMap_append]; simp [List.getD, h]
theorem outS_succ (f t : Nat) (G : List (List Lk)) (i : Nat) (h : i < G.length) : outS f t G (i + 1) = outS f t G i ++ if f ≤ i ∧ i < t then [] else G[i] := by
 unfold outS
 rw [List.range_succ, List.flatMap_append]; simp [List.getD, h]
def sidesL (ls : List Lk) (a b num : Int) : List Lk × List Lk :=
 let G := groupsL ls [a, b]
 let ft := fromTo ls.length G
 (sortL ((a, b, num) :: inS ft.1 ft.2 G G.length), sortL ((a, b, num) :: outS ft.1 ft.2 G G.length))
theorem inS_len (f t : Nat) (G : List (List Lk)) : ∀ i, i ≤ G.length → (inS f t G i).length + (outS f t G i).length = (lensL (G.take i)).sum := by
 intro i
 induction i with
 | zero => intro _; simp [inS, outS, lensL]
 | succ i ih =>
  intro h
  rw [inS_succ f t G i (by omega), outS_succ f t G i (by omega), List.length_append, List.length_append, List.take_succ_eq_append_getElem (by omega)]
  have := ih (by omega)
  unfold lensL at this ⊢
  rw [List.map_append, List.sum_append]
  by_cases hc : f ≤ i ∧ i < t
  · rw [if_pos hc, if_pos hc]; simp only [List.length_nil, List.map_cons, List.map_nil, List.sum_cons, List.sum_nil]; omega
  · rw [if_neg hc, if_neg hc]; simp only [List.length_nil, List.map_cons, List.map_nil, List.sum_cons, List.sum_nil]; omega
theorem inS_one (G : List (List Lk)) (p : Nat) : ∀ i, i ≤ G.length → (inS p (p + 1) G i).length = if p < i then (G.getD p []).length else 0 := by
 intro i
 induction i with
 | zero => intro _; simp [inS]
 | succ i ih =>
  intro h
  rw [inS_succ _ _ G i (by omega), List.length_append, ih (by omega)]
  by_cases e : p = i
  ·
   subst e; rw [if_neg (by omega), if_pos (by omega), if_pos (by omega)]; simp [List.getD, show p < G.length by omega]
  ·
   rw [if_neg (show ¬ (p ≤ i ∧ i < p + 1) by omega)]; by_cases e2 : p < i
   · rw [if_pos e2, if_pos (by omega)]; simp
   · rw [if_neg e2, if_neg (by omega)]; simp
theorem sides_len {ls : List Lk} {a b num : Int} (h : twoL ls = true) (hp : pairP ls a b = true) :
  3 ≤ (sidesL ls a b num).1.length ∧ 3 ≤ (sidesL ls a b num).2.length ∧ (sidesL ls a b num).1.length + (sidesL ls a b num).2.length = ls.length + 2 := by
 have hR := two_right h
 obtain ⟨G, hG⟩ : ∃ G, G = groupsL ls [a, b] := ⟨_, rfl⟩
 have hsum : (lensL G).sum = ls.length := by rw [hG]; exact lens_sum hR
 have hpos : ∀ x ∈ lensL G, 1 ≤ x := by rw [hG]; exact lens_pos hR
 have hpn : partsN (lensL G) = true := by rw [hG]; exact hp
 have hll : (lensL G).length = G.length := by simp [lensL]
 have e1 : ∀ x : List Lk, (sortL ((a, b, num) :: x)).length = x.length + 1 := fun x => by rw [sortL_length]; rfl
 have hio := inS_len (fromTo ls.length G).1 (fromTo ls.length G).2 G G.length (Nat.le_refl _)
 rw [List.take_length, hsum] at hio
 have key : 2 ≤ (inS (fromTo ls.length G).1 (fromTo ls.length G).2 G G.length).length ∧ 2 ≤ (outS (fromTo ls.length G).1 (fromTo ls.length G).2 G G.length).length := by
  unfold fromTo at hio ⊢
  cases hf : G.findIdx? (chosenB ls.length) with
  | some i =>
   rw [hf] at hio; simp only at hio ⊢; rw [List.findIdx?_eq_some_iff_getElem] at hf; obtain ⟨hi, hc, _⟩ := hf; have h1 := inS_one G i G.length (Nat.le_refl _); rw [if_pos hi] at h1; simp only [List.getD, List.getElem?_eq_getElem hi, Option.getD_some] at h1; unfold chosenB at hc; simp only [Bool.and_eq_true, decide_eq_true_eq] at hc; omega
  | none =>
   rw [hf] at hio; simp only at hio ⊢; rw [List.findIdx?_eq_none_iff] at hf; have hall : ∀ x ∈ lensL G, x = 1 := fun x hx => by
    refine Classical.byContradiction fun hx1 => ?_; have h1 := hpos x hx; unfold lensL at hx; obtain ⟨r, hr, rfl⟩ := List.mem_map.1 hx; have hch := hf r hr; unfold chosenB at hch; simp only [Bool.and_eq_false_iff, decide_eq_false_iff_not] at hch; have hbig : ls.length ≤ r.length + 1 := by omega
    obtain ⟨i, k, hik, hk, h2, h3⟩ := (parts_ref _ hpos).1 hpn; rw [hsum] at h3; obtain ⟨m, hm⟩ := List.getElem?_of_mem hr; have hml := (List.getElem?_eq_some_iff.1 hm).1; have hlm := lens_at hm; have hone : ∀ j x, (lensL G)[j]? = some x → j ≠ m → x + r.length ≤ ls.length := fun j x hj hjm => by
     have h4 : ∀ (L : List Nat) (j m x y : Nat), j ≠ m → L[j]? = some x → L[m]? = some y → x + y ≤ L.sum := by
      intro L; induction L with
      | nil => intro j m x y _ hj; simp at hj
      | cons c L ih =>
       intro j m x y hjm hj hm; rw [List.sum_cons]; have hmem : ∀ (t z : Nat), L[t]? = some z → z ≤ L.sum := fun t z ht => by
        have := mem_le_sum (List.mem_of_getElem? ht); exact this
       cases j with
       | zero =>
        cases m with
        | zero => exact absurd rfl hjm
        | succ m => simp at hj hm; have := hmem m y hm; omega
       | succ j =>
        cases m with
        | zero => simp at hj hm; have := hmem j x hj; omega
        | succ m => simp at hj hm; have := ih j m x y (by omega) hj hm; omega
     have := h4 (lensL G) j m x r.length hjm hj hlm; rw [hsum] at this; exact this
    have hkl : k < (lensL G).length := hk; have hil : i < (lensL G).length := by omega
    unfold szN at h2 h3; have gi : (lensL G).getD i 0 = (lensL G)[i] := by simp [List.getD, hil]
    have gk : (lensL G).getD k 0 = (lensL G)[k] := by simp [List.getD, hkl]
    rw [gi, gk] at h2 h3; have pi := hpos _ (List.getElem_mem hil); have pk := hpos _ (List.getElem_mem hkl); by_cases him : i = m
    ·
     have : (lensL G)[i] = r.length := by rw [List.getElem?_eq_some_iff] at hlm; obtain ⟨_, e⟩ := hlm; subst him; exact e
     omega
    ·
     have a1 := hone i _ (List.getElem?_eq_getElem hil) him; by_cases hlt : i < k
     ·
      rw [if_pos hlt] at h2 h3; by_cases hkm : k = m
      ·
       have : (lensL G)[k] = r.length := by rw [List.getElem?_eq_some_iff] at hlm; obtain ⟨_, e⟩ := hlm; subst hkm; exact e
       omega
      ·
       have a2 := hone k _ (List.getElem?_eq_getElem hkl) hkm; have h5 : ∀ (L : List Nat) (j m t x y z : Nat), j ≠ m → j ≠ t → m ≠ t → L[j]? = some x → L[m]? = some y → L[t]? = some z → x + y + z ≤ L.sum := by
        intro L; induction L with
        | nil => intro j m t x y z _ _ _ hj; simp at hj
        | cons c L ih =>
         intro j m t x y z q1 q2 q3 hj hm ht; rw [List.sum_cons]; have h4 : ∀ (L : List Nat) (j m x y : Nat), j ≠ m → L[j]? = some x → L[m]? = some y → x + y ≤ L.sum := by
          intro L; induction L with
          | nil => intro j m x y _ hj; simp at hj
          | cons c L ih =>
           intro j m x y hjm hj hm; rw [List.sum_cons]; have hmem : ∀ (t z : Nat), L[t]? = some z → z ≤ L.sum := fun t z ht => mem_le_sum (List.mem_of_getElem? ht); cases j with
           | zero =>
            cases m with
            | zero => exact absurd rfl hjm
            | succ m => simp at hj hm; have := hmem m y hm; omega
           | succ j =>
            cases m with
            | zero => simp at hj hm; have := hmem j x hj; omega
            | succ m => simp at hj hm; have := ih j m x y (by omega) hj hm; omega
         cases j with
         | zero =>
          cases m with
          | zero => omega
          | succ m =>
           cases t with
           | zero => omega
           | succ t => simp at hj hm ht; have := h4 L m t y z (by omega) hm ht; omega
         | succ j =>
          cases m with
          | zero =>
           cases t with
           | zero => omega
           | succ t => simp at hj hm ht; have := h4 L j t x z (by omega) hj ht; omega
          | succ m =>
           cases t with
           | zero => simp at hj hm ht; have := h4 L j m x y (by omega) hj hm; omega
           | succ t => simp at hj hm ht; have := ih j m t x y z (by omega) (by omega) (by omega) hj hm ht; omega
       have a3 := h5 (lensL G) i k m _ _ _ (by omega) him hkm (List.getElem?_eq_getElem hil) (List.getElem?_eq_getElem hkl) hlm; rw [hsum] at a3; omega
     ·
      rw [if_neg hlt] at h2 h3; omega
   have hL : ∀ M : List Nat, (∀ x ∈ M, x = 1) → M.sum = M.length ∧ onesN M = M.length := fun M => by
    induction M with
    | nil => intro _; exact ⟨rfl, rfl⟩
    | cons a M ih =>
     intro h; obtain ⟨i1, i2⟩ := ih fun x hx => h x (by simp [hx]); have ha := h a (by simp); rw [onesN_cons, i2]; simp [ha, i1]; omega
   obtain ⟨s1, s2⟩ := hL _ hall; have h4 : 4 ≤ G.length := by
    unfold partsN at hpn; rw [s2, hll] at hpn; refine Classical.byContradiction fun hno => ?_; have : G.length = 0 ∨ G.length = 1 ∨ G.length = 2 ∨ G.length = 3 := by omega
    rcases this with e | e | e | e <;> rw [e] at hpn <;> simp at hpn
   have hin2 : (inS 0 2 G G.length).length = 2 := by
    have hg : ∀ i, (h : i < G.length) → G[i].length = 1 := fun i h => hall _ (List.mem_map.2 ⟨G[i], List.getElem_mem _, rfl⟩); have hst : ∀ i, 2 ≤ i → i ≤ G.length → (inS 0 2 G i).length = 2 := by
     intro i hi; induction i with
     | zero => omega
     | succ i ih =>
      intro h; rw [inS_succ 0 2 G i (by omega), List.length_append]; by_cases e : i = 1
      ·
       subst e; rw [if_pos (by omega), inS_succ 0 2 G 0 (by omega), List.length_append, if_pos (by omega), hg 0 (by omega), hg 1 (by omega)]; simp [inS]
      · rw [if_neg (by omega), ih (by omega) (by omega)]; rfl
    exact hst G.length (by omega) (Nat.le_refl _)
   rw [hin2] at hio ⊢; omega
 unfold sidesL
 simp only [← hG, e1]
 omega
end Go.Proofs.YtagcbnpahgfgmaaGreat
namespace Go.Proofs.YtagcbnpahgfgmaaGreat
structure SpS where
 todo : List (List Lk)
 out : List (List Lk)
 next : Int
def SpS.step (s : SpS) : SpS := match s.todo.getLast? with
 | none => s
 | some top =>
  if (firstC top).2.2.1 then ⟨s.todo.dropLast ++ [(sidesL top (firstC top).1 (firstC top).2.1 s.next).2, (sidesL top (firstC top).1 (firstC top).2.1 s.next).1], s.out, s.next + 1⟩
  else ⟨s.todo.dropLast, s.out ++ [top], s.next⟩
def SpS.steps : Nat → SpS → SpS
 | 0, s => s
 | k + 1, s => SpS.steps k s.step
def SplitTo (ls : List Lk) (next : Int) (out : List (List Lk)) (n : Int) : Prop := ∃ k, SpS.steps k ⟨[ls], [], next⟩ = ⟨[], out, n⟩
theorem steps_succ (k : Nat) (s : SpS) : SpS.steps (k + 1) s = (SpS.steps k s).step := by
 induction k generalizing s with
 | zero => rfl
 | succ k ih => rw [SpS.steps, ih]; rfl
def fmL (t : List (List Lk)) : Nat := (t.map fun x => x.length - 3).sum
theorem fm_append (a b : List (List Lk)) : fmL (a ++ b) = fmL a + fmL b := by unfold fmL; rw [List.map_append, List.sum_append]
theorem getLast_split {t : List (List Lk)} {x : List Lk} (h : t.getLast? = some x) : t = t.dropLast ++ [x] := by
 have hne : t ≠ [] := fun e => by subst e; simp at h
 rw [List.getLast?_eq_some_getLast hne] at h
 have := List.dropLast_concat_getLast hne
 rw [Option.some.inj h] at this
 exact this.symm
theorem fm_sides {top : List Lk} {a b er num : Int} (h : firstC top = (a, b, true, er)) : fmL [(sidesL top a b num).2, (sidesL top a b num).1] + 1 ≤ top.length - 3 ∧ 4 ≤ top.length ∧ (sidesL top a b num).1.length < top.length ∧ (sidesL top a b num).2.length < top.length := by
 obtain ⟨h2, _, _, _, hp, _⟩ := firstC_true h
 obtain ⟨l1, l2, l3⟩ := sides_len (num := num) h2 hp
 unfold fmL
 simp
 omega
section
variable {a d : Int} (ha : 1 ≤ a ∧ a ≤ 1000) (hd : 1 ≤ a + d ∧ a + d ≤ 1000)
include ha hd
omit ha hd in
theorem mem_inS {f t : Nat} {G : List (List Lk)} {i : Nat} {k : Lk} (h : k ∈ inS f t G i) : ∃ r ∈ G, k ∈ r := by
 unfold inS at h
 obtain ⟨j, _, hk⟩ := List.mem_flatMap.1 h
 split at hk
 ·
  by_cases hj : j < G.length
  ·
   simp only [List.getD, List.getElem?_eq_getElem hj, Option.getD_some] at hk; exact ⟨_, List.getElem_mem hj, hk⟩
  · simp [List.getD, List.getElem?_eq_none (Nat.le_of_not_lt hj)] at hk
 · simp at hk
omit ha hd in
theorem mem_outS {f t : Nat} {G : List (List Lk)} {i : Nat} {k : Lk} (h : k ∈ outS f t G i) : ∃ r ∈ G, k ∈ r := by
 unfold outS at h
 obtain ⟨j, _, hk⟩ := List.mem_flatMap.1 h
 split at hk
 · simp at hk
 ·
  by_cases hj : j < G.length
  ·
   simp only [List.getD, List.getElem?_eq_getElem hj, Option.getD_some] at hk; exact ⟨_, List.getElem_mem hj, hk⟩
  · simp [List.getD, List.getElem?_eq_none (Nat.le_of_not_lt hj)] at hk
omit ha hd in
theorem mem_groups {ls : List Lk} {wo : List Int} {r : List Lk} (h : r ∈ groupsL ls wo) {k : Lk} (hk : k ∈ r) : k ∈ ls := by
 cases hr : rightL ls with
 | false => unfold groupsL at h; rw [hr] at h; simp at h
 | true =>
  obtain ⟨p, hp⟩ := List.getElem?_of_mem h
  obtain ⟨i, _, G⟩ := grp_at hr hp
  exact G.sub.subset hk
end
theorem steps_end (k : Nat) {s : SpS} (h : s.todo = []) : SpS.steps k s = s := by
 induction k with
 | zero => rfl
 | succ k ih =>
  rw [SpS.steps, show s.step = s by unfold SpS.step; rw [h]; rfl]
  exact ih
theorem steps_add (j k : Nat) (s : SpS) : SpS.steps (j + k) s = SpS.steps k (SpS.steps j s) := by
 induction j generalizing s with
 | zero => rw [Nat.zero_add]; rfl
 | succ j ih => rw [show j + 1 + k = (j + k) + 1 by omega, SpS.steps, ih]; rfl
theorem SplitTo.one {ls : List Lk} {next : Int} {o1 o2 : List (List Lk)} {n1 n2 : Int} (h1 : SplitTo ls next o1 n1) (h2 : SplitTo ls next o2 n2) : o1 = o2 ∧ n1 = n2 := by
 obtain ⟨j, hj⟩ := h1
 obtain ⟨k, hk⟩ := h2
 have e1 : SpS.steps (j + k) ⟨[ls], [], next⟩ = ⟨[], o1, n1⟩ := by rw [steps_add, hj]; exact steps_end k rfl
 have e2 : SpS.steps (j + k) ⟨[ls], [], next⟩ = ⟨[], o2, n2⟩ := by rw [Nat.add_comm, steps_add, hk]; exact steps_end j rfl
 rw [e1] at e2
 simp only [SpS.mk.injEq, true_and] at e2
 exact e2
end Go.Proofs.YtagcbnpahgfgmaaGreat
namespace Go.Proofs.YtagcbnpahgfgmaaGreat
def virtL (ls : List Lk) : List Lk := ls.filter fun k => k.2.2 != 0
def realL (ls : List Lk) : List Lk := ls.filter fun k => k.2.2 == 0
def occL (P : List (List Lk)) : List Lk := P.flatMap virtL
def relL (P : List (List Lk)) : List Lk := P.flatMap realL
theorem mem_virtL {ls : List Lk} {e : Lk} : e ∈ virtL ls ↔ e ∈ ls ∧ e.2.2 ≠ 0 := by simp [virtL]
theorem mem_realL {ls : List Lk} {e : Lk} : e ∈ realL ls ↔ e ∈ ls ∧ e.2.2 = 0 := by simp [realL]
theorem mem_occL {P : List (List Lk)} {e : Lk} : e ∈ occL P ↔ ∃ x ∈ P, e ∈ x ∧ e.2.2 ≠ 0 := by simp [occL, mem_virtL]
theorem virt_len (ls : List Lk) : (virtL ls).length + (realL ls).length = ls.length := by
 induction ls with
 | nil => rfl
 | cons a ls ih =>
  unfold virtL realL at ih ⊢
  simp only [List.filter_cons, List.length_cons]
  by_cases h : a.2.2 = 0 <;> simp [h] <;> omega
theorem occL_cons (x : List Lk) (P : List (List Lk)) : occL (x :: P) = virtL x ++ occL P := rfl
theorem relL_cons (x : List Lk) (P : List (List Lk)) : relL (x :: P) = realL x ++ relL P := rfl
theorem occL_append (P Q : List (List Lk)) : occL (P ++ Q) = occL P ++ occL Q := by unfold occL; rw [List.flatMap_append]
theorem occL_perm {P Q : List (List Lk)} (h : P.Perm Q) : (occL P).Perm (occL Q) := h.flatMap_right _
theorem relL_perm {P Q : List (List Lk)} (h : P.Perm Q) : (relL P).Perm (relL Q) := h.flatMap_right _
theorem virtL_perm {a b : List Lk} (h : a.Perm b) : (virtL a).Perm (virtL b) := h.filter _
theorem realL_perm {a b : List Lk} (h : a.Perm b) : (realL a).Perm (realL b) := h.filter _
theorem virtL_append (a b : List Lk) : virtL (a ++ b) = virtL a ++ virtL b := by unfold virtL; rw [List.filter_append]
theorem realL_append (a b : List Lk) : realL (a ++ b) = realL a ++ realL b := by unfold realL; rw [List.filter_append]
theorem count_one {l : List Lk} (h : l.Nodup) {e : Lk} (he : e ∈ l) : l.count e = 1 := by rw [h.count, if_pos he]
theorem perm_head {α : Type} [BEq α] [LawfulBEq α] {x : α} {l : List α} (h : x ∈ l) : ∃ m, l.Perm (x :: m) := ⟨_, List.perm_cons_erase h⟩
structure TreeP (P : List (List Lk)) (D : List Lk) : Prop where
 occ : (occL P).Perm (D ++ D)
 num : (D.map fun k => k.2.2).Nodup
 nd : ∀ x ∈ P, x.Nodup
 len : P.length = D.length + 1
 con : ∀ S T, P.Perm (S ++ T) → S ≠ [] → T ≠ [] → ∃ e, e ∈ occL S ∧ e ∈ occL T
 rel : (relL P).Nodup
namespace TreeP
variable {P Q : List (List Lk)} {D : List Lk}
theorem perm (h : TreeP P D) (hp : P.Perm Q) : TreeP Q D :=
 ⟨(occL_perm hp).symm.trans h.occ, h.num, fun x hx => h.nd x (hp.mem_iff.2 hx), by rw [← hp.length_eq]; exact h.len,
  fun S T hs => h.con S T (hp.trans hs), (relL_perm hp).nodup_iff.1 h.rel⟩
theorem dnd (h : TreeP P D) : D.Nodup := by
 have h1 : D.Pairwise (fun a b : Lk => a.2.2 ≠ b.2.2) := List.pairwise_map.1 h.num
 exact h1.imp fun hab e => hab (by rw [e])
theorem memD (h : TreeP P D) {e : Lk} : e ∈ D ↔ e ∈ occL P := by rw [h.occ.mem_iff]; simp
theorem count2 (h : TreeP P D) {e : Lk} (he : e ∈ D) : (occL P).count e = 2 := by
 rw [h.occ.count_eq, List.count_append]
 have := count_one h.dnd he
 omega
theorem same_num (h : TreeP P D) {e f : Lk} (he : e ∈ occL P) (hf : f ∈ occL P) (hv : e.2.2 = f.2.2) : e = f := by
 have h1 := h.memD.2 he; have h2 := h.memD.2 hf
 have hn : D.Pairwise (fun a b : Lk => a.2.2 ≠ b.2.2) := List.pairwise_map.1 h.num
 obtain ⟨i, hi, rfl⟩ := List.getElem_of_mem h1
 obtain ⟨j, hj, rfl⟩ := List.getElem_of_mem h2
 rcases Nat.lt_trichotomy i j with hlt | rfl | hlt
 · exact absurd hv (List.pairwise_iff_getElem.1 hn i j hi hj hlt)
 · rfl
 · exact absurd hv.symm (List.pairwise_iff_getElem.1 hn j i hj hi hlt)
def dupL (D : List Lk) (S : List (List Lk)) : List Lk := D.filter fun e => decide (2 ≤ (occL S).count e)
theorem filter_len_lt {α : Type} {p q : α → Bool} {l : List α} (hpq : ∀ x ∈ l, p x = true → q x = true) {e : α} (he : e ∈ l) (h1 : q e = true) (h2 : p e = false) : (l.filter p).length + 1 ≤ (l.filter q).length := by
 induction l with
 | nil => simp at he
 | cons a l ih =>
  have hle : ∀ m : List α, (∀ x ∈ m, p x = true → q x = true) → (m.filter p).length ≤ (m.filter q).length := fun m => by
   induction m with
   | nil => intro _; simp
   | cons b m ih2 =>
    intro hm; have i2 := ih2 fun x hx => hm x (List.mem_cons_of_mem _ hx); have hb := hm b (List.mem_cons_self ..); simp only [List.filter_cons]; cases hpb : p b with
    | true => rw [hb hpb]; simp; exact i2
    | false => cases q b <;> simp <;> omega
  simp only [List.filter_cons]
  rcases List.mem_cons.1 he with rfl | he'
  ·
   rw [h1, h2]; have := hle l fun x hx => hpq x (List.mem_cons_of_mem _ hx); simp; omega
  ·
   have i1 := ih (fun x hx => hpq x (List.mem_cons_of_mem _ hx)) he'; have ha := hpq a (List.mem_cons_self ..); cases hpa : p a with
   | true => rw [ha hpa]; simp; omega
   | false => cases q a <;> simp <;> omega
theorem grow (h : TreeP P D) : ∀ (n : Nat) (S T : List (List Lk)), T.length = n → P.Perm (S ++ T) → S ≠ [] → T.length + (dupL D S).length ≤ D.length := by
 intro n
 induction n with
 | zero =>
  intro S T hT _ _
  rw [hT, Nat.zero_add]
  exact List.length_filter_le _ _
 | succ n ih =>
  intro S T hT hp hS
  have hT0 : T ≠ [] := fun e => by subst e; simp at hT
  obtain ⟨e, heS, heT⟩ := h.con S T hp hS hT0
  obtain ⟨t, ht, het, hev⟩ := mem_occL.1 heT
  obtain ⟨T', hT'⟩ := perm_head ht
  have hlen : T'.length = n := by have := hT'.length_eq; simp at this; omega
  have hp2 : P.Perm ((t :: S) ++ T') := by
   refine hp.trans ?_; refine ((List.Perm.refl S).append hT').trans ?_; exact List.perm_middle
  have i1 := ih (t :: S) T' hlen hp2 (by simp)
  have hcS : (occL S).count e ≤ 1 := by
   have h2 := h.count2 (e := e) (h.memD.2 ((occL_perm hp).mem_iff.2 (by rw [occL_append]; simp [heS]))); rw [(occL_perm hp).count_eq, occL_append, List.count_append] at h2; have := List.count_pos_iff.2 heT; omega
  have heD : e ∈ D := h.memD.2 ((occL_perm hp).mem_iff.2 (by rw [occL_append]; simp [heS]))
  have h3 : (dupL D S).length + 1 ≤ (dupL D (t :: S)).length := by
   unfold dupL; refine filter_len_lt (e := e) (fun x _ hx => ?_) heD ?_ ?_
   ·
    rw [occL_cons, List.count_append]; simp at hx ⊢; omega
   ·
    rw [occL_cons, List.count_append]; have a1 := List.count_pos_iff.2 (mem_virtL.2 ⟨het, hev⟩); have a2 := List.count_pos_iff.2 heS; simp; omega
   · simp; omega
  rw [hT]
  omega
theorem dup_le (h : TreeP P D) {S T : List (List Lk)} (hp : P.Perm (S ++ T)) (hS : S ≠ []) : (dupL D S).length + 1 ≤ S.length := by
 have h1 := h.grow T.length S T rfl hp hS
 have h2 := hp.length_eq
 have h3 := h.len
 rw [List.length_append] at h2
 omega
theorem share_one (h : TreeP P D) {x y : List Lk} {R : List (List Lk)} (hp : P.Perm (x :: y :: R)) {e f : Lk} (hex : e ∈ virtL x) (hey : e ∈ virtL y) (hfx : f ∈ virtL x) (hfy : f ∈ virtL y) : e = f := by
 refine Classical.byContradiction fun hne => ?_
 have h1 := h.dup_le (S := [x, y]) (T := R) hp (by simp)
 have hm : ∀ g, g ∈ virtL x → g ∈ virtL y → g ∈ dupL D [x, y] := fun g a b => by
  unfold dupL
  rw [List.mem_filter]
  refine ⟨h.memD.2 ((occL_perm hp).mem_iff.2 (by rw [occL_cons]; simp [a])), ?_⟩
  have a1 := List.count_pos_iff.2 a
  have a2 := List.count_pos_iff.2 b
  simp [occL]; omega
 have h2 := hm e hex hey
 have h3 := hm f hfx hfy
 have hl : 2 ≤ (dupL D [x, y]).length := two_in h2 h3 (fun e' => hne e'.symm)
 simp at h1
 omega
theorem single {x : List Lk} (hn : x.Nodup) (hv : ∀ k ∈ x, k.2.2 = 0) : TreeP [x] [] := by
 have h0 : virtL x = [] := by
  unfold virtL
  rw [List.filter_eq_nil_iff]
  intro k hk
  simp [hv k hk]
 refine ⟨by simp [occL, h0], by simp, fun y hy => by simp at hy; subst hy; exact hn, rfl, fun S T hp hS hT => ?_, ?_⟩
 ·
  have := hp.length_eq
  have a1 := List.length_pos_iff.2 hS
  have a2 := List.length_pos_iff.2 hT
  simp at this
  omega
 · simp [relL]; exact hn.filter _
theorem mem_split {α : Type} [BEq α] [LawfulBEq α] {x : α} {R S T : List α} (h : (x :: R).Perm (S ++ T)) : (∃ S', S.Perm (x :: S') ∧ R.Perm (S' ++ T)) ∨ (∃ T', T.Perm (x :: T') ∧ R.Perm (S ++ T')) := by
 have hm : x ∈ S ++ T := h.mem_iff.1 (by simp)
 rcases List.mem_append.1 hm with hm | hm
 ·
  obtain ⟨S', hS'⟩ := perm_head hm
  refine .inl ⟨S', hS', ?_⟩
  have h2 : (x :: R).Perm (x :: (S' ++ T)) := h.trans (hS'.append_right T)
  exact h2.cons_inv
 ·
  obtain ⟨T', hT'⟩ := perm_head hm
  refine .inr ⟨T', hT', ?_⟩
  have h2 : (x :: R).Perm (x :: (S ++ T')) := (h.trans (hT'.append_left S)).trans List.perm_middle
  exact h2.cons_inv
theorem split {x X Y x1 x2 : List Lk} {R : List (List Lk)} (h : TreeP (x :: R) D) (hx : x.Perm (X ++ Y)) {e : Lk} (hv : e.2.2 ≠ 0) (hD : ∀ d ∈ D, d.2.2 ≠ e.2.2) (h1 : x1.Perm (e :: X)) (h2 : x2.Perm (e :: Y)) : TreeP (x1 :: x2 :: R) (e :: D) := by
 have hve : ∀ Z : List Lk, virtL (e :: Z) = e :: virtL Z := fun Z => by unfold virtL; rw [List.filter_cons, if_pos (by simpa using hv)]
 have hre : ∀ Z : List Lk, realL (e :: Z) = realL Z := fun Z => by unfold realL; rw [List.filter_cons, if_neg (by simpa using hv)]
 have hvx : (virtL x).Perm (virtL X ++ virtL Y) := by rw [← virtL_append]; exact virtL_perm hx
 have heP : e ∉ x := fun hm => hD e (h.memD.2 (mem_occL.2 ⟨x, by simp, hm, hv⟩)) rfl
 have hxn := h.nd x (by simp)
 have hXY := hx.nodup_iff.1 hxn
 have heX : e ∉ X ∧ e ∉ Y := by
  constructor <;> intro hm <;> exact heP (hx.mem_iff.2 (by simp [hm]))
 have e1 : (virtL x1).Perm (e :: virtL X) := by have := virtL_perm h1; rwa [hve] at this
 have e2 : (virtL x2).Perm (e :: virtL Y) := by have := virtL_perm h2; rwa [hve] at this
 refine ⟨?_, ?_, ?_, ?_, ?_, ?_⟩
 ·
  rw [occL_cons, occL_cons]
  have ho := h.occ
  rw [occL_cons] at ho
  refine (e1.append (e2.append_right _)).trans ?_
  have s1 : (e :: virtL X ++ (e :: virtL Y ++ occL R)).Perm (e :: e :: (virtL X ++ virtL Y ++ occL R)) := by
   rw [List.cons_append, List.cons_append]; refine List.Perm.cons _ ?_; refine List.perm_middle.trans ?_; rw [List.append_assoc]
  have s2 : (e :: e :: (virtL X ++ virtL Y ++ occL R)).Perm (e :: e :: (D ++ D)) := ((hvx.symm.append_right _).trans ho).cons e |>.cons e
  refine (s1.trans s2).trans ?_
  rw [List.cons_append]
  exact (List.perm_middle.symm).cons e
 ·
  rw [List.map_cons, List.nodup_cons]
  refine ⟨fun hm => ?_, h.num⟩
  obtain ⟨d, hd, he⟩ := List.mem_map.1 hm
  exact hD d hd he
 ·
  intro y hy
  rw [List.nodup_append] at hXY
  rcases List.mem_cons.1 hy with rfl | hy
  · exact h1.nodup_iff.2 (List.nodup_cons.2 ⟨heX.1, hXY.1⟩)
  ·
   rcases List.mem_cons.1 hy with rfl | hy
   · exact h2.nodup_iff.2 (List.nodup_cons.2 ⟨heX.2, hXY.2.1⟩)
   · exact h.nd y (by simp [hy])
 ·
  have := h.len
  simp at this ⊢
  omega
 ·
  intro S T hp hS hT
  have in1 : e ∈ virtL x1 := e1.mem_iff.2 (by simp)
  have in2 : e ∈ virtL x2 := e2.mem_iff.2 (by simp)
  have sub : ∀ f, f ∈ virtL x → f ∈ virtL x1 ∨ f ∈ virtL x2 := fun f hf => by
   rcases List.mem_append.1 (hvx.mem_iff.1 hf) with hf | hf
   · exact .inl (e1.mem_iff.2 (by simp [hf]))
   · exact .inr (e2.mem_iff.2 (by simp [hf]))
  have both : ∀ A B : List (List Lk), R.Perm (A ++ B) → B ≠ [] → ∃ f, (f ∈ virtL x1 ∨ f ∈ virtL x2 ∨ f ∈ occL A) ∧ f ∈ occL B := fun A B hAB hB => by
   obtain ⟨f, f1, f2⟩ := h.con (x :: A) B (by simpa using hAB.cons x) (by simp) hB; rw [occL_cons, List.mem_append] at f1; rcases f1 with f1 | f1
   ·
    rcases sub f f1 with g | g
    · exact ⟨f, .inl g, f2⟩
    · exact ⟨f, .inr (.inl g), f2⟩
   · exact ⟨f, .inr (.inr f1), f2⟩
  have mo : ∀ {A B : List (List Lk)} {f : Lk}, A.Perm B → (f ∈ occL A ↔ f ∈ occL B) := fun hAB => (occL_perm hAB).mem_iff
  rcases mem_split hp with ⟨S1, p1, q1⟩ | ⟨T1, p1, q1⟩
  ·
   rcases mem_split q1 with ⟨S2, p2, q2⟩ | ⟨T2, p2, q2⟩
   ·
    obtain ⟨f, f1, f2⟩ := both S2 T q2 hT; refine ⟨f, (mo p1).2 ?_, f2⟩; rw [occL_cons, List.mem_append, mo p2, occL_cons, List.mem_append]; exact f1
   · exact ⟨e, (mo p1).2 (by rw [occL_cons]; simp [in1]), (mo p2).2 (by rw [occL_cons]; simp [in2])⟩
  ·
   rcases mem_split q1 with ⟨S2, p2, q2⟩ | ⟨T2, p2, q2⟩
   · exact ⟨e, (mo p2).2 (by rw [occL_cons]; simp [in2]), (mo p1).2 (by rw [occL_cons]; simp [in1])⟩
   ·
    obtain ⟨f, f1, f2⟩ := both T2 S (q2.trans List.perm_append_comm) hS; refine ⟨f, f2, (mo p1).2 ?_⟩; rw [occL_cons, List.mem_append, mo p2, occL_cons, List.mem_append]; exact f1
 ·
  rw [relL_cons, relL_cons]
  have hr := h.rel
  rw [relL_cons] at hr
  have r1 : (realL x1).Perm (realL X) := by have := realL_perm h1; rwa [hre] at this
  have r2 : (realL x2).Perm (realL Y) := by have := realL_perm h2; rwa [hre] at this
  have r3 : (realL x).Perm (realL X ++ realL Y) := by rw [← realL_append]; exact realL_perm hx
  have : (realL x1 ++ (realL x2 ++ relL R)).Perm (realL x ++ relL R) := by
   rw [← List.append_assoc]; exact ((r1.append r2).trans r3.symm).append_right _
  exact this.nodup_iff.2 hr
theorem join {x y z : List Lk} {R : List (List Lk)} (h : TreeP (x :: y :: R) D) {e : Lk} (hex : e ∈ virtL x) (hey : e ∈ virtL y) (hz : z.Perm (x.erase e ++ y.erase e)) : TreeP (z :: R) (D.erase e) := by
 have hev := (mem_virtL.1 hex).2
 have pe : ∀ {l : List Lk}, e ∈ virtL l → l.Perm (e :: l.erase e) := fun hl => List.perm_cons_erase (mem_virtL.1 hl).1
 have hve : ∀ Z : List Lk, virtL (e :: Z) = e :: virtL Z := fun Z => by unfold virtL; rw [List.filter_cons, if_pos (by simpa using hev)]
 have hre : ∀ Z : List Lk, realL (e :: Z) = realL Z := fun Z => by unfold realL; rw [List.filter_cons, if_neg (by simpa using hev)]
 have vx : (virtL x).Perm (e :: virtL (x.erase e)) := by have := virtL_perm (pe hex); rwa [hve] at this
 have vy : (virtL y).Perm (e :: virtL (y.erase e)) := by have := virtL_perm (pe hey); rwa [hve] at this
 have vz : (virtL z).Perm (virtL (x.erase e) ++ virtL (y.erase e)) := by rw [← virtL_append]; exact virtL_perm hz
 have rx : (realL x).Perm (realL (x.erase e)) := by have := realL_perm (pe hex); rwa [hre] at this
 have ry : (realL y).Perm (realL (y.erase e)) := by have := realL_perm (pe hey); rwa [hre] at this
 have rz : (realL z).Perm (realL (x.erase e) ++ realL (y.erase e)) := by rw [← realL_append]; exact realL_perm hz
 have heD : e ∈ D := h.memD.2 (by rw [occL_cons]; simp [hex])
 have hDp : D.Perm (e :: D.erase e) := List.perm_cons_erase heD
 have hxn := h.nd x (by simp)
 have hyn := h.nd y (by simp)
 have hrn := h.rel
 rw [relL_cons, relL_cons] at hrn
 have hocc : (e :: e :: (virtL z ++ occL R)).Perm (e :: e :: (D.erase e ++ D.erase e)) := by
  have h1 := h.occ
  rw [occL_cons, occL_cons] at h1
  have s1 : (virtL x ++ (virtL y ++ occL R)).Perm (e :: e :: (virtL z ++ occL R)) := by
   refine (vx.append (vy.append_right _)).trans ?_; rw [List.cons_append, List.cons_append]; refine List.Perm.cons _ ?_; refine List.perm_middle.trans ?_; refine List.Perm.cons _ ?_; rw [← List.append_assoc]; exact vz.symm.append_right _
  have s2 : (D ++ D).Perm (e :: e :: (D.erase e ++ D.erase e)) := by
   refine (hDp.append hDp).trans ?_; rw [List.cons_append]; exact List.perm_middle.cons e
  exact (s1.symm.trans h1).trans s2
 refine ⟨by rw [occL_cons]; exact hocc.cons_inv.cons_inv, ?_, ?_, ?_, ?_, ?_⟩
 ·
  have := h.num
  rw [(hDp.map _).nodup_iff, List.map_cons, List.nodup_cons] at this
  exact this.2
 ·
  intro u hu
  rcases List.mem_cons.1 hu with rfl | hu
  ·
   refine hz.nodup_iff.2 (List.nodup_append.2 ⟨hxn.erase _, hyn.erase _, fun k hk m hm hkm => ?_⟩); subst hkm; have hkx := List.mem_of_mem_erase hk; have hky := List.mem_of_mem_erase hm; by_cases h0 : k.2.2 = 0
   ·
    rw [List.nodup_append] at hrn; exact hrn.2.2 k (mem_realL.2 ⟨hkx, h0⟩) k (by simp [mem_realL.2 ⟨hky, h0⟩]) rfl
   ·
    have := h.share_one (.refl _) hex hey (mem_virtL.2 ⟨hkx, h0⟩) (mem_virtL.2 ⟨hky, h0⟩); subst this; exact hxn.not_mem_erase hk
  · exact h.nd u (by simp [hu])
 ·
  have := h.len
  have h2 := hDp.length_eq
  simp only [List.length_cons] at this h2 ⊢
  omega
 ·
  intro S T hp hS hT
  have hne : ∀ B : List (List Lk), (∃ A, R.Perm (A ++ B)) → e ∉ occL B := fun B ⟨A, hAB⟩ hm => by
   have c2 := h.count2 heD; rw [occL_cons, occL_cons, List.count_append, List.count_append, (occL_perm hAB).count_eq, occL_append, List.count_append] at c2; have a1 := List.count_pos_iff.2 hex; have a2 := List.count_pos_iff.2 hey; have a3 := List.count_pos_iff.2 hm; omega
  have both : ∀ A B : List (List Lk), R.Perm (A ++ B) → B ≠ [] → ∃ f, (f ∈ virtL z ∨ f ∈ occL A) ∧ f ∈ occL B := fun A B hAB hB => by
   obtain ⟨f, f1, f2⟩ := h.con (x :: y :: A) B (by simpa using (hAB.cons y).cons x) (by simp) hB; have hfe : f ≠ e := fun h1 => hne B ⟨A, hAB⟩ (h1 ▸ f2); rw [occL_cons, occL_cons, List.mem_append, List.mem_append] at f1; rcases f1 with f1 | f1 | f1
   ·
    have := vx.mem_iff.1 f1; simp [hfe] at this; exact ⟨f, .inl (vz.mem_iff.2 (by simp [this])), f2⟩
   ·
    have := vy.mem_iff.1 f1; simp [hfe] at this; exact ⟨f, .inl (vz.mem_iff.2 (by simp [this])), f2⟩
   · exact ⟨f, .inr f1, f2⟩
  have mo : ∀ {A B : List (List Lk)} {f : Lk}, A.Perm B → (f ∈ occL A ↔ f ∈ occL B) := fun hAB => (occL_perm hAB).mem_iff
  rcases mem_split hp with ⟨S1, p1, q1⟩ | ⟨T1, p1, q1⟩
  ·
   obtain ⟨f, f1, f2⟩ := both S1 T q1 hT; exact ⟨f, (mo p1).2 (by rw [occL_cons, List.mem_append]; exact f1), f2⟩
  ·
   obtain ⟨f, f1, f2⟩ := both T1 S (q1.trans List.perm_append_comm) hS; exact ⟨f, f2, (mo p1).2 (by rw [occL_cons, List.mem_append]; exact f1)⟩
 ·
  rw [relL_cons]
  have : (realL z ++ relL R).Perm (realL x ++ (realL y ++ relL R)) := by
   rw [← List.append_assoc]; exact ((rz.trans (rx.symm.append ry.symm))).append_right _
  exact this.nodup_iff.2 hrn
end TreeP
end Go.Proofs.YtagcbnpahgfgmaaGreat
namespace Go.Proofs.YtagcbnpahgfgmaaGreat
theorem right_sort {l : List Lk} (hn : l.Nodup) (ho : ∀ k ∈ l, OkL k) (hl : l.length ≤ 1000) : RightL (sortL l) ∧ (sortL l).Perm l := by
 have hp : (sortL l).Perm l := by have := sortL_perm l; rwa [map_swapL ho] at this
 refine ⟨⟨by rw [hp.length_eq]; exact hl, fun k hk => ho k (hp.mem_iff.1 hk), ?_⟩, hp⟩
 have h1 := sortL_sorted l
 have h2 : (sortL l).Pairwise (· ≠ ·) := hp.nodup_iff.2 hn
 exact (h1.and h2).imp fun {x y} ⟨a, b⟩ => Classical.byContradiction fun hno => b (LtL.total _ _ hno a)
theorem io_perm (f t : Nat) (G : List (List Lk)) : ∀ i, i ≤ G.length → (inS f t G i ++ outS f t G i).Perm (G.take i).flatten := by
 intro i
 induction i with
 | zero => intro _; simp [inS, outS]
 | succ i ih =>
  intro h
  rw [inS_succ f t G i (by omega), outS_succ f t G i (by omega), List.take_succ_eq_append_getElem (by omega), List.flatten_append]
  have i1 := ih (by omega)
  simp only [List.flatten_cons, List.flatten_nil, List.append_nil]
  by_cases hc : f ≤ i ∧ i < t
  ·
   rw [if_pos hc, if_pos hc, List.append_nil]; refine List.Perm.trans ?_ (i1.append_right _); rw [List.append_assoc, List.append_assoc]; exact List.Perm.append_left _ List.perm_append_comm
  ·
   rw [if_neg hc, if_neg hc, List.append_nil, ← List.append_assoc]; exact i1.append_right _
theorem sides_perm {ls : List Lk} {a b num : Int} (hR : RightL ls) (ha : 0 ≤ a) (hab : a < b) (hb : b < 1048576) (hn : 0 < num ∧ num ≤ 1048576) :
  ∃ X Y : List Lk, ls.Perm (X ++ Y) ∧ (sidesL ls a b num).1.Perm ((a, b, num) :: X) ∧ (sidesL ls a b num).2.Perm ((a, b, num) :: Y) := by
 have hok : OkL (a, b, num) := by unfold OkL; simp only; omega
 obtain ⟨G, hG⟩ : ∃ G, G = groupsL ls [a, b] := ⟨_, rfl⟩
 have hp : (groupsL ls [a, b]).flatten.Perm ls := grp_perm hR
 have hio := io_perm (fromTo ls.length G).1 (fromTo ls.length G).2 G G.length (Nat.le_refl _)
 rw [List.take_length] at hio
 rw [← hG] at hp
 have hm : ∀ k, k ∈ inS (fromTo ls.length G).1 (fromTo ls.length G).2 G G.length ++ outS (fromTo ls.length G).1 (fromTo ls.length G).2 G G.length → OkL k := fun k hk => hR.2.1 k ((hio.trans hp).mem_iff.1 hk)
 refine ⟨_, _, (hio.trans hp).symm, ?_, ?_⟩
 ·
  unfold sidesL
  simp only
  rw [← hG]
  have := sortL_perm ((a, b, num) :: inS (fromTo ls.length G).1 (fromTo ls.length G).2 G G.length)
  rwa [map_swapL] at this
  intro k hk
  rcases List.mem_cons.1 hk with rfl | hk
  · exact hok
  · exact hm k (by simp [hk])
 ·
  unfold sidesL
  simp only
  rw [← hG]
  have := sortL_perm ((a, b, num) :: outS (fromTo ls.length G).1 (fromTo ls.length G).2 G G.length)
  rwa [map_swapL] at this
  intro k hk
  rcases List.mem_cons.1 hk with rfl | hk
  · exact hok
  · exact hm k (by simp [hk])
theorem sides_sorted (ls : List Lk) (a b num : Int) : (sidesL ls a b num).1.Pairwise LeL ∧ (sidesL ls a b num).2.Pairwise LeL := by
 unfold sidesL
 exact ⟨sortL_sorted _, sortL_sorted _⟩
theorem right_of {l m : List Lk} (hp : l.Perm m) (hs : l.Pairwise LeL) (hn : l.Nodup) (ho : ∀ k ∈ m, OkL k) (hl : m.length ≤ 1000) : RightL l := by
 refine ⟨by rw [hp.length_eq]; exact hl, fun k hk => ho k (hp.mem_iff.1 hk), ?_⟩
 have h2 : l.Pairwise (· ≠ ·) := hn
 exact (hs.and h2).imp fun {x y} ⟨a, b⟩ => Classical.byContradiction fun hno => b (LtL.total _ _ hno a)
structure SpI (ls : List Lk) (s : SpS) : Prop where
 tree : ∃ D, TreeP (s.todo ++ s.out) D ∧ (∀ d ∈ D, 1 ≤ d.2.2 ∧ d.2.2 < s.next) ∧ (D.length : Int) + 1 = s.next
 right : ∀ t ∈ s.todo ++ s.out, RightL t
 three : ∀ t ∈ s.todo ++ s.out, 3 ≤ t.length
 rels : (relL (s.todo ++ s.out)).Perm ls
 hi : s.next + fmL s.todo ≤ 1 + (ls.length - 3 : Nat)
theorem rel_self {ls : List Lk} (hv : ∀ k ∈ ls, k.2.2 = 0) : relL [ls] = ls := by
 simp only [relL, List.flatMap_cons, List.flatMap_nil, List.append_nil]
 exact List.filter_eq_self.2 fun k hk => by simp [hv k hk]
theorem SpI.start {ls : List Lk} (hR : RightL ls) (hv : ∀ k ∈ ls, k.2.2 = 0) (h3 : 3 ≤ ls.length) : SpI ls ⟨[ls], [], 1⟩ := by
 have hn : ls.Nodup := right_nodup hR
 refine ⟨⟨[], by simpa using TreeP.single hn hv, by simp, by simp⟩, fun t ht => by simp at ht; subst ht; exact hR, fun t ht => by simp at ht; subst ht; exact h3, ?_, by simp [fmL]⟩
 simp only [List.append_nil]
 rw [rel_self hv]
theorem SpI.step {ls : List Lk} {s : SpS} (hl : ls.length ≤ 1000) (h : SpI ls s) : SpI ls s.step := by
 unfold SpS.step
 cases ht : s.todo.getLast? with
 | none => exact h
 | some top =>
  have hsp := getLast_split ht
  have hp1 : (s.todo ++ s.out).Perm (top :: (s.todo.dropLast ++ s.out)) := by
   conv => lhs; rw [hsp]
   rw [List.append_assoc]; exact List.perm_middle
  have htop := h.right top (hp1.mem_iff.2 (by simp))
  have hhi := h.hi
  have hfm : fmL s.todo = fmL s.todo.dropLast + (top.length - 3) := by
   have := congrArg fmL hsp; rw [fm_append] at this; rw [this]; simp [fmL]
  obtain ⟨D, hD, hDv, hDl⟩ := h.tree
  simp only
  cases hc : (firstC top).2.2.1 with
  | false =>
   simp only [Bool.false_eq_true, if_false]; have hp2 : (s.todo ++ s.out).Perm (s.todo.dropLast ++ (s.out ++ [top])) := by
    refine hp1.trans ?_; rw [← List.append_assoc]; exact (List.perm_append_singleton top _).symm
   exact ⟨⟨D, hD.perm hp2, hDv, hDl⟩, fun t ht => h.right t (hp2.mem_iff.2 ht), fun t ht => h.three t (hp2.mem_iff.2 ht), (relL_perm hp2).symm.trans h.rels, by simp only; omega⟩
  | true =>
   simp only [if_true]; have hfc : firstC top = ((firstC top).1, (firstC top).2.1, true, (firstC top).2.2.2) := by rw [← hc]
   obtain ⟨p, hpe⟩ : ∃ p, p = (firstC top).1 := ⟨_, rfl⟩
   obtain ⟨q, hqe⟩ : ∃ q, q = (firstC top).2.1 := ⟨_, rfl⟩
   rw [← hpe, ← hqe] at hfc ⊢; obtain ⟨t2, hpm, hqm, hpq, hpr, _⟩ := firstC_true hfc; obtain ⟨f1, f2, f3, f4⟩ := fm_sides (num := s.next) hfc; obtain ⟨l1, l2, l3⟩ := sides_len (num := s.next) t2 hpr; have hpo : 0 ≤ p := by
    obtain ⟨x, hx, e⟩ := (mem_vertsL top p).1 hpm; have := htop.2.1 x hx; unfold OkL at this; rcases e with rfl | rfl <;> omega
   have hqo : q < 1048576 := by
    obtain ⟨x, hx, e⟩ := (mem_vertsL top q).1 hqm; have := htop.2.1 x hx; unfold OkL at this; rcases e with rfl | rfl <;> omega
   obtain ⟨X, Y, hXY, hS1, hS2⟩ := sides_perm (num := s.next) htop hpo hpq hqo (by omega); obtain ⟨hs1, hs2⟩ := sides_sorted top p q s.next; obtain ⟨S1, hS1e⟩ : ∃ S1, S1 = (sidesL top p q s.next).1 := ⟨_, rfl⟩
   obtain ⟨S2, hS2e⟩ : ∃ S2, S2 = (sidesL top p q s.next).2 := ⟨_, rfl⟩
   rw [← hS1e] at hS1 hs1 l1 l3 f1 f3 ⊢; rw [← hS2e] at hS2 hs2 l2 l3 f1 f4 ⊢; have hT := TreeP.split (hD.perm hp1) hXY (e := (p, q, s.next)) (by simp only; omega) (fun d hd => by have := hDv d hd; simp only; omega) hS1 hS2; have hp3 : (S1 :: S2 :: (s.todo.dropLast ++ s.out)).Perm (s.todo.dropLast ++ [S2, S1] ++ s.out) := by
    rw [List.append_assoc]; refine List.Perm.trans ?_ List.perm_append_comm; rw [List.append_assoc]; refine (List.Perm.swap _ _ _).trans ?_; simp only [List.cons_append, List.nil_append]; exact ((List.perm_append_comm).cons _).cons _
   have hokm : ∀ k ∈ (p, q, s.next) :: (X ++ Y), OkL k := fun k hk => by
    rcases List.mem_cons.1 hk with rfl | hk
    · unfold OkL; simp only; omega
    · exact htop.2.1 k (hXY.mem_iff.2 hk)
   have htl := htop.1; have r1 : RightL S1 := right_of hS1 hs1 (hT.nd _ (by simp)) (fun k hk => hokm k ((List.mem_cons.1 hk).elim (fun e => List.mem_cons.2 (.inl e)) fun hk => List.mem_cons_of_mem _ (List.mem_append_left _ hk))) (by rw [← hS1.length_eq]; omega); have r2 : RightL S2 := right_of hS2 hs2 (hT.nd _ (by simp)) (fun k hk => hokm k ((List.mem_cons.1 hk).elim (fun e => List.mem_cons.2 (.inl e)) fun hk => List.mem_cons_of_mem _ (List.mem_append_right _ hk))) (by rw [← hS2.length_eq]; omega); refine ⟨⟨_, hT.perm hp3, fun d hd => ?_, by simp; omega⟩, fun t ht => ?_, fun t ht => ?_, ?_, ?_⟩
   ·
    rcases List.mem_cons.1 hd with rfl | hd
    · simp only; omega
    · have := hDv d hd; simp only; omega
   ·
    rcases List.mem_cons.1 (hp3.mem_iff.2 ht) with rfl | hm
    · exact r1
    ·
     rcases List.mem_cons.1 hm with rfl | hm
     · exact r2
     · exact h.right t (hp1.mem_iff.2 (by simp only [List.mem_cons]; exact .inr hm))
   ·
    rcases List.mem_cons.1 (hp3.mem_iff.2 ht) with rfl | hm
    · exact l1
    ·
     rcases List.mem_cons.1 hm with rfl | hm
     · exact l2
     · exact h.three t (hp1.mem_iff.2 (by simp only [List.mem_cons]; exact .inr hm))
   ·
    refine (relL_perm hp3).symm.trans (List.Perm.trans ?_ h.rels); refine List.Perm.trans ?_ (relL_perm hp1).symm; rw [relL_cons, relL_cons, relL_cons, ← List.append_assoc]; refine List.Perm.append_right _ ?_; have hre : ∀ Z : List Lk, realL ((p, q, s.next) :: Z) = realL Z := fun Z => by unfold realL; rw [List.filter_cons, if_neg (by simp; omega)]
    have a1 := realL_perm hS1; have a2 := realL_perm hS2; rw [hre] at a1 a2; have a3 := realL_perm hXY; rw [realL_append] at a3; exact (a1.append a2).trans a3.symm
   ·
    simp only; rw [fm_append]; omega
theorem SpI.steps {ls : List Lk} (hl : ls.length ≤ 1000) : ∀ (k : Nat) (s : SpS), SpI ls s → SpI ls (SpS.steps k s) := by
 intro k
 induction k with
 | zero => intro s h; exact h
 | succ k ih => intro s h; rw [SpS.steps]; exact ih _ (h.step hl)
structure PiecesOk (ls : List Lk) (out : List (List Lk)) (n : Int) : Prop where
 tree : ∃ D, TreeP out D ∧ (∀ d ∈ D, 1 ≤ d.2.2 ∧ d.2.2 < n) ∧ (D.length : Int) + 1 = n
 right : ∀ t ∈ out, RightL t
 three : ∀ t ∈ out, 3 ≤ t.length
 rels : (relL out).Perm ls
 hi : n ≤ 1 + (ls.length - 3 : Nat)
theorem SplitTo.ok {ls : List Lk} {out : List (List Lk)} {n : Int} (h : SplitTo ls 1 out n) (hR : RightL ls) (hv : ∀ k ∈ ls, k.2.2 = 0) (h3 : 3 ≤ ls.length) : PiecesOk ls out n := by
 obtain ⟨k, hk⟩ := h
 have h1 := SpI.steps hR.1 k _ (SpI.start hR hv h3)
 rw [hk] at h1
 exact ⟨by simpa using h1.tree, by simpa using h1.right, by simpa using h1.three, by simpa using h1.rels, by have := h1.hi; simpa [fmL] using this⟩
end Go.Proofs.YtagcbnpahgfgmaaGreat
namespace Go.Proofs.YtagcbnpahgfgmaaGreat
abbrev Pt := Int × List Lk
def dropV (v : Int) (x : List Lk) : List Lk := x.filter fun k => k.2.2 != v
def joinL (x y : List Lk) (v : Int) : List Lk := sortL (dropV v x ++ dropV v y)
theorem mem_dropV {v : Int} {x : List Lk} {k : Lk} : k ∈ dropV v x ↔ k ∈ x ∧ k.2.2 ≠ v := by simp [dropV]
theorem dropV_perm {v : Int} {x y : List Lk} (h : x.Perm y) : (dropV v x).Perm (dropV v y) := h.filter _
theorem dropV_append (v : Int) (x y : List Lk) : dropV v (x ++ y) = dropV v x ++ dropV v y := by unfold dropV; rw [List.filter_append]
theorem dropV_comm (v w : Int) (x : List Lk) : dropV v (dropV w x) = dropV w (dropV v x) := by
 unfold dropV
 rw [List.filter_filter, List.filter_filter]
 congr 1
 funext k
 exact Bool.and_comm _ _
theorem dropV_self {v : Int} {x : List Lk} (h : ∀ k ∈ x, k.2.2 ≠ v) : dropV v x = x := List.filter_eq_self.2 fun k hk => by simp [h k hk]
theorem dropV_erase {x : List Lk} (hn : x.Nodup) {e : Lk} (he : e ∈ x) (hu : ∀ k ∈ x, k.2.2 = e.2.2 → k = e) : dropV e.2.2 x = x.erase e := by
 rw [hn.erase_eq_filter]
 unfold dropV
 refine List.filter_congr fun k hk => ?_
 by_cases h : k = e
 · subst h; simp
 ·
  have h1 : k.2.2 ≠ e.2.2 := fun h2 => h (hu k hk h2)
  have h2 : (k.2.2 != e.2.2) = true := bne_iff_ne.2 h1
  have h3 : (k != e) = true := bne_iff_ne.2 h
  show (k.2.2 != e.2.2) = (k != e)
  rw [h2, h3]
theorem joinL_comm (x y : List Lk) (v : Int) : joinL x y v = joinL y x v := sortL_congr (List.perm_append_comm.map _)
structure QI (ls : List Lk) (Q : List Pt) : Prop where
 tree : ∃ D, TreeP (Q.map fun q => q.2) D ∧ (∀ d ∈ D, 1 ≤ d.2.2 ∧ d.2.2 ≤ 1048576)
 right : ∀ q ∈ Q, RightL q.2
 three : ∀ q ∈ Q, 3 ≤ q.2.length
 rels : (relL (Q.map fun q => q.2)).Perm ls
namespace QI
variable {ls : List Lk} {Q Q' : List Pt}
theorem perm (h : QI ls Q) (hp : Q.Perm Q') : QI ls Q' := by
 obtain ⟨D, h1, h2⟩ := h.tree
 exact ⟨⟨D, h1.perm (hp.map _), h2⟩, fun q hq => h.right q (hp.mem_iff.2 hq), fun q hq => h.three q (hp.mem_iff.2 hq), (relL_perm (hp.map _)).symm.trans h.rels⟩
theorem share (h : QI ls Q) {x y : Pt} {R : List Pt} (hp : Q.Perm (x :: y :: R)) {e f : Lk} (hex : e ∈ virtL x.2) (hey : e ∈ virtL y.2) (hfx : f ∈ virtL x.2) (hfy : f ∈ virtL y.2) : e = f := by
 obtain ⟨D, h1, _⟩ := h.tree
 exact h1.share_one (R := R.map fun q => q.2) (by simpa using hp.map fun q => q.2) hex hey hfx hfy
theorem only (h : QI ls Q) {x y : Pt} {R : List Pt} (hp : Q.Perm (x :: y :: R)) {e : Lk} (hex : e ∈ virtL x.2) (hey : e ∈ virtL y.2) : ∀ z ∈ R, ∀ k ∈ z.2, k.2.2 ≠ e.2.2 := by
 intro z hz k hk hv
 obtain ⟨D, h1, _⟩ := h.tree
 have hp2 : (Q.map fun q => q.2).Perm (x.2 :: y.2 :: R.map fun q => q.2) := by simpa using hp.map fun q => q.2
 have hev := (mem_virtL.1 hex).2
 have hke : k = e := h1.same_num (mem_occL.2 ⟨z.2, hp2.mem_iff.2 (by simp only [List.mem_cons]; exact .inr (.inr (List.mem_map_of_mem hz))), hk, by rw [hv]; exact hev⟩) (mem_occL.2 ⟨x.2, hp2.mem_iff.2 (by simp), (mem_virtL.1 hex).1, hev⟩) hv
 subst hke
 have c2 := h1.count2 (e := k) (h1.memD.2 (mem_occL.2 ⟨x.2, hp2.mem_iff.2 (by simp), (mem_virtL.1 hex).1, hev⟩))
 rw [(occL_perm hp2).count_eq, occL_cons, occL_cons, List.count_append, List.count_append] at c2
 have a1 := List.count_pos_iff.2 hex
 have a2 := List.count_pos_iff.2 hey
 have a3 : 0 < (occL (R.map fun q => q.2)).count k := List.count_pos_iff.2 (mem_occL.2 ⟨z.2, List.mem_map_of_mem hz, hk, hev⟩)
 omega
theorem uniq (h : QI ls Q) {x : Pt} (hx : x ∈ Q) {e : Lk} (he : e ∈ virtL x.2) : ∀ k ∈ x.2, k.2.2 = e.2.2 → k = e := by
 intro k hk hv
 obtain ⟨D, h1, _⟩ := h.tree
 have hev := (mem_virtL.1 he).2
 exact h1.same_num (mem_occL.2 ⟨x.2, List.mem_map_of_mem hx, hk, by rw [hv]; exact hev⟩) (mem_occL.2 ⟨x.2, List.mem_map_of_mem hx, (mem_virtL.1 he).1, hev⟩) hv
theorem sum_len (P : List (List Lk)) : (occL P).length + (relL P).length = (P.map List.length).sum := by
 induction P with
 | nil => rfl
 | cons x P ih =>
  rw [occL_cons, relL_cons, List.map_cons, List.sum_cons, List.length_append, List.length_append]
  have := virt_len x
  omega
theorem sum_three (P : List (List Lk)) (h : ∀ x ∈ P, 3 ≤ x.length) : 3 * P.length ≤ (P.map List.length).sum := by
 induction P with
 | nil => simp
 | cons x P ih =>
  rw [List.map_cons, List.sum_cons, List.length_cons]
  have := ih fun y hy => h y (by simp [hy])
  have := h x (by simp)
  omega
theorem small {P : List (List Lk)} {D : List Lk} (h : TreeP P D) {z : List Lk} {R : List (List Lk)} (hp : P.Perm (z :: R)) (h3 : ∀ x ∈ R, 3 ≤ x.length) : z.length + R.length ≤ (relL P).length := by
 have h1 := sum_len P
 rw [h.occ.length_eq, List.length_append, (hp.map List.length).sum_nat, List.map_cons, List.sum_cons] at h1
 have h2 := sum_three R h3
 have h4 := h.len
 have h5 := hp.length_eq
 simp at h5
 omega
theorem join (h : QI ls Q) (hl : ls.length ≤ 1000) {x y : Pt} {R : List Pt} (hp : Q.Perm (x :: y :: R)) {e : Lk} (hex : e ∈ virtL x.2) (hey : e ∈ virtL y.2) (k : Int) : QI ls ((k, joinL x.2 y.2 e.2.2) :: R) := by
 have hxQ : x ∈ Q := hp.mem_iff.2 (by simp)
 have hyQ : y ∈ Q := hp.mem_iff.2 (by simp)
 obtain ⟨D, h1, h2⟩ := h.tree
 have hp2 : (Q.map fun q => q.2).Perm (x.2 :: y.2 :: R.map fun q => q.2) := by simpa using hp.map fun q => q.2
 have rx := h.right x hxQ
 have ry := h.right y hyQ
 have ex := dropV_erase (right_nodup rx) (mem_virtL.1 hex).1 (h.uniq hxQ hex)
 have ey := dropV_erase (right_nodup ry) (mem_virtL.1 hey).1 (h.uniq hyQ hey)
 have hok : ∀ k ∈ dropV e.2.2 x.2 ++ dropV e.2.2 y.2, OkL k := fun k hk => by
  rcases List.mem_append.1 hk with hk | hk
  · exact rx.2.1 k (mem_dropV.1 hk).1
  · exact ry.2.1 k (mem_dropV.1 hk).1
 have hz : (joinL x.2 y.2 e.2.2).Perm (x.2.erase e ++ y.2.erase e) := by
  have := sortL_perm (dropV e.2.2 x.2 ++ dropV e.2.2 y.2)
  rw [map_swapL hok] at this
  rw [← ex, ← ey]; exact this
 have hT := (h1.perm hp2).join hex hey hz
 have l1 := List.length_erase_of_mem (mem_virtL.1 hex).1
 have l2 := List.length_erase_of_mem (mem_virtL.1 hey).1
 have t1 := h.three x hxQ
 have t2 := h.three y hyQ
 have hzl := hz.length_eq
 rw [List.length_append] at hzl
 have hrel : (relL (joinL x.2 y.2 e.2.2 :: R.map fun q => q.2)).Perm (relL (Q.map fun q => q.2)) := by
  refine List.Perm.trans ?_ (relL_perm hp2).symm
  rw [relL_cons, relL_cons, relL_cons, ← List.append_assoc]
  refine List.Perm.append_right _ ?_
  have hev := (mem_virtL.1 hex).2
  have hre : ∀ Z : List Lk, realL (e :: Z) = realL Z := fun Z => by unfold realL; rw [List.filter_cons, if_neg (by simpa using hev)]
  have a1 := realL_perm (List.perm_cons_erase (mem_virtL.1 hex).1)
  have a2 := realL_perm (List.perm_cons_erase (mem_virtL.1 hey).1)
  rw [hre] at a1 a2
  have a3 := realL_perm hz
  rw [realL_append] at a3
  exact a3.trans (a1.symm.append a2.symm)
 have hlen : (joinL x.2 y.2 e.2.2).length ≤ 1000 := by
  have s1 := small hT (.refl _) (fun u hu => by obtain ⟨q, hq, rfl⟩ := List.mem_map.1 hu; exact h.three q (hp.mem_iff.2 (by simp [hq])))
  have s2 := hrel.length_eq
  have s3 := h.rels.length_eq
  omega
 refine ⟨⟨_, hT, fun d hd => h2 d (List.mem_of_mem_erase hd)⟩, fun q hq => ?_, fun q hq => ?_, ?_⟩
 ·
  rcases List.mem_cons.1 hq with rfl | hq
  ·
   refine right_of hz (sortL_sorted _) (hT.nd _ (by simp)) (fun k hk => ?_) (by rw [← hz.length_eq]; exact hlen); rw [← ex, ← ey] at hk; exact hok k hk
  · exact h.right q (hp.mem_iff.2 (by simp [hq]))
 ·
  rcases List.mem_cons.1 hq with rfl | hq
  · simp only; omega
  · exact h.three q (hp.mem_iff.2 (by simp [hq]))
 ·
  rw [List.map_cons]
  exact hrel.trans h.rels
end QI
def MStep (e : Lk) (Q Q' : List Pt) : Prop := ∃ x y R, Q.Perm (x :: y :: R) ∧ e ∈ virtL x.2 ∧ e ∈ virtL y.2 ∧ x.1 = y.1 ∧ x.1 ≠ 3 ∧ Q'.Perm ((x.1, joinL x.2 y.2 e.2.2) :: R)
theorem MStep.perm {e : Lk} {Q Q' Q1 Q2 : List Pt} (h : MStep e Q Q') (h1 : Q.Perm Q1) (h2 : Q'.Perm Q2) : MStep e Q1 Q2 := by
 obtain ⟨x, y, R, a, b, c, d, f, g⟩ := h
 exact ⟨x, y, R, h1.symm.trans a, b, c, d, f, h2.symm.trans g⟩
theorem MStep.qi {ls : List Lk} (hl : ls.length ≤ 1000) {e : Lk} {Q Q' : List Pt} (h : QI ls Q) (hs : MStep e Q Q') : QI ls Q' := by
 obtain ⟨x, y, R, a, b, c, d, f, g⟩ := hs
 exact (h.join hl a b c _).perm g.symm
theorem MStep.len {e : Lk} {Q Q' : List Pt} (hs : MStep e Q Q') : Q'.length + 1 = Q.length := by
 obtain ⟨x, y, R, a, b, c, d, f, g⟩ := hs
 rw [a.length_eq, g.length_eq]; simp
def MNormal (Q : List Pt) : Prop := ∀ e Q', ¬ MStep e Q Q'
theorem MNormal.perm {Q Q' : List Pt} (h : MNormal Q) (hp : Q.Perm Q') : MNormal Q' := fun e Q1 hs => h e Q1 (hs.perm hp.symm (.refl _))
inductive MTo : List Pt → List Pt → Prop
 | done {Q Q' : List Pt} : Q.Perm Q' → MTo Q Q'
 | step {Q Q1 Q' : List Pt} {e : Lk} : MStep e Q Q1 → MTo Q1 Q' → MTo Q Q'
theorem MTo.permL {Q Q1 Q' : List Pt} (h : MTo Q Q') (hp : Q.Perm Q1) : MTo Q1 Q' := by
 cases h with
 | done h => exact .done (hp.symm.trans h)
 | step h k => exact .step (h.perm hp (.refl _)) k
theorem MTo.snoc {Q Q1 Q2 : List Pt} {e : Lk} (h : MTo Q Q1) (k : MStep e Q1 Q2) : MTo Q Q2 := by
 induction h with
 | done h => exact .step (k.perm h.symm (.refl _)) (.done (.refl _))
 | step h _ ih => exact .step h (ih k)
theorem MTo.qi {ls : List Lk} (hl : ls.length ≤ 1000) {Q Q' : List Pt} (hs : MTo Q Q') : QI ls Q → QI ls Q' := by
 induction hs with
 | done h => exact fun k => k.perm h
 | step h _ ih => exact fun k => ih (h.qi hl k)
theorem mto_ex : ∀ (n : Nat) (Q : List Pt), Q.length = n → ∃ N, MTo Q N ∧ MNormal N := by
 intro n
 induction n with
 | zero =>
  intro Q hQ
  refine ⟨Q, .done (.refl _), fun e Q' hs => ?_⟩
  have := hs.len
  omega
 | succ n ih =>
  intro Q hQ
  by_cases h : MNormal Q
  · exact ⟨Q, .done (.refl _), h⟩
  ·
   have : ∃ e Q', MStep e Q Q' := Classical.byContradiction fun hno => h fun e Q' hs => hno ⟨e, Q', hs⟩; obtain ⟨e, Q', hs⟩ := this; obtain ⟨N, h1, h2⟩ := ih Q' (by have := hs.len; omega); exact ⟨N, .step hs h1, h2⟩
theorem MStep.same {ls : List Lk} {e : Lk} {Q Q1 Q2 : List Pt} (h : QI ls Q) (h1 : MStep e Q Q1) (h2 : MStep e Q Q2) : Q1.Perm Q2 := by
 obtain ⟨x, y, R, a, b, c, d, f, g⟩ := h1
 obtain ⟨x', y', R', a', b', c', d', f', g'⟩ := h2
 have only := h.only a b c
 have hnR : ∀ z ∈ R, e ∉ virtL z.2 := fun z hz hm => only z hz e (mem_virtL.1 hm).1 rfl
 have hp := a'.symm.trans a
 have key : ∀ {u v : Pt}, (x' :: y' :: R').Perm (u :: v :: R) → x' = u → y' = v ∧ R'.Perm R := fun {u v} hp hx => by
  subst hx
  have h1 := hp.cons_inv
  have hy := h1.mem_iff.1 (List.mem_cons_self ..)
  rcases List.mem_cons.1 hy with rfl | hy
  · exact ⟨rfl, h1.cons_inv⟩
  · exact absurd c' (hnR _ hy)
 have hx := hp.mem_iff.1 (List.mem_cons_self ..)
 rcases List.mem_cons.1 hx with e1 | hx
 ·
  obtain ⟨rfl, hR⟩ := key hp e1
  subst e1
  exact g.trans ((hR.symm.cons _).trans g'.symm)
 ·
  rcases List.mem_cons.1 hx with e1 | hx
  ·
   obtain ⟨rfl, hR⟩ := key (hp.trans (.swap ..)) e1; subst e1; rw [d', joinL_comm] at g'; exact g.trans ((hR.symm.cons _).trans g'.symm)
  · exact absurd b' (hnR _ hx)
theorem two_steps {ls : List Lk} {e f : Lk} {Q : List Pt} (h : QI ls Q) (hne : e ≠ f) {x y x' y' : Pt} {R R' : List Pt} (a : Q.Perm (x :: y :: R)) (b : e ∈ virtL x.2) (c : e ∈ virtL y.2) (a' : Q.Perm (x' :: y' :: R')) (b' : f ∈ virtL x'.2) (c' : f ∈ virtL y'.2) :
  (∃ R1, R.Perm (x' :: y' :: R1) ∧ R'.Perm (x :: y :: R1)) ∨
  (∃ p q r R1, ((x = p ∧ y = q) ∨ (x = q ∧ y = p)) ∧ R.Perm (r :: R1) ∧ ((x' = p ∧ y' = r) ∨ (x' = r ∧ y' = p)) ∧ R'.Perm (q :: R1)) := by
 have hp := a.symm.trans a'
 have hx' : x' ∈ x :: y :: R := hp.mem_iff.2 (List.mem_cons_self ..)
 have one : ∀ {p q u v : Pt} {S : List Pt}, (p :: q :: R).Perm (u :: v :: S) → e ∈ virtL p.2 → e ∈ virtL q.2 → f ∈ virtL u.2 → f ∈ virtL v.2 → Q.Perm (p :: q :: R) → u = p → ∃ R1, R.Perm (v :: R1) ∧ S.Perm (q :: R1) := fun {p q u v S} hp e1 e2 f1 f2 hQ hu => by
  subst hu
  have h1 := hp.cons_inv
  have hv := h1.mem_iff.2 (List.mem_cons_self ..)
  rcases List.mem_cons.1 hv with rfl | hv
  · exact absurd (h.share hQ e1 e2 f1 f2) hne
  ·
   obtain ⟨R1, hR1⟩ := perm_head hv; refine ⟨R1, hR1, ?_⟩; have h2 : (v :: q :: R1).Perm (v :: S) := (((List.Perm.swap _ _ _).trans (hR1.symm.cons q))).trans h1; exact h2.cons_inv.symm
 rcases List.mem_cons.1 hx' with e1 | hx'
 ·
  obtain ⟨R1, r1, r2⟩ := one hp b c b' c' a e1
  exact .inr ⟨x, y, y', R1, .inl ⟨rfl, rfl⟩, r1, .inl ⟨e1, rfl⟩, r2⟩
 rcases List.mem_cons.1 hx' with e1 | hx'
 ·
  obtain ⟨R1, r1, r2⟩ := one ((List.Perm.swap ..).trans hp) c b b' c' (a.trans (.swap ..)) e1
  exact .inr ⟨y, x, y', R1, .inr ⟨rfl, rfl⟩, r1, .inl ⟨e1, rfl⟩, r2⟩
 have hy' : y' ∈ x :: y :: R := hp.mem_iff.2 (by simp)
 rcases List.mem_cons.1 hy' with e1 | hy'
 ·
  obtain ⟨R1, r1, r2⟩ := one (hp.trans (.swap ..)) b c c' b' a e1
  exact .inr ⟨x, y, x', R1, .inl ⟨rfl, rfl⟩, r1, .inr ⟨rfl, e1⟩, r2⟩
 rcases List.mem_cons.1 hy' with e1 | hy'
 ·
  obtain ⟨R1, r1, r2⟩ := one ((List.Perm.swap ..).trans (hp.trans (.swap ..))) c b c' b' (a.trans (.swap ..)) e1
  exact .inr ⟨y, x, x', R1, .inr ⟨rfl, rfl⟩, r1, .inr ⟨rfl, e1⟩, r2⟩
 ·
  left
  obtain ⟨R1, h1⟩ := perm_head hx'
  have h2 : (x' :: x :: y :: R1).Perm (x' :: y' :: R') := by
   refine List.Perm.trans ?_ hp; refine (List.Perm.swap _ _ _).trans ?_; refine List.Perm.cons _ ?_; exact (List.Perm.swap _ _ _).trans (h1.symm.cons y)
  have h3 := h2.cons_inv
  have hy2 : y' ∈ x :: y :: R1 := h3.mem_iff.2 (List.mem_cons_self ..)
  have hno : ∀ z ∈ [x, y], y' ≠ z := fun z hz he => by
   simp at hz; have := h.only a b c y' hy' e; rcases hz with rfl | rfl
   · exact this (by rw [he]; exact (mem_virtL.1 b).1) rfl
   · exact this (by rw [he]; exact (mem_virtL.1 c).1) rfl
  rcases List.mem_cons.1 hy2 with e1 | hy2
  · exact absurd e1 (hno x (by simp))
  rcases List.mem_cons.1 hy2 with e1 | hy2
  · exact absurd e1 (hno y (by simp))
  obtain ⟨R2, h4⟩ := perm_head hy2
  refine ⟨R2, h1.trans (h4.cons _), ?_⟩
  have h5 : (y' :: x :: y :: R2).Perm (y' :: R') := by
   refine List.Perm.trans ?_ h3; refine (List.Perm.swap _ _ _).trans ?_; refine List.Perm.cons _ ?_; exact (List.Perm.swap _ _ _).trans (h4.symm.cons y)
  exact h5.cons_inv.symm
theorem join_join {x y z : List Lk} {v w : Int} (hok : ∀ k ∈ x ++ y ++ z, OkL k) (hz : ∀ k ∈ z, k.2.2 ≠ v) (hy : ∀ k ∈ y, k.2.2 ≠ w) : joinL (joinL x y v) z w = joinL (joinL x z w) y v := by
 have sp : ∀ a : List Lk, (∀ k ∈ a, OkL k) → (sortL a).Perm a := fun a ha => by have := sortL_perm a; rwa [map_swapL ha] at this
 have hx : ∀ k ∈ x, OkL k := fun k hk => hok k (by simp [hk])
 have hyo : ∀ k ∈ y, OkL k := fun k hk => hok k (by simp [hk])
 have hzo : ∀ k ∈ z, OkL k := fun k hk => hok k (by simp [hk])
 have o1 : ∀ (a b : List Lk) (u : Int), (∀ k ∈ a, OkL k) → (∀ k ∈ b, OkL k) → ∀ k ∈ dropV u a ++ dropV u b, OkL k := fun a b u ha hb k hk => by
  rcases List.mem_append.1 hk with hk | hk
  · exact ha k (mem_dropV.1 hk).1
  · exact hb k (mem_dropV.1 hk).1
 have p1 : (joinL x y v).Perm (dropV v x ++ y.filter fun k => k.2.2 != v) := sp _ (o1 x y v hx hyo)
 have p2 : (joinL x z w).Perm (dropV w x ++ z.filter fun k => k.2.2 != w) := sp _ (o1 x z w hx hzo)
 have ez : dropV v z = z := dropV_self hz
 have ey : dropV w y = y := dropV_self hy
 refine sortL_congr (List.Perm.map _ ?_)
 have q1 := (dropV_perm (v := w) p1).append_right (dropV w z)
 have q2 := (dropV_perm (v := v) p2).append_right (dropV v y)
 refine q1.trans (List.Perm.trans ?_ q2.symm)
 rw [dropV_append, dropV_append]
 change (dropV w (dropV v x) ++ dropV w (dropV v y) ++ dropV w z).Perm (dropV v (dropV w x) ++ dropV v (dropV w z) ++ dropV v y)
 rw [dropV_comm v w x, dropV_comm w v y, ey, dropV_comm v w z, ez, List.append_assoc, List.append_assoc]
 exact List.Perm.append_left _ List.perm_append_comm
theorem MStep.cross {ls : List Lk} (hl : ls.length ≤ 1000) {e f : Lk} {Q Q1 Q2 : List Pt} (h : QI ls Q) (hne : e ≠ f) (h1 : MStep e Q Q1) (h2 : MStep f Q Q2) : ∃ Q3, MStep f Q1 Q3 ∧ MStep e Q2 Q3 := by
 obtain ⟨x, y, R, a, b, c, d, k, g⟩ := h1
 obtain ⟨x', y', R', a', b', c', d', k', g'⟩ := h2
 have hjok : ∀ {p q : Pt} {v : Int} {i : Lk}, p ∈ Q → q ∈ Q → (i ∈ virtL (joinL p.2 q.2 v) ↔ (i ∈ virtL p.2 ∨ i ∈ virtL q.2) ∧ i.2.2 ≠ v) := fun {p q v i} hp hq => by
  have hok : ∀ k ∈ dropV v p.2 ++ dropV v q.2, OkL k := fun k hk => by
   rcases List.mem_append.1 hk with hk | hk
   · exact (h.right p hp).2.1 k (mem_dropV.1 hk).1
   · exact (h.right q hq).2.1 k (mem_dropV.1 hk).1
  have hpp := sortL_perm (dropV v p.2 ++ dropV v q.2)
  rw [map_swapL hok] at hpp
  rw [mem_virtL, mem_virtL, mem_virtL]
  unfold joinL
  rw [hpp.mem_iff, List.mem_append, mem_dropV, mem_dropV]
  constructor
  ·
   rintro ⟨h1 | h1, h2⟩
   · exact ⟨.inl ⟨h1.1, h2⟩, h1.2⟩
   · exact ⟨.inr ⟨h1.1, h2⟩, h1.2⟩
  ·
   rintro ⟨h1 | h1, h2⟩
   · exact ⟨.inl ⟨h1.1, h2⟩, h1.2⟩
   · exact ⟨.inr ⟨h1.1, h2⟩, h1.2⟩
 rcases two_steps h hne a b c a' b' c' with ⟨R1, r1, r2⟩ | ⟨p, q, r, R1, hxy, r1, hxy', r2⟩
 ·
  refine ⟨(x.1, joinL x.2 y.2 e.2.2) :: (x'.1, joinL x'.2 y'.2 f.2.2) :: R1, ?_, ?_⟩
  ·
   refine ⟨x', y', (x.1, joinL x.2 y.2 e.2.2) :: R1, g.trans ((r1.cons _).trans ?_), b', c', d', k', .swap ..⟩; refine (List.Perm.swap _ _ _).trans (List.Perm.cons _ ?_); exact .swap ..
  ·
   refine ⟨x, y, (x'.1, joinL x'.2 y'.2 f.2.2) :: R1, g'.trans ((r2.cons _).trans ?_), b, c, d, k, .refl _⟩; refine (List.Perm.swap _ _ _).trans (List.Perm.cons _ ?_); exact .swap ..
 ·
  
  have main : ∀ {p q r : Pt} {R1 : List Pt}, Q.Perm (p :: q :: r :: R1) → e ∈ virtL p.2 → e ∈ virtL q.2 → f ∈ virtL p.2 → f ∈ virtL r.2 → p.1 = q.1 → p.1 = r.1 → p.1 ≠ 3 →
    MStep f ((p.1, joinL p.2 q.2 e.2.2) :: r :: R1) ((p.1, joinL (joinL p.2 q.2 e.2.2) r.2 f.2.2) :: R1) ∧ MStep e ((p.1, joinL p.2 r.2 f.2.2) :: q :: R1) ((p.1, joinL (joinL p.2 q.2 e.2.2) r.2 f.2.2) :: R1) := fun {p q r R1} hQ e1 e2 f1 f2 k1 k2 k3 => by
   have mp : p ∈ Q := hQ.mem_iff.2 (by simp); have mq : q ∈ Q := hQ.mem_iff.2 (by simp); have mr : r ∈ Q := hQ.mem_iff.2 (by simp); have hvne : f.2.2 ≠ e.2.2 := fun hv => hne (h.uniq mp f1 e (mem_virtL.1 e1).1 hv.symm); have hr := h.only hQ e1 e2 r (by simp); have hq := h.only (hQ.trans ((List.Perm.swap _ _ _).cons _)) f1 f2 q (by simp); have hok : ∀ k ∈ p.2 ++ q.2 ++ r.2, OkL k := fun k hk => by
    rcases List.mem_append.1 hk with hk | hk
    ·
     rcases List.mem_append.1 hk with hk | hk
     · exact (h.right p mp).2.1 k hk
     · exact (h.right q mq).2.1 k hk
    · exact (h.right r mr).2.1 k hk
   refine ⟨⟨_, r, R1, .refl _, (hjok mp mq).2 ⟨.inl f1, hvne⟩, f2, k2, k3, .refl _⟩, ⟨_, q, R1, .refl _, (hjok mp mr).2 ⟨.inl e1, fun hv => hvne hv.symm⟩, e2, k1, k3, ?_⟩⟩; rw [join_join hok hr hq]
  have hQ : Q.Perm (p :: q :: r :: R1) := by
   rcases hxy with ⟨rfl, rfl⟩ | ⟨rfl, rfl⟩
   · exact a.trans ((r1.cons _).cons _)
   · exact a.trans ((List.Perm.swap _ _ _).trans ((r1.cons _).cons _))
  have hep : e ∈ virtL p.2 ∧ e ∈ virtL q.2 := by rcases hxy with ⟨rfl, rfl⟩ | ⟨rfl, rfl⟩ <;> exact ⟨by assumption, by assumption⟩
  have hfp : f ∈ virtL p.2 ∧ f ∈ virtL r.2 := by rcases hxy' with ⟨rfl, rfl⟩ | ⟨rfl, rfl⟩ <;> exact ⟨by assumption, by assumption⟩
  have hk1 : p.1 = q.1 ∧ p.1 ≠ 3 := by
   rcases hxy with ⟨rfl, rfl⟩ | ⟨rfl, rfl⟩
   · exact ⟨d, k⟩
   · exact ⟨d.symm, by rw [← d]; exact k⟩
  have hk2 : p.1 = r.1 := by
   rcases hxy' with ⟨rfl, rfl⟩ | ⟨rfl, rfl⟩
   · exact d'
   · exact d'.symm
  obtain ⟨m1, m2⟩ := main hQ hep.1 hep.2 hfp.1 hfp.2 hk1.1 hk2 hk1.2
  refine ⟨_, m1.perm ?_ (.refl _), m2.perm ?_ (.refl _)⟩
  ·
   refine List.Perm.trans ?_ g.symm; have : (p.1, joinL p.2 q.2 e.2.2) = (x.1, joinL x.2 y.2 e.2.2) := by
    rcases hxy with ⟨rfl, rfl⟩ | ⟨rfl, rfl⟩
    · rfl
    · rw [joinL_comm, d]
   rw [this]; exact r1.symm.cons _
  ·
   refine List.Perm.trans ?_ g'.symm; have : (p.1, joinL p.2 r.2 f.2.2) = (x'.1, joinL x'.2 y'.2 f.2.2) := by
    rcases hxy' with ⟨rfl, rfl⟩ | ⟨rfl, rfl⟩
    · rfl
    · rw [joinL_comm, d']
   rw [this]; exact r2.symm.cons _
theorem MTo.one {ls : List Lk} (hl : ls.length ≤ 1000) : ∀ (n : Nat) (Q N1 N2 : List Pt), Q.length = n → QI ls Q → MTo Q N1 → MTo Q N2 → MNormal N1 → MNormal N2 → N1.Perm N2 := by
 intro n
 induction n with
 | zero =>
  intro Q N1 N2 hQ _ h1 h2 _ _
  cases h1 with
  | step s _ => have := s.len; omega
  | done p1 =>
   cases h2 with
   | step s _ => have := s.len; omega
   | done p2 => exact p1.symm.trans p2
 | succ n ih =>
  intro Q N1 N2 hQ hqi h1 h2 n1 n2
  cases h1 with
  | done p1 =>
   cases h2 with
   | done p2 => exact p1.symm.trans p2
   | step s _ => exact absurd (s.perm p1 (.refl _)) (n1 _ _)
  | step s1 t1 =>
   cases h2 with
   | done p2 => exact absurd (s1.perm p2 (.refl _)) (n2 _ _)
   | step s2 t2 =>
    rename_i Q1 e Q2 f; have l1 := s1.len; have l2 := s2.len; by_cases hef : e = f
    ·
     subst hef; exact ih Q1 N1 N2 (by omega) (s1.qi hl hqi) t1 (t2.permL (s2.same hqi s1)) n1 n2
    ·
     obtain ⟨Q3, s3, s4⟩ := s1.cross hl hqi hef s2; obtain ⟨N3, t3, n3⟩ := mto_ex Q3.length Q3 rfl; exact (ih Q1 N1 N3 (by omega) (s1.qi hl hqi) t1 (.step s3 t3) n1 n3).trans (ih Q2 N2 N3 (by omega) (s2.qi hl hqi) t2 (.step s4 t3) n2 n3).symm
end Go.Proofs.YtagcbnpahgfgmaaGreat
namespace Go.Proofs.YtagcbnpahgfgmaaGreat
def cmpLs : List Lk → List Lk → Int
 | [], [] => 0
 | [], _ :: _ => -1
 | _ :: _, [] => 1
 | a :: x, b :: y => if cmpL a b = 0 then cmpLs x y else cmpL a b
theorem cmpL_zero {a b : Lk} : cmpL a b = 0 ↔ a = b := by
 constructor
 ·
  intro h
  refine LtL.total a b (fun hl => ?_) (fun hl => ?_)
  · have := (cmpL_neg a b).2 hl; omega
  ·
   have := (cmpL_neg b a).2 hl; unfold cmpL orI cmpI at h this; repeat' split at h
   all_goals (repeat' split at this) <;> omega
 ·
  intro h
  subst h
  unfold cmpL orI cmpI
  simp
theorem cmpL_swap (a b : Lk) : cmpL b a = - cmpL a b := by
 have e : ∀ x y : Int, cmpI y x = - cmpI x y := fun x y => by
  unfold cmpI
  repeat' split
  all_goals omega
 unfold cmpL
 rw [e a.1 b.1, e a.2.1 b.2.1, e a.2.2 b.2.2]
 unfold orI
 repeat' split
 all_goals omega
theorem cmpLs_self (a : List Lk) : cmpLs a a = 0 := by
 induction a with
 | nil => rfl
 | cons x a ih => unfold cmpLs; rw [if_pos (cmpL_zero.2 rfl)]; exact ih
theorem cmpLs_zero : ∀ {a b : List Lk}, cmpLs a b = 0 ↔ a = b
 | [], [] => by simp [cmpLs]
 | [], _ :: _ => by simp [cmpLs]
 | _ :: _, [] => by simp [cmpLs]
 | x :: a, y :: b => by
  unfold cmpLs
  split
  ·
   rename_i h
   rw [cmpL_zero] at h
   subst h
   rw [cmpLs_zero]; simp
  ·
   rename_i h
   constructor
   · exact fun k => absurd k h
   ·
    intro k
    cases k
    exact absurd (cmpL_zero.2 rfl) h
theorem cmpLs_swap : ∀ (a b : List Lk), cmpLs b a = - cmpLs a b
 | [], [] => rfl
 | [], _ :: _ => rfl
 | _ :: _, [] => rfl
 | x :: a, y :: b => by
  unfold cmpLs
  rw [cmpL_swap x y]
  by_cases h : cmpL x y = 0
  · rw [if_pos (by omega), if_pos h]; exact cmpLs_swap a b
  · rw [if_neg (by omega), if_neg h]
theorem cmpLs_lt_trans : ∀ {a b c : List Lk}, cmpLs a b ≤ 0 → cmpLs b c ≤ 0 → cmpLs a c ≤ 0
 | [], [], c => fun _ h => h
 | [], _ :: _, [] => fun _ h => by simp [cmpLs]
 | [], _ :: _, _ :: _ => fun _ _ => by simp [cmpLs]
 | _ :: _, [], _ => fun h _ => by simp [cmpLs] at h
 | _ :: _, _ :: _, [] => fun _ h => by simp [cmpLs] at h
 | x :: a, y :: b, z :: c => by
  unfold cmpLs
  intro h k
  by_cases h1 : cmpL x y = 0
  ·
   rw [if_pos h1] at h
   rw [cmpL_zero] at h1
   subst h1
   by_cases h2 : cmpL x z = 0
   ·
    rw [if_pos h2] at k ⊢
    exact cmpLs_lt_trans h k
   ·
    rw [if_neg h2] at k ⊢
    exact k
  ·
   rw [if_neg h1] at h
   have l1 : LtL x y := (cmpL_neg x y).1 (by omega)
   by_cases h2 : cmpL y z = 0
   ·
    rw [cmpL_zero] at h2
    subst h2
    rw [if_neg h1]; exact h
   ·
    rw [if_neg h2] at k
    have l2 : LtL y z := (cmpL_neg y z).1 (by omega)
    have l3 := (cmpL_neg x z).2 (l1.trans l2)
    rw [if_neg (by omega)]
    omega
def LeP (a b : Pt) : Prop := cmpLs a.2 b.2 ≤ 0
theorem QI.distinct {ls : List Lk} {Q : List Pt} (h : QI ls Q) : ∀ {x y : Pt} {R : List Pt}, Q.Perm (x :: y :: R) → x.2 ≠ y.2 := by
 intro x y R hp he
 have hx := h.three x (hp.mem_iff.2 (by simp))
 have hn := right_nodup (h.right x (hp.mem_iff.2 (by simp)))
 obtain ⟨D, h1, _⟩ := h.tree
 have hp2 : (Q.map fun q => q.2).Perm (x.2 :: y.2 :: R.map fun q => q.2) := by simpa using hp.map fun q => q.2
 have hrel := (relL_perm hp2).nodup_iff.1 h1.rel
 rw [relL_cons, relL_cons] at hrel
 have hv : ∀ k ∈ x.2, k ∈ virtL x.2 ∧ k ∈ virtL y.2 := fun k hk => by
  have h0 : k.2.2 ≠ 0 := fun h0 => by
   rw [List.nodup_append] at hrel; exact hrel.2.2 k (mem_realL.2 ⟨hk, h0⟩) k (by rw [List.mem_append]; exact .inl (mem_realL.2 ⟨by rw [← he]; exact hk, h0⟩)) rfl
  exact ⟨mem_virtL.2 ⟨hk, h0⟩, mem_virtL.2 ⟨by rw [← he]; exact hk, h0⟩⟩
 match hl : x.2, hx, hn with
 | [], hx, _ => simp at hx
 | [_], hx, _ => simp at hx
 | a :: b :: l, _, hn =>
  have ha := hv a (by rw [hl]; simp)
  have hb := hv b (by rw [hl]; simp)
  have := h.share hp ha.1 ha.2 hb.1 hb.2
  subst this
  simp at hn
theorem QI.sorted_one {ls : List Lk} {Q T1 T2 : List Pt} (h : QI ls Q) (h1 : Q.Perm T1) (h2 : Q.Perm T2) (s1 : T1.Pairwise LeP) (s2 : T2.Pairwise LeP) : T1 = T2 := by
 refine (h1.symm.trans h2).eq_of_pairwise (fun x y hx hy a b => ?_) s1 s2
 have he : x.2 = y.2 := by
  have := cmpLs_swap x.2 y.2
  unfold LeP at a b
  exact cmpLs_zero.1 (by omega)
 refine Classical.byContradiction fun hne => ?_
 obtain ⟨R, hR⟩ := perm_head hx
 have hy2 : y ∈ T1 := (h1.symm.trans h2).mem_iff.2 hy
 have hy3 := hR.mem_iff.1 hy2
 rcases List.mem_cons.1 hy3 with rfl | hy3
 · exact hne rfl
 ·
  obtain ⟨R', hR'⟩ := perm_head hy3
  exact h.distinct (h1.trans (hR.trans (hR'.cons x))) he
def TreeTo (K : List Lk → Int) (ls : List Lk) (T : List Pt) : Prop :=
 ∃ out n Q, SplitTo ls 1 out n ∧ MTo (out.map fun p => (K p, p)) Q ∧ MNormal Q ∧ Q.Perm T ∧ T.Pairwise LeP
theorem PiecesOk.qi {ls : List Lk} {out : List (List Lk)} {n : Int} (h : PiecesOk ls out n) (hl : ls.length ≤ 1000) (K : List Lk → Int) : QI ls (out.map fun p => (K p, p)) := by
 have e : (out.map fun p => (K p, p)).map (fun q : Pt => q.2) = out := by
  rw [List.map_map]; exact List.map_id _
 obtain ⟨D, h1, h2, h3⟩ := h.tree
 refine ⟨⟨D, by rw [e]; exact h1, fun d hd => by have := h2 d hd; have := h.hi; omega⟩, fun q hq => ?_, fun q hq => ?_, by rw [e]; exact h.rels⟩
 ·
  obtain ⟨p, hp, rfl⟩ := List.mem_map.1 hq
  exact h.right p hp
 ·
  obtain ⟨p, hp, rfl⟩ := List.mem_map.1 hq
  exact h.three p hp
theorem TreeTo.qi {K : List Lk → Int} {ls : List Lk} {T : List Pt} (h : TreeTo K ls T) (hR : RightL ls) (hv : ∀ k ∈ ls, k.2.2 = 0) (h3 : 3 ≤ ls.length) : QI ls T := by
 obtain ⟨out, n, Q, h1, h2, h4, h5, h6⟩ := h
 exact (h2.qi hR.1 ((h1.ok hR hv h3).qi hR.1 K)).perm h5
theorem TreeTo.one {K : List Lk → Int} {ls : List Lk} {T1 T2 : List Pt} (h : TreeTo K ls T1) (k : TreeTo K ls T2) (hR : RightL ls) (hv : ∀ k ∈ ls, k.2.2 = 0) (h3 : 3 ≤ ls.length) : T1 = T2 := by
 obtain ⟨out, n, Q, h1, h2, h4, h5, h6⟩ := h
 obtain ⟨out', n', Q', k1, k2, k4, k5, k6⟩ := k
 obtain ⟨rfl, rfl⟩ := h1.one k1
 have hq := (h1.ok hR hv h3).qi hR.1 K
 have hQ : Q.Perm Q' := MTo.one hR.1 _ _ _ _ rfl hq h2 k2 h4 k4
 exact (h2.qi hR.1 hq).sorted_one h5 (hQ.trans k5) h6 k6
end Go.Proofs.YtagcbnpahgfgmaaGreat
namespace Go.Proofs.YtagcbnpahgfgmaaGreat
def degN (ls : List Lk) (v : Int) : Nat := (ls.filter fun k => decide (k.1 = v ∨ k.2.1 = v)).length
def cntN (ls : List Lk) (v : Int) : Nat := (endsL ls).count v
def allTwoL (ls : List Lk) : Bool := (vertsL ls).all fun v => cntN ls v == 2
def kindL (ls : List Lk) : Int :=
 if decide (ls.length < 3) || !joinedL ls then 0
 else if (vertsL ls).length = 2 then 2
 else if allTwoL ls then 1
 else if (vertsL ls).length < 4 then 0
 else if decide ((firstC ls).2.2.2 ≠ 0) || (firstC ls).2.2.1 then 0 else 3
def kindR (ls : List Lk) : Int :=
 if !rightL ls || decide (ls.length < 3) then 0
 else if (vertsL ls).length = 2 then 2
 else if joinedL ls && (vertsL ls).all (fun v => degN ls v == 2) then 1
 else if decide ((vertsL ls).length < 4) || !twoL ls then 0
 else if (firstC ls).2.2.1 then 0 else 3
theorem joinedR {ls : List Lk} (h : joinedL ls = true) : RightL ls := by
 refine Classical.byContradiction fun hno => ?_
 unfold joinedL groupsL at h
 rw [rightL_false hno] at h
 simp at h
theorem two_joined {ls : List Lk} (h : twoL ls = true) : joinedL ls = true := by
 unfold twoL at h
 simp only [Bool.and_eq_true] at h
 exact h.1
theorem cnt_deg {ls : List Lk} (h : ∀ k ∈ ls, OkL k) (v : Int) : cntN ls v = degN ls v := by
 unfold cntN degN
 induction ls with
 | nil => rfl
 | cons k ls ih =>
  have hk := h k (by simp)
  unfold OkL at hk
  have i1 := ih fun x hx => h x (by simp [hx])
  unfold endsL at i1 ⊢
  rw [List.flatMap_cons, List.count_append, i1, List.filter_cons]
  obtain ⟨a, b, c⟩ := k
  simp only at hk ⊢
  by_cases h1 : a = v
  ·
   subst h1; have h2 : ¬ b = a := by omega
   simp [h2]; omega
  ·
   by_cases h2 : b = v
   ·
    subst h2; simp [h1]; omega
   · simp [h1, h2]
theorem all_deg {ls : List Lk} (h : RightL ls) : allTwoL ls = (vertsL ls).all (fun v => degN ls v == 2) := by
 unfold allTwoL
 refine List.all_congr rfl fun v => ?_
 rw [cnt_deg h.2.1]
theorem first_err {ls : List Lk} (h : twoL ls = true) : (firstC ls).2.2.2 = 0 := by
 unfold firstC
 rw [h]
 simp only [if_true]
 split <;> rfl
theorem first_err2 {ls : List Lk} (h : twoL ls = false) : (firstC ls).2.2.2 = 130 := by
 unfold firstC
 rw [h]; rfl
theorem kind_same (ls : List Lk) : kindR ls = kindL ls := by
 unfold kindR kindL
 cases hr : rightL ls with
 | false =>
  have : joinedL ls = false := by
   cases hj : joinedL ls with
   | false => rfl
   | true => rw [(rightL_iff ls).2 (joinedR hj)] at hr; cases hr
  rw [this]; simp
 | true =>
  have hR := (rightL_iff ls).1 hr
  by_cases h3 : ls.length < 3
  · rw [decide_eq_true h3]; simp
  rw [decide_eq_false h3]
  have hne : ls ≠ [] := fun e => by subst e; simp at h3
  by_cases h2 : (vertsL ls).length = 2
  ·
   have := two_joined (two_few hr hne (by omega)); rw [this]; simp [h2]
  simp only [Bool.not_true, Bool.or_false, if_neg h2, Bool.false_eq_true, if_false, Bool.false_or]
  cases hj : joinedL ls with
  | false =>
   have ht : twoL ls = false := by unfold twoL; rw [hj]; rfl
   rw [ht]; simp
  | true =>
   simp only [Bool.not_true, Bool.true_and, Bool.false_eq_true, if_false]; rw [← all_deg hR]; cases ha : allTwoL ls with
   | true => simp
   | false =>
    simp only [Bool.false_eq_true, if_false]; by_cases h4 : (vertsL ls).length < 4
    · rw [decide_eq_true h4]; simp [h4]
    ·
     rw [decide_eq_false h4]; simp only [Bool.false_or, if_neg h4]; cases ht : twoL ls with
     | false => rw [first_err2 ht]; simp
     | true => rw [first_err ht]; simp
end Go.Proofs.YtagcbnpahgfgmaaGreat
namespace Go.Proofs.YtagcbnpahgfgmaaGreat
theorem snoc_ind {α : Type} {P : List α → Prop} (nil : P []) (snoc : ∀ l a, P l → P (l ++ [a])) (l : List α) : P l := by
 rw [← List.reverse_reverse l]
 induction l.reverse with
 | nil => exact nil
 | cons a m ih => rw [List.reverse_cons]; exact snoc _ _ ih
abbrev Oc := Nat × Lk
def lnQ (Q : List Pt) (i : Nat) : List Lk := match Q[i]? with
 | some q => q.2
 | none => []
def kdQ (Q : List Pt) (i : Nat) : Int := match Q[i]? with
 | some q => q.1
 | none => 0
theorem lnQ_at {Q : List Pt} {i : Nat} (h : i < Q.length) : lnQ Q i = Q[i].2 := by unfold lnQ; rw [List.getElem?_eq_getElem h]
theorem kdQ_at {Q : List Pt} {i : Nat} (h : i < Q.length) : kdQ Q i = Q[i].1 := by unfold kdQ; rw [List.getElem?_eq_getElem h]
theorem lnQ_out {Q : List Pt} {i : Nat} (h : ¬ i < Q.length) : lnQ Q i = [] := by unfold lnQ; rw [List.getElem?_eq_none (by omega)]
def rowO (Q : List Pt) (i : Nat) : List Oc := (lnQ Q i).map fun e => (i, e)
def preO (Q : List Pt) (i : Nat) : List Oc := (List.range i).flatMap (rowO Q)
def preQ (Q : List Pt) (i k : Nat) : List Oc := preO Q i ++ (rowO Q i).take k
def allQ (Q : List Pt) : List Oc := preO Q Q.length
theorem preO_succ (Q : List Pt) (i : Nat) : preO Q (i + 1) = preO Q i ++ rowO Q i := by unfold preO; rw [List.range_succ, List.flatMap_append]; simp
theorem preQ_zero (Q : List Pt) (i : Nat) : preQ Q i 0 = preO Q i := by simp [preQ]
theorem preQ_succ (Q : List Pt) (i k : Nat) (h : k < (lnQ Q i).length) : preQ Q i (k + 1) = preQ Q i k ++ [(i, (lnQ Q i)[k])] := by
 unfold preQ
 have hl : k < (rowO Q i).length := by simp [rowO]; exact h
 rw [List.take_succ_eq_append_getElem hl, ← List.append_assoc]
 simp [rowO]
theorem preQ_row (Q : List Pt) (i : Nat) : preQ Q i (lnQ Q i).length = preO Q (i + 1) := by
 unfold preQ
 rw [preO_succ, List.take_of_length_le (by simp [rowO])]
theorem mem_rowO {Q : List Pt} {i : Nat} {p : Oc} : p ∈ rowO Q i ↔ p.1 = i ∧ p.2 ∈ lnQ Q i := by
 unfold rowO
 rw [List.mem_map]
 constructor
 · rintro ⟨e, he, rfl⟩; exact ⟨rfl, he⟩
 · rintro ⟨rfl, h⟩; exact ⟨p.2, h, rfl⟩
theorem mem_preO {Q : List Pt} {i : Nat} {p : Oc} : p ∈ preO Q i ↔ p.1 < i ∧ p.2 ∈ lnQ Q p.1 := by
 unfold preO
 rw [List.mem_flatMap]
 constructor
 ·
  rintro ⟨j, hj, hp⟩
  obtain ⟨rfl, h⟩ := mem_rowO.1 hp
  exact ⟨List.mem_range.1 hj, h⟩
 ·
  rintro ⟨h1, h2⟩
  exact ⟨p.1, List.mem_range.2 h1, mem_rowO.2 ⟨rfl, h2⟩⟩
theorem mem_allQ {Q : List Pt} {p : Oc} : p ∈ allQ Q ↔ p.2 ∈ lnQ Q p.1 := by
 unfold allQ
 rw [mem_preO]
 constructor
 · exact fun h => h.2
 ·
  intro h
  refine ⟨Classical.byContradiction fun hno => ?_, h⟩
  rw [lnQ_out hno] at h
  simp at h
theorem lnQ_mem {Q : List Pt} {i : Nat} {e : Lk} (h : e ∈ lnQ Q i) : i < Q.length := Classical.byContradiction fun hno => by rw [lnQ_out hno] at h; simp at h
theorem preO_links (Q : List Pt) : ∀ i, i ≤ Q.length → (preO Q i).map (fun p => p.2) = ((Q.take i).map fun q => q.2).flatten := by
 intro i
 induction i with
 | zero => intro _; simp [preO]
 | succ i ih =>
  intro h
  rw [preO_succ, List.map_append, ih (by omega), List.take_succ_eq_append_getElem (by omega), List.map_append, List.flatten_append]
  simp [rowO, lnQ_at (show i < Q.length by omega)]
  exact List.map_id _
theorem allQ_links (Q : List Pt) : (allQ Q).map (fun p => p.2) = (Q.map fun q => q.2).flatten := by
 unfold allQ
 rw [preO_links Q _ (Nat.le_refl _), List.take_length]
theorem allQ_virt (Q : List Pt) : ((allQ Q).filter fun p => p.2.2.2 != 0).map (fun p => p.2) = occL (Q.map fun q => q.2) := by
 have h : ((allQ Q).filter fun p => p.2.2.2 != 0).map (fun p => p.2) = ((allQ Q).map fun p => p.2).filter fun e => e.2.2 != 0 := by
  rw [List.filter_map]; rfl
 rw [h, allQ_links]
 unfold occL virtL
 rw [List.filter_flatten, List.flatMap_def]
theorem allQ_real (Q : List Pt) : ((allQ Q).filter fun p => p.2.2.2 == 0).map (fun p => p.2) = relL (Q.map fun q => q.2) := by
 have h : ((allQ Q).filter fun p => p.2.2.2 == 0).map (fun p => p.2) = ((allQ Q).map fun p => p.2).filter fun e => e.2.2 == 0 := by
  rw [List.filter_map]; rfl
 rw [h, allQ_links]
 unfold relL realL
 rw [List.filter_flatten, List.flatMap_def]
def atV (v : Int) (l : List Oc) : List Oc := l.filter fun p => p.2.2.2 == v
theorem atV_append (v : Int) (a b : List Oc) : atV v (a ++ b) = atV v a ++ atV v b := by unfold atV; rw [List.filter_append]
theorem mem_atV {v : Int} {l : List Oc} {p : Oc} : p ∈ atV v l ↔ p ∈ l ∧ p.2.2.2 = v := by simp [atV]
theorem atV_one (v : Int) (p : Oc) : atV v [p] = if p.2.2.2 = v then [p] else [] := by unfold atV; by_cases h : p.2.2.2 = v <;> simp [h]
def pairB (Q : List Pt) : List Oc → Bool
 | [] => true
 | [_] => true
 | [a, b] => decide (a.2 = b.2) && (decide (a.1 ≠ b.1) && (decide (kdQ Q a.1 ≠ kdQ Q b.1) || decide (kdQ Q b.1 = 3)))
 | _ :: _ :: _ :: _ => false
theorem pairB_init {Q : List Pt} {l : List Oc} {p : Oc} (h : pairB Q (l ++ [p]) = true) : pairB Q l = true := by
 match l with
 | [] => rfl
 | [_] => rfl
 | a :: b :: c => simp [pairB] at h; cases c <;> simp [pairB] at h
theorem pairB_len {Q : List Pt} {l : List Oc} (h : pairB Q l = true) : l.length ≤ 2 := by
 match l with
 | [] => simp
 | [_] => simp
 | [_, _] => simp
 | _ :: _ :: _ :: _ => simp [pairB] at h
def realsO (l : List Oc) : List Lk := (l.filter fun p => p.2.2.2 == 0).map fun p => p.2
def fineP (Q : List Pt) (l : List Oc) : Prop := (realsO l).Nodup ∧ ∀ v, v ≠ 0 → pairB Q (atV v l) = true
theorem fineP_nil (Q : List Pt) : fineP Q [] := ⟨by simp [realsO], fun v _ => rfl⟩
theorem realsO_append (a b : List Oc) : realsO (a ++ b) = realsO a ++ realsO b := by unfold realsO; rw [List.filter_append, List.map_append]
theorem fineP_real {Q : List Pt} {l : List Oc} {p : Oc} (hp : p.2.2.2 = 0) : fineP Q (l ++ [p]) ↔ fineP Q l ∧ p.2 ∉ realsO l := by
 have h1 : realsO [p] = [p.2] := by simp [realsO, hp]
 unfold fineP
 rw [realsO_append, h1]
 have h2 : ∀ v, v ≠ 0 → atV v (l ++ [p]) = atV v l := fun v hv => by
  rw [atV_append, atV_one, if_neg (by omega), List.append_nil]
 constructor
 ·
  rintro ⟨a, b⟩
  rw [List.nodup_append] at a
  exact ⟨⟨a.1, fun v hv => by rw [← h2 v hv]; exact b v hv⟩, fun hm => a.2.2 _ hm _ (by simp) rfl⟩
 ·
  rintro ⟨⟨a, b⟩, c⟩
  refine ⟨List.nodup_append.2 ⟨a, by simp, fun x hx y hy e => ?_⟩, fun v hv => by rw [h2 v hv]; exact b v hv⟩
  simp at hy
  subst hy; subst e
  exact c hx
theorem fineP_virt {Q : List Pt} {l : List Oc} {p : Oc} (hp : p.2.2.2 ≠ 0) : fineP Q (l ++ [p]) ↔ fineP Q l ∧ pairB Q (atV p.2.2.2 l ++ [p]) = true := by
 have h1 : realsO [p] = [] := by simp [realsO, hp]
 have h2 : ∀ v, atV v (l ++ [p]) = atV v l ++ if p.2.2.2 = v then [p] else [] := fun v => by rw [atV_append, atV_one]
 unfold fineP
 rw [realsO_append, h1, List.append_nil]
 constructor
 ·
  rintro ⟨a, b⟩
  have b1 := b _ hp
  rw [h2, if_pos rfl] at b1
  refine ⟨⟨a, fun v hv => ?_⟩, b1⟩
  have b2 := b v hv
  rw [h2] at b2
  by_cases e : p.2.2.2 = v
  · rw [if_pos e] at b2; exact pairB_init b2
  · rw [if_neg e, List.append_nil] at b2; exact b2
 ·
  rintro ⟨⟨a, b⟩, c⟩
  refine ⟨a, fun v hv => ?_⟩
  rw [h2]
  by_cases e : p.2.2.2 = v
  · subst e; rw [if_pos rfl]; exact c
  · rw [if_neg e, List.append_nil]; exact b v hv
theorem fineP_init {Q : List Pt} {a b : List Oc} (h : fineP Q (a ++ b)) : fineP Q a := by
 induction b using snoc_ind generalizing a with
 | nil => simpa using h
 | snoc b p ih =>
  rw [← List.append_assoc] at h
  by_cases hp : p.2.2.2 = 0
  · exact ih ((fineP_real hp).1 h).1
  · exact ih ((fineP_virt hp).1 h).1
def numsO (l : List Oc) : List Int := l.foldl (fun o p => if p.2.2.2 = 0 ∨ p.2.2.2 ∈ o then o else o ++ [p.2.2.2]) []
theorem numsO_snoc (l : List Oc) (p : Oc) : numsO (l ++ [p]) = if p.2.2.2 = 0 ∨ p.2.2.2 ∈ numsO l then numsO l else numsO l ++ [p.2.2.2] := by unfold numsO; rw [List.foldl_append]; rfl
theorem mem_numsO {l : List Oc} {v : Int} : v ∈ numsO l ↔ v ≠ 0 ∧ ∃ p ∈ l, p.2.2.2 = v := by
 induction l using snoc_ind with
 | nil => simp [numsO]
 | snoc l p ih =>
  rw [numsO_snoc]
  have hx : (v ≠ 0 ∧ ∃ q ∈ l ++ [p], q.2.2.2 = v) ↔ v ∈ numsO l ∨ (v ≠ 0 ∧ p.2.2.2 = v) := by
   rw [ih]; constructor
   ·
    rintro ⟨h, q, hq, hv⟩; rcases List.mem_append.1 hq with hq | hq
    · exact .inl ⟨h, q, hq, hv⟩
    · simp at hq; subst hq; exact .inr ⟨h, hv⟩
   ·
    rintro (⟨h, q, hq, hv⟩ | ⟨h, hv⟩)
    · exact ⟨h, q, by simp [hq], hv⟩
    · exact ⟨h, p, by simp, hv⟩
  rw [hx]
  split
  ·
   rename_i hc; constructor
   · exact .inl
   ·
    rintro (h | ⟨h, hv⟩)
    · exact h
    · subst hv; exact hc.resolve_left h
  ·
   rename_i hc; rw [List.mem_append, List.mem_singleton]; constructor
   ·
    rintro (h | h)
    · exact .inl h
    · subst h; exact .inr ⟨fun h => hc (.inl h), rfl⟩
   ·
    rintro (h | ⟨_, h⟩)
    · exact .inl h
    · exact .inr h.symm
theorem numsO_nodup (l : List Oc) : (numsO l).Nodup := by
 induction l using snoc_ind with
 | nil => simp [numsO]
 | snoc l p ih =>
  rw [numsO_snoc]
  split
  · exact ih
  ·
   rename_i hc; rw [List.nodup_append]; refine ⟨ih, by simp, fun x hx y hy e => ?_⟩; simp at hy; subst hy; subst e; exact hc (.inr hx)
def bothP (l : List Oc) : Prop := ∀ v, v ≠ 0 → (atV v l).length = 0 ∨ (atV v l).length = 2
def besideP (Q : List Pt) : Prop := fineP Q (allQ Q) ∧ bothP (allQ Q) ∧ (numsO (allQ Q)).length + 1 = Q.length
theorem fine_two {Q : List Pt} {l : List Oc} (h : fineP Q l) {v : Int} (hv : v ≠ 0) (h2 : (atV v l).length = 2) : ∃ i j e, atV v l = [(i, e), (j, e)] ∧ e.2.2 = v ∧ i ≠ j ∧ (kdQ Q i ≠ kdQ Q j ∨ kdQ Q j = 3) := by
 have h1 := h.2 v hv
 match hl : atV v l, h2 with
 | [a, b], _ =>
  rw [hl] at h1
  simp only [pairB, Bool.and_eq_true, Bool.or_eq_true, decide_eq_true_eq] at h1
  have hb : b ∈ atV v l := by rw [hl]; simp
  refine ⟨a.1, b.1, b.2, ?_, (mem_atV.1 hb).2, h1.2.1, h1.2.2⟩
  obtain ⟨a1, a2⟩ := a
  obtain ⟨b1, b2⟩ := b
  simp only at h1 ⊢
  rw [h1.1]
def adjQ (Q : List Pt) (i j : Nat) : Bool := decide (i ≠ j) && (virtL (lnQ Q i)).any fun e => (lnQ Q j).any fun f => f.2.2 == e.2.2
theorem adjQ_iff {Q : List Pt} {i j : Nat} : adjQ Q i j = true ↔ i ≠ j ∧ ∃ e f, e ∈ lnQ Q i ∧ f ∈ lnQ Q j ∧ e.2.2 ≠ 0 ∧ f.2.2 = e.2.2 := by
 unfold adjQ
 simp only [Bool.and_eq_true, decide_eq_true_eq, List.any_eq_true, beq_iff_eq]
 refine and_congr_right fun _ => ?_
 constructor
 ·
  rintro ⟨e, he, f, hf, h⟩
  obtain ⟨h1, h2⟩ := mem_virtL.1 he
  exact ⟨e, f, h1, hf, h2, h⟩
 ·
  rintro ⟨e, f, h1, hf, h2, h⟩
  exact ⟨e, mem_virtL.2 ⟨h1, h2⟩, f, hf, h⟩
theorem adjQ_symm {Q : List Pt} {i j : Nat} (h : adjQ Q i j = true) : adjQ Q j i = true := by
 rw [adjQ_iff] at h ⊢
 obtain ⟨h1, e, f, he, hf, h2, h3⟩ := h
 exact ⟨fun h => h1 h.symm, f, e, hf, he, by rw [h3]; exact h2, h3.symm⟩
def nbQ (Q : List Pt) (i : Nat) : List Nat := (List.range Q.length).filter (adjQ Q i)
theorem mem_nbQ {Q : List Pt} {i j : Nat} : j ∈ nbQ Q i ↔ adjQ Q i j = true := by
 unfold nbQ
 rw [List.mem_filter, List.mem_range]
 refine ⟨fun h => h.2, fun h => ⟨?_, h⟩⟩
 obtain ⟨_, _, f, _, hf, _⟩ := adjQ_iff.1 h
 exact lnQ_mem hf
def conP (Q : List Pt) : Prop := ∀ j, j < Q.length → Con (nbQ Q) (· < Q.length) 0 j
def kindsP (Q : List Pt) : Prop := ∀ q ∈ Q, q.1 ≠ 0 ∧ q.1 = kindL q.2
def ordP (Q : List Pt) : Prop := ∀ i (h : i + 1 < Q.length), cmpLs (Q[i]'(by omega)).2 Q[i + 1].2 ≤ 0
structure RightQ (Q : List Pt) : Prop where
 ne : Q ≠ []
 kinds : kindsP Q
 ord : ordP Q
 bes : besideP Q
 con : conP Q
end Go.Proofs.YtagcbnpahgfgmaaGreat
namespace Go.Proofs.YtagcbnpahgfgmaaGreat
theorem kind_right {ls : List Lk} (h : kindL ls ≠ 0) : RightL ls ∧ 3 ≤ ls.length := by
 unfold kindL at h
 by_cases h3 : ls.length < 3
 · rw [decide_eq_true h3] at h; simp at h
 ·
  cases hj : joinedL ls with
  | false => rw [hj] at h; simp at h
  | true => exact ⟨joinedR hj, by omega⟩
theorem perm_cons_eraseIdx' {α : Type} {Q : List α} {j : Nat} (hj : j < Q.length) : Q.Perm (Q[j] :: Q.eraseIdx j) := by
 induction Q generalizing j with
 | nil => simp at hj
 | cons a Q ih =>
  match j, hj with
  | 0, _ => simp
  | j + 1, hj =>
   simp only [List.length_cons, Nat.add_lt_add_iff_right] at hj; simp only [List.getElem_cons_succ, List.eraseIdx_cons_succ]; exact ((ih hj).cons a).trans (.swap ..)
theorem perm_two {α : Type} {Q : List α} {i j : Nat} (hij : i < j) (hj : j < Q.length) : ∃ R, Q.Perm (Q[i]'(by omega) :: Q[j] :: R) := by
 induction Q generalizing i j with
 | nil => simp at hj
 | cons a Q ih =>
  match i, j, hij, hj with
  | 0, j + 1, _, hj =>
   simp only [List.length_cons, Nat.add_lt_add_iff_right] at hj; refine ⟨Q.eraseIdx j, ?_⟩; simp only [List.getElem_cons_zero, List.getElem_cons_succ]; exact (perm_cons_eraseIdx' hj).cons a
  | i + 1, j + 1, hij, hj =>
   simp only [List.length_cons, Nat.add_lt_add_iff_right] at hj; obtain ⟨R, hR⟩ := ih (i := i) (j := j) (by omega) hj; refine ⟨a :: R, ?_⟩; simp only [List.getElem_cons_succ]; refine (hR.cons a).trans ?_; refine (List.Perm.swap _ _ _).trans (List.Perm.cons _ ?_); exact .swap ..
theorem Con.to {bs : Nat → List Nat} {S : Nat → Prop} {x : Nat} (p : Nat → Prop) (h0 : p x) (h1 : ∀ y z, p y → z ∈ bs y → p z) {y : Nat} (h : Con bs S x y) : p y := by
 induction h with
 | refl _ => exact h0
 | step _ hz _ ih => exact h1 _ _ ih hz
def lnkV (l : List Oc) (v : Int) : Lk := ((atV v l).head?.map fun p => p.2).getD (0, 0, 0)
theorem count_map_filter {l : List Oc} {e : Lk} : (l.map fun p => p.2).count e = (l.filter fun p => p.2 == e).length := by
 rw [List.count_eq_countP, List.countP_map, List.countP_eq_length_filter]
 rfl
theorem occ_count {Q : List Pt} {e : Lk} (he : e.2.2 ≠ 0) : (occL (Q.map fun q => q.2)).count e = ((atV e.2.2 (allQ Q)).filter fun p => p.2 == e).length := by
 rw [← allQ_virt, count_map_filter, List.filter_filter]
 unfold atV
 rw [List.filter_filter]
 congr 1
 refine List.filter_congr fun p _ => ?_
 by_cases h : p.2 = e
 · subst h; simp [he]
 ·
  have : (p.2 == e) = false := by simpa using h
  simp [this]
namespace RightQ
variable {Q : List Pt}
theorem right (h : RightQ Q) {q : Pt} (hq : q ∈ Q) : RightL q.2 ∧ 3 ≤ q.2.length := by
 obtain ⟨h1, h2⟩ := h.kinds q hq
 exact kind_right (by rw [← h2]; exact h1)
theorem okAt (h : RightQ Q) {i : Nat} {e : Lk} (he : e ∈ lnQ Q i) : OkL e := by
 have hi := lnQ_mem he
 rw [lnQ_at hi] at he
 exact (h.right (List.getElem_mem hi)).1.2.1 e he
theorem same (h : RightQ Q) {i j : Nat} {e f : Lk} (he : e ∈ lnQ Q i) (hf : f ∈ lnQ Q j) (hv : e.2.2 ≠ 0) (hef : f.2.2 = e.2.2) : e = f := by
 have m1 : (i, e) ∈ atV e.2.2 (allQ Q) := mem_atV.2 ⟨mem_allQ.2 he, rfl⟩
 have m2 : (j, f) ∈ atV e.2.2 (allQ Q) := mem_atV.2 ⟨mem_allQ.2 hf, hef⟩
 rcases h.bes.2.1 _ hv with h0 | h2
 · rw [List.eq_nil_of_length_eq_zero h0] at m1; simp at m1
 ·
  obtain ⟨a, b, g, hg, _⟩ := fine_two h.bes.1 hv h2
  rw [hg] at m1 m2
  simp at m1 m2
  rcases m1 with ⟨_, rfl⟩ | ⟨_, rfl⟩ <;> rcases m2 with ⟨_, rfl⟩ | ⟨_, rfl⟩ <;> rfl
theorem lnk (h : RightQ Q) {v : Int} (hv : v ∈ numsO (allQ Q)) : (lnkV (allQ Q) v).2.2 = v ∧ ∃ i j, atV v (allQ Q) = [(i, lnkV (allQ Q) v), (j, lnkV (allQ Q) v)] ∧ i ≠ j := by
 obtain ⟨h0, p, hp, hpv⟩ := mem_numsO.1 hv
 have m1 : p ∈ atV v (allQ Q) := mem_atV.2 ⟨hp, hpv⟩
 rcases h.bes.2.1 _ h0 with h1 | h2
 · rw [List.eq_nil_of_length_eq_zero h1] at m1; simp at m1
 ·
  obtain ⟨a, b, g, hg, hgv, hab, _⟩ := fine_two h.bes.1 h0 h2
  have : lnkV (allQ Q) v = g := by unfold lnkV; rw [hg]; rfl
  rw [this]
  exact ⟨hgv, a, b, hg, hab⟩
theorem tree (h : RightQ Q) : ∃ D, TreeP (Q.map fun q => q.2) D ∧ (∀ d ∈ D, 1 ≤ d.2.2 ∧ d.2.2 ≤ 1048576) := by
 obtain ⟨D, hD⟩ : ∃ D, D = (numsO (allQ Q)).map (lnkV (allQ Q)) := ⟨_, rfl⟩
 have hV : D.map (fun k => k.2.2) = numsO (allQ Q) := by
  rw [hD, List.map_map]
  conv => rhs; rw [← List.map_id (numsO (allQ Q))]
  exact List.map_congr_left fun v hv => (h.lnk hv).1
 have hDn : D.Nodup := by
  have h1 : (D.map fun k => k.2.2).Nodup := by rw [hV]; exact numsO_nodup _
  have h2 : D.Pairwise (fun a b : Lk => a.2.2 ≠ b.2.2) := List.pairwise_map.1 h1
  exact h2.imp fun hab e => hab (by rw [e])
 have hmem : ∀ e, e ∈ D → e.2.2 ≠ 0 ∧ ∃ i j, atV e.2.2 (allQ Q) = [(i, e), (j, e)] ∧ i ≠ j := fun e he => by
  rw [hD] at he
  obtain ⟨v, hv, rfl⟩ := List.mem_map.1 he
  obtain ⟨h1, i, j, h2, h3⟩ := h.lnk hv
  rw [h1]
  exact ⟨(mem_numsO.1 hv).1, i, j, h2, h3⟩
 have hocc : (occL (Q.map fun q => q.2)).Perm (D ++ D) := by
  rw [List.perm_iff_count]
  intro e
  rw [List.count_append]
  by_cases he : e ∈ D
  ·
   obtain ⟨h0, i, j, h1, _⟩ := hmem e he; rw [count_one hDn he, occ_count h0, h1]; simp
  ·
   rw [List.count_eq_zero_of_not_mem he]; refine List.count_eq_zero_of_not_mem fun hm => he ?_; obtain ⟨x, hx, hex, hev⟩ := mem_occL.1 hm; obtain ⟨q, hq, rfl⟩ := List.mem_map.1 hx; obtain ⟨i, hi, rfl⟩ := List.getElem_of_mem hq; rw [← lnQ_at hi] at hex; have hnum : e.2.2 ∈ numsO (allQ Q) := mem_numsO.2 ⟨hev, (i, e), mem_allQ.2 hex, rfl⟩; rw [hD]; refine List.mem_map.2 ⟨e.2.2, hnum, ?_⟩; obtain ⟨h1, a, b, h2, _⟩ := h.lnk hnum; have ha : (a, lnkV (allQ Q) e.2.2) ∈ atV e.2.2 (allQ Q) := by rw [h2]; simp
   have ha2 := mem_allQ.1 (mem_atV.1 ha).1; exact (h.same hex ha2 hev h1).symm
 have hocm : ∀ (S : List (List Lk)) (i : Nat) (e : Lk), lnQ Q i ∈ S → e ∈ lnQ Q i → e.2.2 ≠ 0 → e ∈ occL S := fun S i e hS he hv => mem_occL.2 ⟨_, hS, he, hv⟩
 refine ⟨D, ⟨hocc, by rw [hV]; exact numsO_nodup _, fun x hx => ?_, ?_, ?_, ?_⟩, fun d hd => ?_⟩
 ·
  obtain ⟨q, hq, rfl⟩ := List.mem_map.1 hx
  exact right_nodup (h.right hq).1
 ·
  rw [List.length_map, hD, List.length_map]
  exact h.bes.2.2.symm
 ·
  intro S T hp hS hT
  refine Classical.byContradiction fun hno => ?_
  have hno' : ∀ e, e ∈ occL S → e ∈ occL T → False := fun e a b => hno ⟨e, a, b⟩
  have hin : ∀ x ∈ S ++ T, ∃ i, i < Q.length ∧ lnQ Q i = x := fun x hx => by
   obtain ⟨q, hq, rfl⟩ := List.mem_map.1 (hp.mem_iff.2 hx); obtain ⟨i, hi, rfl⟩ := List.getElem_of_mem hq; exact ⟨i, hi, lnQ_at hi⟩
  have hst : ∀ i, i < Q.length → lnQ Q i ∈ S ∨ lnQ Q i ∈ T := fun i hi => by
   have : lnQ Q i ∈ S ++ T := hp.mem_iff.1 (by rw [lnQ_at hi]; exact List.mem_map_of_mem (List.getElem_mem hi)); exact List.mem_append.1 this
  obtain ⟨s, hs⟩ := List.exists_mem_of_ne_nil _ hS
  obtain ⟨t, ht⟩ := List.exists_mem_of_ne_nil _ hT
  obtain ⟨i, hi, rfl⟩ := hin s (by simp [hs])
  obtain ⟨j, hj, rfl⟩ := hin t (by simp [ht])
  have hsym : ∀ a b, b ∈ nbQ Q a → a ∈ nbQ Q b := fun a b hb => mem_nbQ.2 (adjQ_symm (mem_nbQ.1 hb))
  have hij := (Con.symm hsym (h.con i hi)).trans (h.con j hj)
  have hall : lnQ Q j ∈ S := Con.to (fun k => lnQ Q k ∈ S) hs (fun y z hy hz => by
   obtain ⟨_, e, f, he, hf, hv, hfe⟩ := adjQ_iff.1 (mem_nbQ.1 hz); have := h.same he hf hv hfe; subst this; rcases hst z (lnQ_mem hf) with h1 | h1
   · exact h1
   · exact (hno' e (hocm S y e hy he hv) (hocm T z e h1 hf hv)).elim) hij
  have hlen : 2 ≤ Q.length := by
   have := hp.length_eq; have a1 := List.length_pos_iff.2 hS; have a2 := List.length_pos_iff.2 hT; rw [List.length_map, List.length_append] at this; omega
  obtain ⟨m, hm, hmj⟩ : ∃ m, m < Q.length ∧ m ≠ j := by
   by_cases h0 : j = 0
   · exact ⟨1, by omega, by omega⟩
   · exact ⟨0, by omega, by omega⟩
  have hjm := (Con.symm hsym (h.con m hm)).trans (h.con j hj)
  cases hjm with
  | refl _ => exact hmj rfl
  | step _ hz _ =>
   obtain ⟨_, e, f, he, hf, hv, hfe⟩ := adjQ_iff.1 (adjQ_symm (mem_nbQ.1 hz)); exact hno' e (hocm S j e hall he hv) (hocm T j e ht he hv)
 · rw [← allQ_real]; exact h.bes.1.1
 ·
  obtain ⟨h0, i, j, h1, _⟩ := hmem d hd
  have hm : (i, d) ∈ atV d.2.2 (allQ Q) := by rw [h1]; simp
  have := h.okAt (i := i) (e := d) (mem_allQ.1 (mem_atV.1 hm).1)
  unfold OkL at this
  omega
theorem qi (h : RightQ Q) : QI (relL (Q.map fun q => q.2)) Q := ⟨h.tree, fun q hq => (h.right hq).1, fun q hq => (h.right hq).2, .refl _⟩
theorem strict (h : RightQ Q) {i j : Nat} (hij : i < j) (hj : j < Q.length) : (Q[i]'(by omega)).2 ≠ Q[j].2 := by
 obtain ⟨R, hR⟩ := perm_two hij hj
 exact h.qi.distinct hR
end RightQ
end Go.Proofs.YtagcbnpahgfgmaaGreat
