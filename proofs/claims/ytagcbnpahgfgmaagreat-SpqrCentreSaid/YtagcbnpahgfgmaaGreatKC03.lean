/- Facts that the claim rests on, part 4. -/
import Derived.Test.YtagcbnpahgfgmaaGreatKC02
namespace Go.Proofs.YtagcbnpahgfgmaaGreat
def newP (l : List Oc) (p : Oc) : List (Nat × Nat) := if p.2.2.2 = 0 then [] else match atV p.2.2.2 l with
 | [a] => [(a.1, p.1)]
 | _ => []
def pairsO (l : List Oc) : List (Nat × Nat) := (List.range l.length).flatMap fun m => match l[m]? with
 | some p => newP (l.take m) p
 | none => []
theorem pairsO_snoc (l : List Oc) (p : Oc) : pairsO (l ++ [p]) = pairsO l ++ newP l p := by
 unfold pairsO
 rw [List.length_append, List.length_singleton, List.range_succ, List.flatMap_append]
 congr 1
 ·
  simp only [List.flatMap_def]
  congr 1
  refine List.map_congr_left fun m hm => ?_
  have hm' := List.mem_range.1 hm
  rw [List.getElem?_append_left hm', List.take_append_of_le_length (by omega)]
 · simp
theorem pairsO_nil : pairsO [] = [] := by simp [pairsO]
def outO (E : List (Nat × Nat)) (k : Nat) : List Nat := E.flatMap fun ab => (if ab.2 = k then [ab.1] else []) ++ (if ab.1 = k then [ab.2] else [])
theorem outO_append (E G : List (Nat × Nat)) (k : Nat) : outO (E ++ G) k = outO E k ++ outO G k := by unfold outO; rw [List.flatMap_append]
theorem outO_one (a b k : Nat) : outO [(a, b)] k = (if b = k then [a] else []) ++ (if a = k then [b] else []) := by simp [outO]
theorem outO_nil (k : Nat) : outO [] k = [] := by simp [outO]
theorem newP_len (l : List Oc) (p : Oc) : (newP l p).length ≤ 1 := by
 unfold newP
 split
 · simp
 · split <;> simp
theorem pairsO_len (l : List Oc) : (pairsO l).length ≤ l.length := by
 induction l using snoc_ind with
 | nil => simp [pairsO_nil]
 | snoc l p ih =>
  rw [pairsO_snoc, List.length_append, List.length_append, List.length_singleton]
  have := newP_len l p
  omega
theorem outO_len (E : List (Nat × Nat)) (k : Nat) : (outO E k).length ≤ 2 * E.length := by
 induction E with
 | nil => simp [outO]
 | cons a E ih =>
  unfold outO at ih ⊢
  rw [List.flatMap_cons, List.length_append, List.length_append, List.length_cons]
  have h1 : (if a.2 = k then [a.1] else []).length ≤ 1 := by split <;> simp
  have h2 : (if a.1 = k then [a.2] else []).length ≤ 1 := by split <;> simp
  omega
theorem newP_zero {l : List Oc} {p : Oc} (h : p.2.2.2 = 0) : newP l p = [] := by unfold newP; rw [if_pos h]
theorem newP_first {l : List Oc} {p : Oc} (h : atV p.2.2.2 l = []) : newP l p = [] := by unfold newP; rw [h]; split <;> rfl
theorem newP_second {l : List Oc} {p a : Oc} (h0 : p.2.2.2 ≠ 0) (h : atV p.2.2.2 l = [a]) : newP l p = [(a.1, p.1)] := by unfold newP; rw [if_neg h0, h]
def heldF (l : List Oc) (v : Int) : Option (Nat × Nat × Lk) := (atV v l).getLast?.map fun p => (p.1, (atV v l).length, p.2)
theorem heldF_snoc (l : List Oc) (p : Oc) (v : Int) : heldF (l ++ [p]) v = if p.2.2.2 = v then some (p.1, (atV v l).length + 1, p.2) else heldF l v := by
 unfold heldF
 rw [atV_append, atV_one]
 by_cases h : p.2.2.2 = v
 · rw [if_pos h, if_pos h]; simp
 · rw [if_neg h, if_neg h, List.append_nil]
theorem heldF_none {l : List Oc} {v : Int} (h : atV v l = []) : heldF l v = none := by unfold heldF; rw [h]; rfl
theorem heldF_one {l : List Oc} {v : Int} {a : Oc} (h : atV v l = [a]) : heldF l v = some (a.1, 1, a.2) := by unfold heldF; rw [h]; rfl
theorem heldF_two {l : List Oc} {v : Int} {a b : Oc} (h : atV v l = [a, b]) : heldF l v = some (b.1, 2, b.2) := by unfold heldF; rw [h]; rfl
theorem heldF_some {l : List Oc} {v : Int} (hv : v ≠ 0) : (heldF l v).isSome = true ↔ v ∈ numsO l := by
 rw [mem_numsO]
 unfold heldF
 rw [Option.isSome_map]
 cases h : (atV v l).getLast? with
 | none =>
  have h1 := List.getLast?_eq_none_iff.1 h
  simp only [Option.isSome_none, Bool.false_eq_true, false_iff]
  rintro ⟨_, p, hp, hpv⟩
  have : p ∈ atV v l := mem_atV.2 ⟨hp, hpv⟩
  rw [h1] at this; simp at this
 | some p =>
  have h1 := List.mem_of_getLast? h
  simp only [Option.isSome_some, true_iff]
  exact ⟨hv, p, (mem_atV.1 h1).1, (mem_atV.1 h1).2⟩
def badB (Q : List Pt) (a p : Oc) : Bool := decide (a.1 = p.1) || (decide (a.2 ≠ p.2) || (decide (kdQ Q a.1 = kdQ Q p.1) && decide (kdQ Q p.1 ≠ 3)))
theorem pair_bad (Q : List Pt) (a p : Oc) : pairB Q [a, p] = !badB Q a p := by
 unfold pairB badB
 by_cases h1 : a.2 = p.2 <;> by_cases h2 : a.1 = p.1 <;> by_cases h3 : kdQ Q a.1 = kdQ Q p.1 <;> by_cases h4 : kdQ Q p.1 = 3 <;> simp [h1, h2, h3, h4]
theorem preO_take (Q : List Pt) (i k : Nat) (hi : i < Q.length) : ∃ b, allQ Q = preQ Q i k ++ b := by
 have h : ∀ n, i + 1 + n ≤ Q.length → ∃ b, preO Q (i + 1 + n) = preO Q (i + 1) ++ b := by
  intro n
  induction n with
  | zero => intro _; exact ⟨[], by simp⟩
  | succ n ih =>
   intro h; obtain ⟨b, hb⟩ := ih (by omega); exact ⟨b ++ rowO Q (i + 1 + n), by rw [← Nat.add_assoc, preO_succ, hb, List.append_assoc]⟩
 obtain ⟨b, hb⟩ := h (Q.length - (i + 1)) (by omega)
 refine ⟨(rowO Q i).drop k ++ b, ?_⟩
 unfold allQ preQ
 rw [show Q.length = i + 1 + (Q.length - (i + 1)) by omega, hb, preO_succ]
 have e : rowO Q i = (rowO Q i).take k ++ (rowO Q i).drop k := (List.take_append_drop ..).symm
 conv => lhs; rw [e]
 simp only [List.append_assoc]
theorem bes_no {Q : List Pt} {i k : Nat} (hi : i < Q.length) (h : ¬ fineP Q (preQ Q i k)) : ¬ besideP Q := fun hb => by
 obtain ⟨b, hb2⟩ := preO_take Q i k hi
 have := hb.1
 rw [hb2] at this
 exact h (fineP_init this)
def srtN (l : List Nat) : List Nat := l.mergeSort fun x y => decide (x ≤ y)
theorem srtN_perm (l : List Nat) : (srtN l).Perm l := List.mergeSort_perm _ _
theorem srtN_sorted (l : List Nat) : (srtN l).Pairwise (· ≤ ·) := by
 have := List.pairwise_mergeSort (le := fun x y : Nat => decide (x ≤ y)) (fun a b c h1 h2 => by simp at h1 h2 ⊢; omega) (fun a b => by simp; omega) l
 exact this.imp fun h => by simpa using h
theorem srtN_map (l : List Nat) : (srtN l).map (fun x : Nat => (x : Int)) = (l.map fun x : Nat => (x : Int)).mergeSort fun x y => decide (x ≤ y) := by
 unfold srtN
 exact List.map_mergeSort fun a _ b _ => by simp
def besQ (Q : List Pt) (i : Nat) : List Nat := srtN (outO (pairsO (allQ Q)) i)
theorem mem_pairsO {l : List Oc} {a b : Nat} : (a, b) ∈ pairsO l ↔ ∃ l1 l2 p q, l = l1 ++ p :: l2 ∧ p.2.2.2 ≠ 0 ∧ atV p.2.2.2 l1 = [q] ∧ a = q.1 ∧ b = p.1 := by
 induction l using snoc_ind with
 | nil => simp [pairsO_nil]
 | snoc l p ih =>
  rw [pairsO_snoc, List.mem_append, ih]
  constructor
  ·
   rintro (⟨l1, l2, r, q, h1, h2, h3, h4, h5⟩ | h)
   · exact ⟨l1, l2 ++ [p], r, q, by rw [h1]; simp, h2, h3, h4, h5⟩
   ·
    unfold newP at h; split at h
    · simp at h
    ·
     rename_i h0; split at h
     ·
      rename_i q hq; simp at h; exact ⟨l, [], p, q, by simp, h0, hq, h.1, h.2⟩
     · simp at h
  ·
   rintro ⟨l1, l2, r, q, h1, h2, h3, h4, h5⟩; rcases List.eq_nil_or_concat l2 with rfl | ⟨m, s, rfl⟩
   ·
    right; have := List.append_inj' h1 rfl; obtain ⟨rfl, h6⟩ := this; cases h6; rw [newP_second h2 h3]; simp [h4, h5]
   ·
    left; rw [List.concat_eq_append] at h1; have h6 : l ++ [p] = (l1 ++ r :: m) ++ [s] := by rw [h1]; simp
    have := List.append_inj' h6 rfl; exact ⟨l1, m, r, q, this.1, h2, h3, h4, h5⟩
theorem mem_outO {E : List (Nat × Nat)} {k j : Nat} : j ∈ outO E k ↔ (j, k) ∈ E ∨ (k, j) ∈ E := by
 unfold outO
 rw [List.mem_flatMap]
 constructor
 ·
  rintro ⟨⟨a, b⟩, hab, h⟩
  rw [List.mem_append] at h
  rcases h with h | h
  ·
   split at h
   · rename_i e; simp at e h; subst e; subst h; exact .inl hab
   · simp at h
  ·
   split at h
   · rename_i e; simp at e h; subst e; subst h; exact .inr hab
   · simp at h
 ·
  rintro (h | h)
  · exact ⟨_, h, by simp⟩
  · exact ⟨_, h, by simp⟩
theorem split_two {l : List Oc} {v : Int} {x y : Oc} (h : atV v l = [x, y]) : ∃ l1 l2, l = l1 ++ y :: l2 ∧ atV v l1 = [x] := by
 induction l using snoc_ind with
 | nil => simp [atV] at h
 | snoc l p ih =>
  rw [atV_append, atV_one] at h
  by_cases hp : p.2.2.2 = v
  ·
   rw [if_pos hp] at h; have h1 : atV v l ++ [p] = [x] ++ [y] := h; have := List.append_inj' h1 rfl; simp at this; obtain ⟨h2, rfl⟩ := this; exact ⟨l, [], by simp, h2⟩
  ·
   rw [if_neg hp, List.append_nil] at h; obtain ⟨l1, l2, e1, e2⟩ := ih h; exact ⟨l1, l2 ++ [p], by rw [e1]; simp, e2⟩
theorem mem_besQ {Q : List Pt} (h : besideP Q) {i j : Nat} : j ∈ besQ Q i ↔ adjQ Q i j = true := by
 unfold besQ
 rw [(srtN_perm _).mem_iff, mem_outO]
 have key : ∀ a b, (a, b) ∈ pairsO (allQ Q) → adjQ Q a b = true := fun a b hab => by
  obtain ⟨l1, l2, p, q, h1, h2, h3, rfl, rfl⟩ := mem_pairsO.1 hab
  have hq : q ∈ atV p.2.2.2 l1 := by rw [h3]; simp
  obtain ⟨hq1, hq2⟩ := mem_atV.1 hq
  have hf := h.1
  rw [h1, show l1 ++ p :: l2 = (l1 ++ [p]) ++ l2 by simp] at hf
  have hf2 := ((fineP_virt h2).1 (fineP_init hf)).2
  rw [h3] at hf2
  have hf3 : pairB Q [q, p] = true := hf2
  simp only [pairB, Bool.and_eq_true, decide_eq_true_eq] at hf3
  rw [adjQ_iff]
  exact ⟨hf3.2.1, q.2, p.2, mem_allQ.1 (by rw [h1]; simp [hq1]), mem_allQ.1 (by rw [h1]; simp), by rw [hf3.1]; exact h2, by rw [hf3.1]⟩
 constructor
 ·
  rintro (hab | hab)
  · exact adjQ_symm (key _ _ hab)
  · exact key _ _ hab
 ·
  intro hadj
  obtain ⟨hne, e, f, he, hf, hv, hfe⟩ := adjQ_iff.1 hadj
  have m1 : (i, e) ∈ atV e.2.2 (allQ Q) := mem_atV.2 ⟨mem_allQ.2 he, rfl⟩
  have m2 : (j, f) ∈ atV e.2.2 (allQ Q) := mem_atV.2 ⟨mem_allQ.2 hf, hfe⟩
  rcases h.2.1 _ hv with h0 | h2
  · rw [List.eq_nil_of_length_eq_zero h0] at m1; simp at m1
  ·
   obtain ⟨a, b, g, hg, hgv, hab, _⟩ := fine_two h.1 hv h2; obtain ⟨l1, l2, e1, e2⟩ := split_two hg; have hp : (a, b) ∈ pairsO (allQ Q) := mem_pairsO.2 ⟨l1, l2, (b, g), (a, g), e1, by simp only; rw [hgv]; exact hv, by simp only; rw [hgv]; exact e2, rfl, rfl⟩; rw [hg] at m1 m2; simp at m1 m2; rcases m1 with ⟨rfl, _⟩ | ⟨rfl, _⟩
   ·
    rcases m2 with ⟨rfl, _⟩ | ⟨rfl, _⟩
    · exact absurd rfl hne
    · exact .inr hp
   ·
    rcases m2 with ⟨rfl, _⟩ | ⟨rfl, _⟩
    · exact .inl hp
    · exact absurd rfl hne
end Go.Proofs.YtagcbnpahgfgmaaGreat
namespace Go.Proofs.YtagcbnpahgfgmaaGreat
def leftN (n : Nat) (G : Nat → Bool) : Nat := ((List.range n).filter fun j => !G j).length
def degG (bs : Nat → List Nat) (G : Nat → Bool) (j : Nat) : Nat := ((bs j).filter fun k => !G k).length
def endB (bs : Nat → List Nat) (G : Nat → Bool) (j : Nat) : Bool := !G j && decide (degG bs G j ≤ 1)
def peel (bs : Nat → List Nat) (n : Nat) (G : Nat → Bool) : Nat → Bool := fun j => G j || (decide (2 < leftN n G) && endB bs G j)
def peels (bs : Nat → List Nat) (n : Nat) : Nat → Nat → Bool
 | 0 => fun _ => false
 | k + 1 => peel bs n (peels bs n k)
def centreQ (Q : List Pt) : List Nat := (List.range Q.length).filter fun j => !peels (besQ Q) Q.length Q.length j
theorem leftN_le (n : Nat) (G : Nat → Bool) : leftN n G ≤ n := by
 unfold leftN
 have := List.length_filter_le (fun j => !G j) (List.range n)
 simpa using this
theorem leftN_none (n : Nat) : leftN n (fun _ => false) = n := by
 unfold leftN
 have : (List.range n).filter (fun j => !(fun _ : Nat => false) j) = List.range n := List.filter_eq_self.2 (fun _ _ => rfl)
 rw [this, List.length_range]
theorem filter_split {α : Type} (l : List α) (p q : α → Bool) (hq : ∀ x ∈ l, q x = true → p x = true) : (l.filter fun x => p x && !q x).length + (l.filter q).length = (l.filter p).length := by
 induction l with
 | nil => rfl
 | cons a l ih =>
  have i1 := ih fun x hx => hq x (List.mem_cons_of_mem _ hx)
  have ha := hq a (List.mem_cons_self ..)
  simp only [List.filter_cons]
  cases hp : p a <;> cases hqq : q a
  · simpa using i1
  · rw [ha hqq] at hp; cases hp
  · simp; omega
  · simp; omega
theorem leftN_peel (bs : Nat → List Nat) (n : Nat) (G : Nat → Bool) (h : 2 < leftN n G) : leftN n (peel bs n G) + ((List.range n).filter (endB bs G)).length = leftN n G := by
 unfold leftN
 have e : (fun j => !peel bs n G j) = fun j => (!G j) && !endB bs G j := by
  funext j
  unfold peel
  rw [decide_eq_true h]
  cases G j <;> simp
 rw [e]
 exact filter_split (List.range n) (fun j => !G j) (endB bs G) fun x _ hx => by
  unfold endB at hx
  simp only [Bool.and_eq_true] at hx
  exact hx.1
theorem peel_end {bs : Nat → List Nat} {n : Nat} {G : Nat → Bool} (h : ¬ 2 < leftN n G) : peel bs n G = G := by
 funext j
 unfold peel
 rw [decide_eq_false h]; simp
theorem peels_end {bs : Nat → List Nat} {n k : Nat} (h : ¬ 2 < leftN n (peels bs n k)) (m : Nat) : peels bs n (k + m) = peels bs n k := by
 induction m with
 | zero => rfl
 | succ m ih =>
  show peel bs n (peels bs n (k + m)) = _
  rw [ih, peel_end h]
namespace RightQ
variable {Q : List Pt}
theorem bes_nodup (h : RightQ Q) (i : Nat) : (besQ Q i).Nodup := by
 unfold besQ
 rw [(srtN_perm _).nodup_iff]
 obtain ⟨D, hT, _⟩ := h.tree
 have key : ∀ (l : List Oc), (∃ b, allQ Q = l ++ b) → ∀ k, (outO (pairsO l) k).Nodup := by
  intro l
  induction l using snoc_ind with
  | nil => intro _ k; simp [pairsO_nil, outO_nil]
  | snoc l p ih =>
   rintro ⟨b, hb⟩ k; have i1 := ih ⟨p :: b, by rw [hb]; simp⟩ k; rw [pairsO_snoc, outO_append, List.nodup_append]; have hnew : ∀ x, x ∈ outO (newP l p) k → (p.2.2.2 ≠ 0 ∧ ∃ a, atV p.2.2.2 l = [a] ∧ ((x = a.1 ∧ k = p.1) ∨ (x = p.1 ∧ k = a.1))) := by
    intro x hx; unfold newP at hx; split at hx
    · simp [outO] at hx
    ·
     rename_i h0; split at hx
     ·
      rename_i a ha; rw [mem_outO] at hx; simp at hx; exact ⟨h0, a, ha, by rcases hx with ⟨rfl, rfl⟩ | ⟨rfl, rfl⟩ <;> simp⟩
     · simp [outO] at hx
   have hfine : fineP Q (l ++ [p]) := by
    have := h.bes.1; rw [hb] at this; exact fineP_init this
   refine ⟨i1, ?_, fun x hx y hy e => ?_⟩
   ·
    unfold newP; split
    · simp [outO]
    ·
     rename_i h0; split
     ·
      rename_i a ha; have h2 := ((fineP_virt h0).1 hfine).2; rw [ha] at h2; have h3 : pairB Q [a, p] = true := h2; simp only [pairB, Bool.and_eq_true, decide_eq_true_eq] at h3; rw [outO_one]; by_cases e1 : p.1 = k <;> by_cases e2 : a.1 = k
      · exact absurd (e2.trans e1.symm) h3.2.1
      · simp [e1, e2]
      · simp [e1, e2]
      · simp [e1, e2]
     · simp [outO]
   ·
    subst e; obtain ⟨h0, a, ha, hxa⟩ := hnew x hy; have h2 := ((fineP_virt h0).1 hfine).2; rw [ha] at h2; have h3 : pairB Q [a, p] = true := h2; simp only [pairB, Bool.and_eq_true, decide_eq_true_eq] at h3; have hal : a ∈ l := (mem_atV.1 (by rw [ha]; simp : a ∈ atV p.2.2.2 l)).1; have hold : ∃ l1 l2 q r, l = l1 ++ q :: l2 ∧ q.2.2.2 ≠ 0 ∧ atV q.2.2.2 l1 = [r] ∧ ((x = r.1 ∧ k = q.1) ∨ (x = q.1 ∧ k = r.1)) := by
     rw [mem_outO] at hx; rcases hx with hx | hx
     ·
      obtain ⟨l1, l2, q, r, a1, a2, a3, a4, a5⟩ := mem_pairsO.1 hx; exact ⟨l1, l2, q, r, a1, a2, a3, .inl ⟨a4, a5⟩⟩
     ·
      obtain ⟨l1, l2, q, r, a1, a2, a3, a4, a5⟩ := mem_pairsO.1 hx; exact ⟨l1, l2, q, r, a1, a2, a3, .inr ⟨a5, a4⟩⟩
    obtain ⟨l1, l2, q, r, g1, g2, g3, g4⟩ := hold; have hr := mem_atV.1 (by rw [g3]; simp : r ∈ atV q.2.2.2 l1); have hql : q ∈ l := by rw [g1]; simp
    have hrl : r ∈ l := by rw [g1]; simp [hr.1]
    have mal : ∀ z ∈ l ++ [p], z.2 ∈ lnQ Q z.1 := fun z hz => mem_allQ.1 (by rw [hb]; exact List.mem_append_left _ hz); have hxn : x ≠ k := by
     rcases hxa with ⟨rfl, rfl⟩ | ⟨rfl, rfl⟩
     · exact h3.2.1
     · exact fun e => h3.2.1 e.symm
    have hq2 : q.2 = r.2 := h.same (mal q (by simp [hql])) (mal r (by simp [hrl])) g2 (by rw [hr.2]); have sx : q.2 ∈ lnQ Q x ∧ q.2 ∈ lnQ Q k := by
     rcases g4 with ⟨rfl, rfl⟩ | ⟨rfl, rfl⟩
     · exact ⟨by rw [hq2]; exact mal r (by simp [hrl]), mal q (by simp [hql])⟩
     · exact ⟨mal q (by simp [hql]), by rw [hq2]; exact mal r (by simp [hrl])⟩
    have sp : p.2 ∈ lnQ Q x ∧ p.2 ∈ lnQ Q k := by
     rcases hxa with ⟨rfl, rfl⟩ | ⟨rfl, rfl⟩
     · exact ⟨by rw [← h3.1]; exact mal a (by simp [hal]), mal p (by simp)⟩
     · exact ⟨mal p (by simp), by rw [← h3.1]; exact mal a (by simp [hal])⟩
    have hxl := lnQ_mem sx.1; have hkl := lnQ_mem sx.2; obtain ⟨R, hR⟩ : ∃ R, Q.Perm (Q[x] :: Q[k] :: R) := by
     rcases Nat.lt_or_gt_of_ne hxn with hlt | hlt
     · exact perm_two hlt hkl
     ·
      obtain ⟨R, hR⟩ := perm_two hlt hxl; exact ⟨R, hR.trans (.swap ..)⟩
    rw [lnQ_at hxl, lnQ_at hkl] at sx sp; have hqp := h.qi.share hR (mem_virtL.2 ⟨sx.1, g2⟩) (mem_virtL.2 ⟨sx.2, g2⟩) (mem_virtL.2 ⟨sp.1, h0⟩) (mem_virtL.2 ⟨sp.2, h0⟩); have hin : q ∈ atV p.2.2.2 l := mem_atV.2 ⟨hql, by rw [hqp]⟩; have hin2 : r ∈ atV p.2.2.2 l := mem_atV.2 ⟨hrl, by rw [hr.2, hqp]⟩; rw [ha] at hin hin2; simp at hin hin2; rw [← hin2] at hin; rw [hin] at g4; rcases g4 with ⟨e1, e2⟩ | ⟨e1, e2⟩ <;> exact hxn (e1.trans e2.symm)
 exact key (allQ Q) ⟨[], by simp⟩ i
theorem links_range (Q : List Pt) : Q.map (fun q => q.2) = (List.range Q.length).map (lnQ Q) := by
 apply List.ext_getElem (by simp)
 intro i h1 h2
 have hi : i < Q.length := by simpa using h1
 simp [lnQ_at hi]
theorem dup_filter {P : List (List Lk)} {D : List Lk} (h : TreeP P D) {S T : List (List Lk)} (hp : P.Perm (S ++ T)) :
  ((occL S).filter fun e => decide (2 ≤ (occL S).count e)).length = 2 * (TreeP.dupL D S).length := by
 have hle : ∀ e, (occL S).count e ≤ (occL P).count e := fun e => by
  rw [(occL_perm hp).count_eq, occL_append, List.count_append]; omega
 have hperm : ((occL S).filter fun e => decide (2 ≤ (occL S).count e)).Perm (TreeP.dupL D S ++ TreeP.dupL D S) := by
  rw [List.perm_iff_count]
  intro e
  rw [List.count_append]
  by_cases h2 : 2 ≤ (occL S).count e
  ·
   have heP : e ∈ occL P := List.count_pos_iff.1 (by have := hle e; omega); have heD := h.memD.2 heP; have hc := h.count2 heD; have hce : (occL S).count e = 2 := by have := hle e; omega
   rw [List.count_filter (by simpa using h2), hce]; have hn : (TreeP.dupL D S).Nodup := List.Nodup.sublist List.filter_sublist h.dnd; rw [count_one hn (by unfold TreeP.dupL; rw [List.mem_filter]; exact ⟨heD, by simpa using h2⟩)]
  · rw [List.count_eq_zero_of_not_mem (fun hm => h2 (by simpa using (List.mem_filter.1 hm).2)), List.count_eq_zero_of_not_mem (fun hm => h2 (by simpa [TreeP.dupL] using (List.mem_filter.1 hm).2))]
 rw [hperm.length_eq, List.length_append]
 omega
theorem sub_len {β : Type} : ∀ {l m : List β}, l.Nodup → (∀ x ∈ l, x ∈ m) → l.length ≤ m.length
 | [], _, _, _ => by simp
 | a :: l, m, hn, h => by
  obtain ⟨s, t, rfl⟩ := List.append_of_mem (h a (by simp))
  have hn' := List.nodup_cons.1 hn
  have := sub_len (l := l) (m := s ++ t) hn'.2 fun x hx => by
   have h1 := h x (by simp [hx])
   have hne : x ≠ a := fun e => hn'.1 (by rw [← e]; exact hx)
   simp only [List.mem_append, List.mem_cons] at h1 ⊢
   rcases h1 with h1 | h1 | h1
   · exact .inl h1
   · exact absurd h1 hne
   · exact .inr h1
  simp only [List.length_append, List.length_cons] at this ⊢
  omega
theorem sum_twice {l : List Nat} {f : Nat → Nat} (h : ∀ x ∈ l, 2 ≤ f x) : 2 * l.length ≤ (l.map f).sum := by
 induction l with
 | nil => simp
 | cons a l ih =>
  have i1 := ih fun x hx => h x (by simp [hx])
  have := h a (by simp)
  rw [List.length_cons, List.map_cons, List.sum_cons]
  omega
theorem inj_len {α β : Type} {l : List α} {m : List β} (f : α → β) (hn : l.Nodup) (hi : ∀ x ∈ l, ∀ y ∈ l, f x = f y → x = y) (hm : ∀ x ∈ l, f x ∈ m) : l.length ≤ m.length := by
 have h1 : (l.map f).Nodup := by
  rw [List.Nodup, List.pairwise_map]
  exact hn.imp_of_mem fun {a b} ha hb hab e => hab (hi a ha b hb e)
 have := sub_len h1 (m := m) fun y hy => by
  obtain ⟨x, hx, rfl⟩ := List.mem_map.1 hy
  exact hm x hx
 simpa using this
theorem leaf (h : RightQ Q) (G : Nat → Bool) (hG : 0 < leftN Q.length G) : ∃ j, j < Q.length ∧ endB (besQ Q) G j = true := by
 refine Classical.byContradiction fun hno => ?_
 have hdeg : ∀ j, j < Q.length → G j = false → 2 ≤ degG (besQ Q) G j := fun j hj hGj => by
  refine Classical.byContradiction fun hd => hno ⟨j, hj, ?_⟩
  unfold endB
  rw [hGj]
  simp; omega
 obtain ⟨D, hT, _⟩ := h.tree
 obtain ⟨S, hS⟩ : ∃ S, S = (List.range Q.length).filter fun j => !G j := ⟨_, rfl⟩
 obtain ⟨T, hTT⟩ : ∃ T, T = (List.range Q.length).filter fun j => !!G j := ⟨_, rfl⟩
 have hperm : (Q.map fun q => q.2).Perm (S.map (lnQ Q) ++ T.map (lnQ Q)) := by
  rw [links_range, ← List.map_append, hS, hTT]
  exact (List.filter_append_perm _ _).symm.map _
 have hSl : S.length = leftN Q.length G := by rw [hS]; rfl
 have hSn : S ≠ [] := fun e => by rw [e] at hSl; simp at hSl; omega
 have memS : ∀ j, j ∈ S → j < Q.length ∧ G j = false := fun j hj => by
  rw [hS, List.mem_filter, List.mem_range] at hj
  exact ⟨hj.1, by simpa using hj.2⟩
 have hd := hT.dup_le hperm (by simpa using hSn)
 have hf := dup_filter hT hperm
 rw [List.length_map] at hd
 have hsum : ((occL (S.map (lnQ Q))).filter fun e => decide (2 ≤ (occL (S.map (lnQ Q))).count e)).length = (S.map fun j => ((virtL (lnQ Q j)).filter fun e => decide (2 ≤ (occL (S.map (lnQ Q))).count e)).length).sum := by
  generalize (fun e : Lk => decide (2 ≤ (occL (S.map (lnQ Q))).count e)) = p
  clear hd hf hperm memS hSn hSl hS
  induction S with
  | nil => rfl
  | cons a S ih =>
   rw [List.map_cons, occL_cons, List.filter_append, List.length_append, ih, List.map_cons, List.sum_cons]
 have hge : ∀ j ∈ S, 2 ≤ ((virtL (lnQ Q j)).filter fun e => decide (2 ≤ (occL (S.map (lnQ Q))).count e)).length := fun j hj => by
  obtain ⟨hjn, hjG⟩ := memS j hj
  refine Nat.le_trans (hdeg j hjn hjG) ?_
  unfold degG
  have hex : ∀ k, ∃ e, k ∈ ((besQ Q j).filter fun k => !G k) → j ≠ k ∧ k ∈ S ∧ e ∈ virtL (lnQ Q j) ∧ e ∈ virtL (lnQ Q k) := fun k => by
   by_cases hk : k ∈ ((besQ Q j).filter fun k => !G k)
   ·
    obtain ⟨hk1, hk2⟩ := List.mem_filter.1 hk; obtain ⟨hne, e, f, he, hf, hv, hfe⟩ := adjQ_iff.1 ((mem_besQ h.bes).1 hk1); have := h.same he hf hv hfe; subst this; have hkn := lnQ_mem hf; exact ⟨e, fun _ => ⟨hne, by rw [hS, List.mem_filter, List.mem_range]; exact ⟨hkn, hk2⟩, mem_virtL.2 ⟨he, hv⟩, mem_virtL.2 ⟨hf, hv⟩⟩⟩
   · exact ⟨(0, 0, 0), fun hk' => absurd hk' hk⟩
  obtain ⟨f, hf⟩ := Classical.axiomOfChoice hex
  refine inj_len f ((h.bes_nodup j).sublist List.filter_sublist) (fun x hx y hy hxy => ?_) (fun x hx => ?_)
  ·
   obtain ⟨a1, a2, a3, a4⟩ := hf x hx; obtain ⟨b1, b2, b3, b4⟩ := hf y hy; refine Classical.byContradiction fun hne => ?_; have hx1 := (memS x a2).1; have hy1 := (memS y b2).1; rw [← hxy] at b4; have hv := (mem_virtL.1 a3).2; have m1 : (j, f x) ∈ atV (f x).2.2 (allQ Q) := mem_atV.2 ⟨mem_allQ.2 (mem_virtL.1 a3).1, rfl⟩; have m2 : (x, f x) ∈ atV (f x).2.2 (allQ Q) := mem_atV.2 ⟨mem_allQ.2 (mem_virtL.1 a4).1, rfl⟩; have m3 : (y, f x) ∈ atV (f x).2.2 (allQ Q) := mem_atV.2 ⟨mem_allQ.2 (mem_virtL.1 b4).1, rfl⟩; rcases h.bes.2.1 _ hv with h0 | h2
   · rw [List.eq_nil_of_length_eq_zero h0] at m1; simp at m1
   ·
    obtain ⟨p, q, g, hg, _⟩ := fine_two h.bes.1 hv h2; rw [hg] at m1 m2 m3; simp only [List.mem_cons, Prod.mk.injEq, List.not_mem_nil, or_false] at m1 m2 m3; omega
  ·
   obtain ⟨a1, a2, a3, a4⟩ := hf x hx; rw [List.mem_filter]; refine ⟨a3, ?_⟩; simp only [decide_eq_true_eq]; obtain ⟨s1, s2, hs⟩ := List.append_of_mem hj; have hx2 : x ∈ s1 ∨ x ∈ s2 := by
    rw [hs] at a2; rcases List.mem_append.1 a2 with h1 | h1
    · exact .inl h1
    ·
     rcases List.mem_cons.1 h1 with h1 | h1
     · exact absurd h1.symm a1
     · exact .inr h1
   have hc1 := List.count_pos_iff.2 a3; have ho : ∀ U : List Nat, x ∈ U → 0 < (occL (U.map (lnQ Q))).count (f x) := fun U hU => List.count_pos_iff.2 (mem_occL.2 ⟨_, List.mem_map_of_mem hU, (mem_virtL.1 a4).1, (mem_virtL.1 a4).2⟩); rw [hs, List.map_append, List.map_cons, occL_append, occL_cons, List.count_append, List.count_append]; rcases hx2 with hx2 | hx2 <;> have := ho _ hx2 <;> omega
 have hfin := sum_twice hge
 rw [← hsum, hf] at hfin
 omega
end RightQ
end Go.Proofs.YtagcbnpahgfgmaaGreat
namespace Go.Proofs.YtagcbnpahgfgmaaGreat
def addL (L : List Nat) (j : Nat) : List Nat := if j ∈ L then L else L ++ [j]
structure TrI (bs : Nat → List Nat) (n i : Nat) (L : List Nat) : Prop where
 nd : L.Nodup
 lt : ∀ x ∈ L, x < n
 zero : 0 ∈ L
 con : ∀ x ∈ L, Con bs (· < n) 0 x
 cl : ∀ k x, k < i → L[k]? = some x → ∀ j ∈ bs x, j ∈ L
 il : i ≤ L.length
theorem nodup_le {L : List Nat} {n : Nat} (h : L.Nodup) (hl : ∀ x ∈ L, x < n) : L.length ≤ n := by
 have h1 := nodup_len_le h (m := List.range n) fun x hx => List.mem_range.2 (hl x hx)
 simpa using h1
theorem nodup_all {L : List Nat} {n : Nat} (h : L.Nodup) (hl : ∀ x ∈ L, x < n) (hn : L.length = n) : ∀ j, j < n → j ∈ L := by
 intro j hj
 by_cases hm : j ∈ L
 · exact hm
 ·
  have h1 := nodup_le (L := j :: L) (n := n) (List.nodup_cons.2 ⟨hm, h⟩) fun x hx => by
   rcases List.mem_cons.1 hx with rfl | hx
   · exact hj
   · exact hl x hx
  simp at h1; omega
theorem all_len {L : List Nat} {n : Nat} (h : L.Nodup) (hl : ∀ x ∈ L, x < n) (ha : ∀ j, j < n → j ∈ L) : L.length = n := by
 have h1 := nodup_len_le (List.nodup_range (n := n)) (m := L) fun x hx => ha x (List.mem_range.1 hx)
 have := nodup_le h hl
 simp at h1
 omega
namespace TrI
variable {bs : Nat → List Nat} {n i : Nat} {L : List Nat}
theorem start (hn : 0 < n) : TrI bs n 0 [0] where
 nd := by simp
 lt x hx := by simp at hx; omega
 zero := by simp
 con x hx := by simp at hx; subst hx; exact .refl hn
 cl k x hk := absurd hk (by omega)
 il := by simp
theorem len (h : TrI bs n i L) : L.length ≤ n := nodup_le h.nd h.lt
theorem add (h : TrI bs n i L) {v j : Nat} (hv : L[i]? = some v) (hj : j ∈ bs v) (hjn : j < n) : TrI bs n i (addL L j) := by
 unfold addL
 split
 · exact h
 ·
  rename_i hm
  have hvm : v ∈ L := List.mem_of_getElem? hv
  refine ⟨?_, fun x hx => ?_, by simp [h.zero], fun x hx => ?_, fun k x hk hx y hy => ?_, by have := h.il; simp; omega⟩
  ·
   rw [List.nodup_append]; refine ⟨h.nd, by simp, fun x hx y hy e => ?_⟩; simp at hy; subst hy; subst e; exact hm hx
  ·
   rcases List.mem_append.1 hx with hx | hx
   · exact h.lt x hx
   · simp at hx; omega
  ·
   rcases List.mem_append.1 hx with hx | hx
   · exact h.con x hx
   · simp at hx; subst hx; exact .step (h.con v hvm) hj hjn
  ·
   have hkl : k < L.length := by have := h.il; omega
   rw [List.getElem?_append_left hkl] at hx; exact List.mem_append_left _ (h.cl k x hk hx y hy)
theorem next (h : TrI bs n i L) {v : Nat} (hv : L[i]? = some v) (hall : ∀ j ∈ bs v, j ∈ L) : TrI bs n (i + 1) L :=
 ⟨h.nd, h.lt, h.zero, h.con, fun k x hk hx => by
  by_cases e : k = i
  · subst e; rw [hv] at hx; cases hx; exact hall
  · exact h.cl k x (by omega) hx, (List.getElem?_eq_some_iff.1 hv).1⟩
theorem done (h : TrI bs n L.length L) : L.length = n ↔ ∀ j, j < n → Con bs (· < n) 0 j := by
 constructor
 ·
  intro hn j hj
  exact h.con j (nodup_all h.nd h.lt hn j hj)
 ·
  intro ha
  refine all_len h.nd h.lt fun j hj => ?_
  refine Con.to (fun y => y ∈ L) h.zero (fun y z hy hz => ?_) (ha j hj)
  obtain ⟨k, hk, rfl⟩ := List.getElem_of_mem hy
  exact h.cl k _ hk (by simp [hk]) z hz
end TrI
theorem addL_at {L : List Nat} {j i v : Nat} (h : L[i]? = some v) : (addL L j)[i]? = some v := by
 unfold addL
 split
 · exact h
 · rw [List.getElem?_append_left (List.getElem?_eq_some_iff.1 h).1]; exact h
theorem Con.congr {bs cs : Nat → List Nat} {S : Nat → Prop} {x y : Nat} (h : Con bs S x y) (he : ∀ a b, b ∈ bs a → b ∈ cs a) : Con cs S x y := by
 induction h with
 | refl h => exact .refl h
 | step _ hz hs ih => exact .step ih (he _ _ hz) hs
def seenQ (Q : List Pt) (i : Nat) : Prop := ∀ j (h : j < Q.length), j < i → Q[j].1 ≠ 0 ∧ Q[j].1 = kindL Q[j].2 ∧ (∀ h0 : 0 < j, cmpLs (Q[j - 1]'(by omega)).2 Q[j].2 ≤ 0)
theorem seenQ_zero (Q : List Pt) : seenQ Q 0 := fun j _ h => absurd h (by omega)
theorem seenQ_next {Q : List Pt} {i : Nat} (h : seenQ Q i) (hi : i < Q.length) (h1 : Q[i].1 ≠ 0) (h2 : Q[i].1 = kindL Q[i].2) (h3 : ∀ h0 : 0 < i, cmpLs (Q[i - 1]'(by omega)).2 Q[i].2 ≤ 0) : seenQ Q (i + 1) := fun j hj hji => by
 by_cases e : j = i
 · subst e; exact ⟨h1, h2, h3⟩
 · exact h j hj (by omega)
theorem seenQ_all {Q : List Pt} : seenQ Q Q.length ↔ kindsP Q ∧ ordP Q := by
 constructor
 ·
  intro h
  refine ⟨fun q hq => ?_, fun i hi => ?_⟩
  ·
   obtain ⟨j, hj, rfl⟩ := List.getElem_of_mem hq; exact ⟨(h j hj hj).1, (h j hj hj).2.1⟩
  · exact (h (i + 1) hi hi).2.2 (by omega)
 ·
  rintro ⟨h1, h2⟩ j hj _
  refine ⟨(h1 _ (List.getElem_mem hj)).1, (h1 _ (List.getElem_mem hj)).2, fun h0 => ?_⟩
  obtain ⟨k, rfl⟩ : ∃ k, j = k + 1 := ⟨j - 1, by omega⟩
  exact h2 k hj
theorem besQ_lt {Q : List Pt} (h : besideP Q) {i j : Nat} (hj : j ∈ besQ Q i) : j < Q.length := by
 have h1 := mem_nbQ.2 ((mem_besQ h).1 hj)
 unfold nbQ at h1
 exact List.mem_range.1 (List.mem_filter.1 h1).1
theorem con_bes {Q : List Pt} (h : besideP Q) : conP Q ↔ ∀ j, j < Q.length → Con (besQ Q) (· < Q.length) 0 j :=
 ⟨fun hc j hj => (hc j hj).congr fun a b hb => (mem_besQ h).2 (mem_nbQ.1 hb), fun hc j hj => (hc j hj).congr fun a b hb => mem_nbQ.2 ((mem_besQ h).1 hb)⟩
def metV (n : Nat) (L : List Nat) : List Bool := (List.range n).map fun j => decide (j ∈ L)
theorem metV_len (n : Nat) (L : List Nat) : (metV n L).length = n := by simp [metV]
theorem metV_get {n j : Nat} {L : List Nat} (h : j < n) : (metV n L)[j]? = some (decide (j ∈ L)) := by simp [metV, h]
theorem metV_set {n j : Nat} {L : List Nat} (h : j ∉ L) : (metV n L).set j true = metV n (L ++ [j]) := by
 apply List.ext_getElem (by simp [metV])
 intro i h1 h2
 simp only [metV, List.getElem_set, List.getElem_map, List.getElem_range, List.mem_append, List.mem_singleton]
 by_cases e : j = i
 · subst e; simp
 ·
  have : ¬ i = j := fun h => e h.symm
  simp [e, this]
theorem metV_zero (n : Nat) : (List.replicate n false).set 0 true = metV n [0] := by
 have h : List.replicate n false = metV n [] := by
  apply List.ext_getElem (by simp [metV])
  intro i h1 h2
  simp [metV]
 rw [h, metV_set (by simp)]; rfl
end Go.Proofs.YtagcbnpahgfgmaaGreat
namespace Go.Proofs.YtagcbnpahgfgmaaGreat
structure TreeG (bs : Nat → List Nat) (n : Nat) : Prop where
 nd : ∀ i, (bs i).Nodup
 lt : ∀ i j, j ∈ bs i → j < n
 sym : ∀ i j, j ∈ bs i → i ∈ bs j
 leaf : ∀ G, 0 < leftN n G → ∃ j, j < n ∧ endB bs G j = true
theorem RightQ.treeG {Q : List Pt} (h : RightQ Q) : TreeG (besQ Q) Q.length :=
 ⟨h.bes_nodup, fun _ _ hj => besQ_lt h.bes hj, fun _ _ hj => (mem_besQ h.bes).2 (adjQ_symm ((mem_besQ h.bes).1 hj)), h.leaf⟩
def hitC (bs : Nat → List Nat) (P : List Nat) (j : Nat) : Nat := (P.filter fun i => decide (j ∈ bs i)).length
structure LvI (bs : Nat → List Nat) (n : Nat) (G : Nat → Bool) (L : List Nat) : Prop where
 nd : L.Nodup
 mem : ∀ j, j ∈ L ↔ j < n ∧ endB bs G j = true
theorem nodup_same {l m : List Nat} (hl : l.Nodup) (hm : m.Nodup) (h : ∀ x, x ∈ l ↔ x ∈ m) : l.length = m.length :=
 Nat.le_antisymm (nodup_len_le hl fun x hx => (h x).1 hx) (nodup_len_le hm fun x hx => (h x).2 hx)
theorem deg_none (bs : Nat → List Nat) (j : Nat) : degG bs (fun _ => false) j = (bs j).length := by
 unfold degG
 have : (bs j).filter (fun k => !(fun _ : Nat => false) k) = bs j := List.filter_eq_self.2 (fun _ _ => rfl)
 rw [this]
namespace LvI
variable {bs : Nat → List Nat} {n : Nat} {G : Nat → Bool} {L : List Nat}
theorem len (h : LvI bs n G L) : L.length = ((List.range n).filter (endB bs G)).length :=
 nodup_same h.nd (List.nodup_range.sublist List.filter_sublist) fun x => by rw [h.mem, List.mem_filter, List.mem_range]
theorem left (h : LvI bs n G L) (h2 : 2 < leftN n G) : leftN n (peel bs n G) + L.length = leftN n G := by rw [h.len]; exact leftN_peel bs n G h2
theorem pos (h : LvI bs n G L) (ht : TreeG bs n) (h2 : 0 < leftN n G) : 0 < L.length := by
 obtain ⟨j, hj⟩ := ht.leaf G h2
 exact List.length_pos_iff.2 (List.ne_nil_of_mem ((h.mem j).2 hj))
theorem le (h : LvI bs n G L) : L.length ≤ n := by
 rw [h.len]
 have := List.length_filter_le (endB bs G) (List.range n)
 simpa using this
theorem lt (h : LvI bs n G L) {j : Nat} (hj : j ∈ L) : j < n := ((h.mem j).1 hj).1
theorem hit (h : LvI bs n G L) (ht : TreeG bs n) (j : Nat) : hitC bs L j = ((bs j).filter (endB bs G)).length := by
 unfold hitC
 refine nodup_same (h.nd.sublist List.filter_sublist) ((ht.nd j).sublist List.filter_sublist) fun x => ?_
 rw [List.mem_filter, List.mem_filter, h.mem]
 simp only [decide_eq_true_eq]
 constructor
 · rintro ⟨⟨_, h2⟩, h3⟩; exact ⟨ht.sym _ _ h3, h2⟩
 · rintro ⟨h1, h2⟩; exact ⟨⟨ht.lt _ _ h1, h2⟩, ht.sym _ _ h1⟩
theorem deg (h : LvI bs n G L) (ht : TreeG bs n) (h2 : 2 < leftN n G) (j : Nat) : degG bs (peel bs n G) j + hitC bs L j = degG bs G j := by
 rw [h.hit ht]
 unfold degG
 have e : (fun k => !peel bs n G k) = fun k => (!G k) && !endB bs G k := by
  funext k
  unfold peel
  rw [decide_eq_true h2]
  cases G k <;> simp
 rw [e]
 exact filter_split (bs j) (fun k => !G k) (endB bs G) fun x _ hx => by
  unfold endB at hx
  simp only [Bool.and_eq_true] at hx
  exact hx.1
theorem start (ht : TreeG bs n) : LvI bs n (fun _ => false) ((List.range n).filter fun i => decide ((bs i).length < 2)) := by
 refine ⟨List.nodup_range.sublist List.filter_sublist, fun j => ?_⟩
 rw [List.mem_filter, List.mem_range]
 unfold endB
 rw [deg_none]
 simp
 omega
end LvI
structure MoI (n : Nat) (G : Nat → Bool) (c : Nat → Int) (M : List Nat) : Prop where
 nd : M.Nodup
 mem : ∀ j, j ∈ M ↔ j < n ∧ G j = false ∧ c j ≤ 1
def updC (c : Nat → Int) (j : Nat) (v : Int) : Nat → Int := fun x => if x = j then v else c x
namespace MoI
variable {n : Nat} {G : Nat → Bool} {c : Nat → Int} {M : List Nat}
theorem le (h : MoI n G c M) : M.length ≤ n := by
 have := nodup_len_le h.nd (m := List.range n) fun x hx => List.mem_range.2 ((h.mem x).1 hx).1
 simpa using this
theorem start {bs : Nat → List Nat} {G0 : Nat → Bool} (h2 : 2 < leftN n G0) : MoI n (peel bs n G0) (fun j => (degG bs G0 j : Int)) [] := by
 refine ⟨by simp, fun j => ?_⟩
 simp only [List.not_mem_nil, false_iff]
 rintro ⟨_, h1, h3⟩
 unfold peel endB at h1
 rw [decide_eq_true h2] at h1
 simp at h1
 have := h1.2 h1.1
 omega
theorem no (h : MoI n G c M) {j : Nat} (hj : G j = true ∨ c j - 1 ≠ 1) : MoI n G (updC c j (c j - 1)) M := by
 refine ⟨h.nd, fun x => ?_⟩
 rw [h.mem]
 unfold updC
 by_cases e : x = j
 ·
  subst e
  rw [if_pos rfl]
  rcases hj with hj | hj
  · rw [hj]; simp
  · constructor <;> rintro ⟨a, b, d⟩ <;> exact ⟨a, b, by omega⟩
 · rw [if_neg e]
theorem yes (h : MoI n G c M) {j : Nat} (hn : j < n) (h1 : G j = false) (h2 : c j - 1 = 1) : MoI n G (updC c j (c j - 1)) (M ++ [j]) := by
 have hjM : j ∉ M := fun hm => by have := ((h.mem j).1 hm).2.2; omega
 refine ⟨?_, fun x => ?_⟩
 ·
  rw [List.nodup_append]
  exact ⟨h.nd, by simp, fun a ha b hb e => by simp at hb; subst hb; subst e; exact hjM ha⟩
 ·
  rw [List.mem_append, List.mem_singleton, h.mem]
  unfold updC
  by_cases e : x = j
  ·
   subst e; rw [if_pos rfl]; simp [hn, h1]; omega
  ·
   rw [if_neg e]; simp [e]
end MoI
def cntC (bs : Nat → List Nat) (G : Nat → Bool) (P pre : List Nat) : Nat → Int := fun j => (degG bs G j : Int) - (hitC bs P j : Int) - if j ∈ pre then 1 else 0
theorem cntC_start (bs : Nat → List Nat) (G : Nat → Bool) : cntC bs G [] [] = fun j => (degG bs G j : Int) := by funext j; simp [cntC, hitC]
theorem cntC_dec {bs : Nat → List Nat} {G : Nat → Bool} {P pre : List Nat} {j : Nat} (h : j ∉ pre) : updC (cntC bs G P pre) j (cntC bs G P pre j - 1) = cntC bs G P (pre ++ [j]) := by
 funext x
 unfold updC cntC
 by_cases e : x = j
 · subst e; simp [h]
 · simp [e]
theorem cntC_next {bs : Nat → List Nat} {G : Nat → Bool} {P : List Nat} {i : Nat} : cntC bs G P (bs i) = cntC bs G (P ++ [i]) [] := by
 funext x
 unfold cntC hitC
 rw [List.filter_append, List.length_append]
 by_cases e : x ∈ bs i <;> simp [e]
 omega
theorem cntC_end {bs : Nat → List Nat} {n : Nat} {G : Nat → Bool} {L : List Nat} (h : LvI bs n G L) (ht : TreeG bs n) (h2 : 2 < leftN n G) : cntC bs G L [] = fun j => (degG bs (peel bs n G) j : Int) := by
 funext j
 have := h.deg ht h2 j
 simp [cntC]
 omega
theorem MoI.lv {bs : Nat → List Nat} {n : Nat} {G : Nat → Bool} {M : List Nat} (h : MoI n G (fun j => (degG bs G j : Int)) M) : LvI bs n G M :=
 ⟨h.nd, fun j => by rw [h.mem]; unfold endB; simp; omega⟩
def cntV (n : Nat) (c : Nat → Int) : List Int := (List.range n).map c
def tkV (n : Nat) (G : Nat → Bool) : List Bool := (List.range n).map G
theorem cntV_len (n : Nat) (c : Nat → Int) : (cntV n c).length = n := by simp [cntV]
theorem tkV_len (n : Nat) (G : Nat → Bool) : (tkV n G).length = n := by simp [tkV]
theorem cntV_get {n j : Nat} {c : Nat → Int} (h : j < n) : (cntV n c)[j]? = some (c j) := by simp [cntV, h]
theorem tkV_get {n j : Nat} {G : Nat → Bool} (h : j < n) : (tkV n G)[j]? = some (G j) := by simp [tkV, h]
theorem cntV_set {n j : Nat} {c : Nat → Int} {v : Int} : (cntV n c).set j v = cntV n (updC c j v) := by
 apply List.ext_getElem (by simp [cntV])
 intro i h1 h2
 simp only [cntV, updC, List.getElem_set, List.getElem_map, List.getElem_range]
 by_cases e : j = i
 · subst e; simp
 ·
  have : ¬ i = j := fun h => e h.symm
  simp [e, this]
theorem cntV_zero (n : Nat) : List.replicate n (0 : Int) = cntV n fun _ => 0 := by
 apply List.ext_getElem (by simp [cntV])
 intro i h1 h2
 simp [cntV]
theorem tkV_zero (n : Nat) : List.replicate n false = tkV n fun _ => false := by
 apply List.ext_getElem (by simp [tkV])
 intro i h1 h2
 simp [tkV]
def orL (G : Nat → Bool) (P : List Nat) : Nat → Bool := fun j => G j || decide (j ∈ P)
theorem tkV_set {n j : Nat} {G : Nat → Bool} {P : List Nat} : (tkV n (orL G P)).set j true = tkV n (orL G (P ++ [j])) := by
 apply List.ext_getElem (by simp [tkV])
 intro i h1 h2
 simp only [tkV, orL, List.getElem_set, List.getElem_map, List.getElem_range, List.mem_append, List.mem_singleton]
 by_cases e : j = i
 · subst e; simp
 ·
  have : ¬ i = j := fun h => e h.symm
  simp [e, this]
theorem orL_nil (G : Nat → Bool) : orL G [] = G := by funext j; simp [orL]
theorem tkV_peel {bs : Nat → List Nat} {n : Nat} {G : Nat → Bool} {L : List Nat} (h : LvI bs n G L) (h2 : 2 < leftN n G) : tkV n (orL G L) = tkV n (peel bs n G) := by
 unfold tkV
 refine List.map_congr_left fun j hj => ?_
 have hj' := List.mem_range.1 hj
 unfold orL peel
 rw [decide_eq_true h2, Bool.true_and]
 congr 1
 rw [Bool.eq_iff_iff, decide_eq_true_eq, h.mem]
 simp [hj']
end Go.Proofs.YtagcbnpahgfgmaaGreat
namespace Go.Proofs.YtagcbnpahgfgmaaGreat
inductive Wi (bs : Nat → List Nat) (S : Nat → Prop) (v : Nat) : Nat → Nat → Prop
 | start : S v → Wi bs S v 0 v
 | stay {d u : Nat} : Wi bs S v d u → Wi bs S v (d + 1) u
 | step {d u z : Nat} : Wi bs S v d u → z ∈ bs u → S z → Wi bs S v (d + 1) z
namespace Wi
variable {bs : Nat → List Nat} {S S' : Nat → Prop} {v u d d' : Nat}
theorem alive (h : Wi bs S v d u) : S u := by
 induction h with
 | start h => exact h
 | stay _ ih => exact ih
 | step _ _ h _ => exact h
theorem le (h : Wi bs S v d u) (hd : d ≤ d') : Wi bs S v d' u := by
 induction d' with
 | zero =>
  have : d = 0 := by omega
  subst this; exact h
 | succ d' ih =>
  by_cases e : d = d' + 1
  · subst e; exact h
  · exact (ih (by omega)).stay
theorem mono (h : Wi bs S v d u) (hs : ∀ x, S x → S' x) : Wi bs S' v d u := by
 induction h with
 | start h => exact .start (hs _ h)
 | stay _ ih => exact ih.stay
 | step _ h1 h2 ih => exact ih.step h1 (hs _ h2)
theorem con (h : Wi bs S v d u) : Con bs S v u := by
 induction h with
 | start h => exact .refl h
 | stay _ ih => exact ih
 | step _ h1 h2 ih => exact ih.step h1 h2
theorem of_con (h : Con bs S v u) : ∃ d, Wi bs S v d u := by
 induction h with
 | refl h => exact ⟨0, .start h⟩
 | step _ h1 h2 ih =>
  obtain ⟨d, hd⟩ := ih
  exact ⟨d + 1, hd.step h1 h2⟩
theorem zero (h : Wi bs S v 0 u) : u = v := by
 cases h with
 | start _ => rfl
end Wi
def aliveG (G : Nat → Bool) : Nat → Prop := fun j => G j = false
def finW (bs : Nat → List Nat) (G : Nat → Bool) (v d : Nat) : Prop := ∀ u, G u = false → Wi bs (aliveG G) v d u
structure GoodG (bs : Nat → List Nat) (n : Nat) (G : Nat → Bool) : Prop where
 lt : ∀ j, G j = false → j < n
 con : ∀ x y, G x = false → G y = false → Con bs (aliveG G) x y
theorem deg_one {bs : Nat → List Nat} {G : Nat → Bool} {j x y : Nat} (h : degG bs G j ≤ 1) (hx : x ∈ bs j) (hy : y ∈ bs j) (gx : G x = false) (gy : G y = false) : x = y := by
 unfold degG at h
 have a1 : x ∈ (bs j).filter fun k => !G k := List.mem_filter.2 ⟨hx, by simp [gx]⟩
 have a2 : y ∈ (bs j).filter fun k => !G k := List.mem_filter.2 ⟨hy, by simp [gy]⟩
 match hl : (bs j).filter (fun k => !G k), h with
 | [], _ => rw [hl] at a1; simp at a1
 | [z], _ =>
  rw [hl] at a1 a2
  simp at a1 a2
  rw [a1, a2]
theorem left_pos {n : Nat} {G : Nat → Bool} {j : Nat} (hj : j < n) (h : G j = false) : 0 < leftN n G := by
 unfold leftN
 exact List.length_pos_iff.2 (List.ne_nil_of_mem (List.mem_filter.2 ⟨List.mem_range.2 hj, by simp [h]⟩))
theorem left_lt {n : Nat} {G G' : Nat → Bool} (h : ∀ j, G' j = false → G j = false) {l : Nat} (hl : l < n) (h1 : G l = false) (h2 : G' l = true) : leftN n G' < leftN n G := by
 unfold leftN
 have hs : ∀ x ∈ (List.range n).filter (fun j => !G' j), x ∈ ((List.range n).filter fun j => !G j).erase l := fun x hx => by
  rw [List.mem_filter] at hx
  have hx2 : G' x = false := by simpa using hx.2
  rw [(List.nodup_range.sublist List.filter_sublist).mem_erase_iff]
  exact ⟨fun e => (by rw [e, h2] at hx2; cases hx2), List.mem_filter.2 ⟨hx.1, by simp [h x hx2]⟩⟩
 have := nodup_len_le (List.nodup_range.sublist List.filter_sublist) hs
 rw [List.length_erase_of_mem (List.mem_filter.2 ⟨List.mem_range.2 hl, by simp [h1]⟩)] at this
 have := left_pos hl h1
 unfold leftN at this
 omega
theorem left_three {n : Nat} {G : Nat → Bool} (h : 2 < leftN n G) (x y : Nat) : ∃ z, G z = false ∧ z ≠ x ∧ z ≠ y := by
 refine Classical.byContradiction fun hno => ?_
 unfold leftN at h
 have := nodup_len_le (l := (List.range n).filter fun j => !G j) (m := [x, y]) (List.nodup_range.sublist List.filter_sublist) fun z hz => by
  have hz2 : G z = false := by simpa using (List.mem_filter.1 hz).2
  by_cases e1 : z = x
  · simp [e1]
  ·
   by_cases e2 : z = y
   · simp [e2]
   · exact absurd ⟨z, hz2, e1, e2⟩ hno
 simp only [List.length_cons, List.length_nil] at this
 omega
theorem no_cycle {bs : Nat → List Nat} {n : Nat} (ht : TreeG bs n) : ∀ (m : Nat) (G : Nat → Bool), leftN n G ≤ m → GoodG bs n G → ∀ u, u < n → G u = true → ∀ x y, x ∈ bs u → y ∈ bs u → G x = false → G y = false → x = y := by
 intro m
 induction m with
 | zero =>
  intro G hm hg u hu _ x y _ _ hx _
  have := left_pos (hg.lt x hx) hx
  omega
 | succ m ih =>
  intro G hm hg u hu hGu x y hxu hyu hx hy
  refine Classical.byContradiction fun hxy => ?_
  obtain ⟨G', hG'⟩ : ∃ G' : Nat → Bool, G' = fun j => G j && decide (j ≠ u) := ⟨_, rfl⟩
  have g1 : ∀ j, G j = false → G' j = false := fun j hj => by rw [hG']; simp [hj]
  have g2 : ∀ j, G' j = false → j ≠ u → G j = false := fun j hj hne => by
   rw [hG'] at hj; simpa [hne] using hj
  have gu : G' u = false := by rw [hG']; simp
  obtain ⟨l, hl, he⟩ := ht.leaf G' (left_pos hu gu)
  unfold endB at he
  simp only [Bool.and_eq_true, Bool.not_eq_true', decide_eq_true_eq] at he
  obtain ⟨hl0, hl1⟩ := he
  have hlu : l ≠ u := fun e => hxy (by subst e; exact deg_one hl1 hxu hyu (g1 x hx) (g1 y hy))
  have hGl := g2 l hl0 hlu
  by_cases hlb : l ∈ bs u
  ·
   
   have hul := ht.sym _ _ hlb
   have stay : ∀ z, Con bs (aliveG G) l z → z = l := fun z hz => Con.closed (· = l) (fun a b ha hab hb => by
    rw [ha] at hab; have : b = u := deg_one hl1 hab hul (g1 b hb) gu; have hb' : G b = false := hb
    rw [this, hGu] at hb'; cases hb') rfl hz
   have e1 := stay x (hg.con l x hGl hx); have e2 := stay y (hg.con l y hGl hy); exact hxy (e1.trans e2.symm)
  ·
   have hxl : x ≠ l := fun e => hlb (e ▸ hxu); have hyl : y ≠ l := fun e => hlb (e ▸ hyu); obtain ⟨G2, hG2⟩ : ∃ G2 : Nat → Bool, G2 = fun j => G j || decide (j = l) := ⟨_, rfl⟩
   have k1 : ∀ j, G2 j = false → G j = false ∧ j ≠ l := fun j hj => by
    rw [hG2] at hj; simpa using hj
   have k2 : ∀ j, G j = false → j ≠ l → G2 j = false := fun j hj hne => by rw [hG2]; simp [hj, hne]
   have kl : G2 l = true := by rw [hG2]; simp
   have hcon : ∀ p q, G2 p = false → G2 q = false → Con bs (aliveG G2) p q := fun p q hp hq => by
    obtain ⟨hp1, hp2⟩ := k1 p hp; obtain ⟨hq1, hq2⟩ := k1 q hq; have key : ∀ z, Con bs (aliveG G) p z → (z ≠ l → Con bs (aliveG G2) p z) ∧ (z = l → ∀ w, w ∈ bs l → G w = false → w ≠ l → Con bs (aliveG G2) p w) := by
     intro z hz; induction hz with
     | refl _ => exact ⟨fun _ => .refl hp, fun e => absurd e hp2⟩
     | @step z z' _ hzz hz' ih' =>
      have hz'' : G z' = false := hz'; refine ⟨fun hne => ?_, fun e w hw hGw hwl => ?_⟩
      ·
       by_cases e : z = l
       ·
        subst e; exact ih'.2 rfl z' hzz hz'' hne
       · exact (ih'.1 e).step hzz (k2 z' hz'' hne)
      ·
       subst e; by_cases e : z = z'
       ·
        subst e; exact ih'.2 rfl w hw hGw hwl
       ·
        have hGz := (ih'.1 e).right; obtain ⟨hGz1, _⟩ := k1 z hGz; have : w = z := deg_one hl1 hw (ht.sym _ _ hzz) (g1 w hGw) (g1 z hGz1); rw [this]; exact ih'.1 e
    exact (key q (hg.con p q hp1 hq1)).1 hq2
   have hlt := left_lt (n := n) (fun j hj => (k1 j hj).1) hl hGl kl; exact hxy (ih G2 (by omega) ⟨fun j hj => hg.lt j (k1 j hj).1, hcon⟩ u hu (by rw [hG2]; simp [hGu]) x y hxu hyu (k2 x hx hxl) (k2 y hy hyl))
section
variable {bs : Nat → List Nat} {n : Nat} {G : Nat → Bool}
theorem peel_alive (h2 : 2 < leftN n G) {j : Nat} : peel bs n G j = false ↔ G j = false ∧ ¬ degG bs G j ≤ 1 := by
 unfold peel endB
 rw [decide_eq_true h2]
 cases G j <;> simp
theorem GoodG.next (hg : GoodG bs n G) (h2 : 2 < leftN n G) {u : Nat} (hu : G u = false) : ∃ w, w ∈ bs u ∧ G w = false ∧ w ≠ u := by
 refine Classical.byContradiction fun hno => ?_
 obtain ⟨z, hz, hzu, _⟩ := left_three h2 u u
 have : z = u := Con.closed (· = u) (fun a b ha hab hb => by
  rw [ha] at hab
  exact Classical.byContradiction fun hne => hno ⟨b, hab, hb, hne⟩) rfl (hg.con u z hu hz)
 exact hzu this
theorem GoodG.stem (ht : TreeG bs n) (hg : GoodG bs n G) (h2 : 2 < leftN n G) {u w : Nat} (hu : G u = false) (hd : degG bs G u ≤ 1) (hw : w ∈ bs u) (hgw : G w = false) : ¬ degG bs G w ≤ 1 := fun hd2 => by
 obtain ⟨z, hz, hzu, hzw⟩ := left_three h2 u w
 have : z = u ∨ z = w := Con.closed (fun a => a = u ∨ a = w) (fun a b ha hab hb => by
  rcases ha with rfl | rfl
  · exact .inr (deg_one hd hab hw hb hgw)
  · exact .inl (deg_one hd2 hab (ht.sym _ _ hw) hb hu)) (.inl rfl) (hg.con u z hu hz)
 exact this.elim hzu hzw
theorem Wi.trim (ht : TreeG bs n) (hg : GoodG bs n G) (h2 : 2 < leftN n G) {v : Nat} (hv : peel bs n G v = false) {d u : Nat} (h : Wi bs (aliveG G) v d u) :
  (peel bs n G u = false → Wi bs (aliveG (peel bs n G)) v d u) ∧ (peel bs n G u = true → ∃ d', d = d' + 1 ∧ ∀ w, w ∈ bs u → G w = false → Wi bs (aliveG (peel bs n G)) v d' w) := by
 induction h with
 | start _ => exact ⟨fun h => .start h, fun h => by rw [hv] at h; cases h⟩
 | stay _ ih => exact ⟨fun h => (ih.1 h).stay, fun h => by
   obtain ⟨d', rfl, hw⟩ := ih.2 h
   exact ⟨_, rfl, fun w h1 h3 => (hw w h1 h3).stay⟩⟩
 | @step d u z hwi hz hgz ih =>
  have hgu : G u = false := hwi.alive
  have hgz' : G z = false := hgz
  have ends : ∀ {x}, G x = false → peel bs n G x = true → degG bs G x ≤ 1 := fun {x} h1 h3 => Classical.byContradiction fun hno => by
   rw [(peel_alive h2).2 ⟨h1, hno⟩] at h3; cases h3
  cases hu : peel bs n G u with
  | false =>
   refine ⟨fun h => (ih.1 hu).step hz h, fun h => ⟨d, rfl, fun w hw hgw => ?_⟩⟩; have : w = u := deg_one (ends hgz' h) hw (ht.sym _ _ hz) hgw hgu; rw [this]; exact ih.1 hu
  | true =>
   obtain ⟨d', rfl, hw⟩ := ih.2 hu; refine ⟨fun _ => ((hw z hz hgz').stay).stay, fun h => absurd (ends hgz' h) (hg.stem ht h2 hgu (ends hgu hu) hz hgz')⟩
theorem GoodG.peel (ht : TreeG bs n) (hg : GoodG bs n G) (h2 : 2 < leftN n G) : GoodG bs n (peel bs n G) := by
 refine ⟨fun j hj => hg.lt j ((peel_alive h2).1 hj).1, fun x y hx hy => ?_⟩
 obtain ⟨d, hd⟩ := Wi.of_con (hg.con x y ((peel_alive h2).1 hx).1 ((peel_alive h2).1 hy).1)
 exact ((hd.trim ht hg h2 hx).1 hy).con
theorem fin_peel (ht : TreeG bs n) (irr : ∀ i, i ∉ bs i) (hg : GoodG bs n G) (h2 : 2 < leftN n G) {v : Nat} (hv : peel bs n G v = false) (d : Nat) : finW bs G v d ↔ 1 ≤ d ∧ finW bs (peel bs n G) v (d - 1) := by
 have hgv := ((peel_alive h2).1 hv).1
 constructor
 ·
  intro hf
  match d, hf with
  | 0, hf =>
   obtain ⟨z, hz, hzv, _⟩ := left_three h2 v v; exact absurd (hf z hz).zero hzv
  | d + 1, hf =>
   refine ⟨by omega, fun u hu => ?_⟩; obtain ⟨hgu, hdu⟩ := (peel_alive h2).1 hu; simp only [Nat.add_sub_cancel]; have hwd : Wi bs (aliveG G) v d u := by
    refine Classical.byContradiction fun hno => hdu ?_; have huv : u ≠ v := fun e => hno (by rw [e]; exact (Wi.start (show aliveG G v from hgv)).le (by omega)); obtain ⟨A, hA⟩ : ∃ A : Nat → Bool, A = fun j => G j || decide (j = u) := ⟨_, rfl⟩
    have k1 : ∀ j, A j = false → G j = false ∧ j ≠ u := fun j hj => by
     rw [hA] at hj; simpa using hj
    have k2 : ∀ j, G j = false → j ≠ u → A j = false := fun j hj hne => by rw [hA]; simp [hj, hne]
    have key : ∀ m z, Wi bs (aliveG G) v m z → m ≤ d → Con bs (aliveG A) v z := fun m z hw => by
     induction hw with
     | start _ => exact fun _ => .refl (k2 v hgv fun e => huv e.symm)
     | stay _ ih => exact fun hm => ih (by omega)
     | @step m y z hy hz hgz ih =>
      intro hm; exact (ih (by omega)).step hz (k2 z hgz fun e => hno (by rw [← e]; exact (hy.step hz hgz).le hm))
    have all : ∀ z, A z = false → Con bs (aliveG A) v z := fun z hz => by
     obtain ⟨hgz, hzu⟩ := k1 z hz; have hw := hf z hgz; cases hw with
     | stay hw => exact key d z hw (Nat.le_refl _)
     | step hw hz' _ => exact (key d _ hw (Nat.le_refl _)).step hz' hz
    have hgA : GoodG bs n A := ⟨fun j hj => hg.lt j (k1 j hj).1, fun x y hx hy => (Con.symm ht.sym (all x hx)).trans (all y hy)⟩
    have huniq := no_cycle ht (leftN n A) A (Nat.le_refl _) hgA u (hg.lt u hgu) (by rw [hA]; simp); unfold degG; have hnd : ((bs u).filter fun k => !G k).Nodup := (ht.nd u).sublist List.filter_sublist; match hl : (bs u).filter (fun k => !G k), hnd with
    | [], _ => simp
    | [_], _ => simp
    | x :: y :: l, hnd =>
     exfalso; have mx : x ∈ (bs u).filter fun k => !G k := by rw [hl]; simp
     have my : y ∈ (bs u).filter fun k => !G k := by rw [hl]; simp
     rw [List.mem_filter] at mx my; have gx : G x = false := by simpa using mx.2
     have gy : G y = false := by simpa using my.2
     have : x = y := huniq x y mx.1 my.1 (k2 x gx fun e => irr u (e ▸ mx.1)) (k2 y gy fun e => irr u (e ▸ my.1)); subst this; simp at hnd
   exact (hwd.trim ht hg h2 hv).1 hu
 ·
  rintro ⟨hd, hf⟩ u hu
  obtain ⟨d, rfl⟩ : ∃ e, d = e + 1 := ⟨d - 1, by omega⟩
  simp only [Nat.add_sub_cancel] at hf
  have hs : ∀ x, aliveG (Go.Proofs.YtagcbnpahgfgmaaGreat.peel bs n G) x → aliveG G x := fun x hx => ((peel_alive h2).1 hx).1
  by_cases hd1 : degG bs G u ≤ 1
  ·
   obtain ⟨w, hw, hgw, _⟩ := hg.next h2 hu; have hnd := hg.stem ht h2 hu hd1 hw hgw; exact ((hf w ((peel_alive h2).2 ⟨hgw, hnd⟩)).mono hs).step (ht.sym _ _ hw) hu
  · exact ((hf u ((peel_alive h2).2 ⟨hu, hd1⟩)).mono hs).stay
theorem fin_end (ht : TreeG bs n) (hg : GoodG bs n G) (h2 : 2 < leftN n G) {v w : Nat} (hv : G v = false) (hd : degG bs G v ≤ 1) (hw : w ∈ bs v) (hgw : G w = false) {d : Nat} (hf : finW bs G v d) : 1 ≤ d ∧ finW bs G w (d - 1) := by
 have key : ∀ {d u}, Wi bs (aliveG G) v d u → u = v ∨ ∃ e, d = e + 1 ∧ Wi bs (aliveG G) w e u := fun {d u} h => by
  induction h with
  | start _ => exact .inl rfl
  | stay _ ih =>
   rcases ih with h | ⟨e, rfl, h⟩
   · exact .inl h
   · exact .inr ⟨_, rfl, h.stay⟩
  | @step d u z _ hz hgz ih =>
   rcases ih with h | ⟨e, rfl, h⟩
   ·
    subst h; have : z = w := deg_one hd hz hw hgz hgw; exact .inr ⟨d, rfl, by rw [this]; exact (Wi.start (show aliveG G w from hgw)).le (by omega)⟩
   · exact .inr ⟨_, rfl, h.step hz hgz⟩
 obtain ⟨z, hz, hzv, hzw⟩ := left_three h2 v w
 rcases key (hf z hz) with h | ⟨e, rfl, h⟩
 · exact absurd h hzv
 ·
  refine ⟨by omega, fun u hu => ?_⟩
  simp only [Nat.add_sub_cancel]
  rcases key (hf u hu) with rfl | ⟨e', he, h'⟩
  ·
   match e, h with
   | 0, h => exact absurd h.zero hzw
   | e + 1, _ => exact ((Wi.start (show aliveG G w from hgw)).step (ht.sym _ _ hw) hu).le (by omega)
  ·
   have : e' = e := by omega
   rw [← this]; exact h'
end
end Go.Proofs.YtagcbnpahgfgmaaGreat
namespace Go.Proofs.YtagcbnpahgfgmaaGreat
def resN (n : Nat) (G : Nat → Bool) : Nat → Bool := fun j => G j || decide (n ≤ j)
theorem res_iff {n : Nat} {G : Nat → Bool} {j : Nat} : resN n G j = false ↔ G j = false ∧ j < n := by
 unfold resN
 simp
theorem left_res (n : Nat) (G : Nat → Bool) : leftN n (resN n G) = leftN n G := by
 unfold leftN
 congr 1
 refine List.filter_congr fun j hj => ?_
 have := List.mem_range.1 hj
 unfold resN
 rw [decide_eq_false (by omega), Bool.or_false]
section
variable {bs : Nat → List Nat} {n : Nat}
theorem deg_res (ht : TreeG bs n) (G : Nat → Bool) (j : Nat) : degG bs (resN n G) j = degG bs G j := by
 unfold degG
 congr 1
 refine List.filter_congr fun k hk => ?_
 have := ht.lt _ _ hk
 unfold resN
 rw [decide_eq_false (by omega), Bool.or_false]
theorem res_peel (ht : TreeG bs n) (G : Nat → Bool) : resN n (peel bs n G) = peel bs n (resN n G) := by
 funext j
 unfold peel endB
 rw [left_res, deg_res ht]
 unfold resN
 by_cases h : n ≤ j
 · rw [decide_eq_true h]; simp
 · rw [decide_eq_false h]; simp
def alv (bs : Nat → List Nat) (n k : Nat) : Nat → Bool := resN n (peels bs n k)
theorem alv_succ (ht : TreeG bs n) (k : Nat) : alv bs n (k + 1) = peel bs n (alv bs n k) := by
 unfold alv
 rw [← res_peel ht]; rfl
theorem alv_zero (j : Nat) : alv bs n 0 j = false ↔ j < n := by
 unfold alv
 rw [res_iff]
 exact ⟨fun h => h.2, fun h => ⟨rfl, h⟩⟩
abbrev farW (bs : Nat → List Nat) (n v d : Nat) : Prop := finW bs (alv bs n 0) v d
theorem left_end (ht : TreeG bs n) : ∀ k, leftN n (alv bs n k) ≤ 2 ∨ leftN n (alv bs n k) + k ≤ n := by
 intro k
 induction k with
 | zero => right; exact leftN_le _ _
 | succ k ih =>
  rw [alv_succ ht]
  by_cases h : 2 < leftN n (alv bs n k)
  ·
   have h1 := leftN_peel bs n _ h; obtain ⟨j, hj, he⟩ := ht.leaf (alv bs n k) (by omega); have : 0 < ((List.range n).filter (endB bs (alv bs n k))).length := List.length_pos_iff.2 (List.ne_nil_of_mem (List.mem_filter.2 ⟨List.mem_range.2 hj, he⟩)); rcases ih with h2 | h2
   · omega
   · right; omega
  · rw [peel_end h]; left; omega
structure ChainG (bs : Nat → List Nat) (n : Nat) (G : Nat → Bool) : Prop where
 good : GoodG bs n G
 pos : 0 < leftN n G
 far : ∃ r, ∀ v, G v = false → ∀ e, farW bs n v e ↔ r ≤ e ∧ finW bs G v (e - r)
 out : ∀ v, v < n → G v = true → ∃ w, G w = false ∧ ∀ e, farW bs n v e → 1 ≤ e ∧ farW bs n w (e - 1)
theorem ChainG.peel (ht : TreeG bs n) (irr : ∀ i, i ∉ bs i) {G : Nat → Bool} (h : ChainG bs n G) : ChainG bs n (peel bs n G) := by
 by_cases h2 : 2 < leftN n G
 ·
  obtain ⟨r, hr⟩ := h.far
  have ends : ∀ {x}, G x = false → Go.Proofs.YtagcbnpahgfgmaaGreat.peel bs n G x = true → degG bs G x ≤ 1 := fun {x} h1 h3 => Classical.byContradiction fun hno => by
   rw [(peel_alive h2).2 ⟨h1, hno⟩] at h3; cases h3
  have beside : ∀ {x}, G x = false → Go.Proofs.YtagcbnpahgfgmaaGreat.peel bs n G x = true → ∃ w, Go.Proofs.YtagcbnpahgfgmaaGreat.peel bs n G w = false ∧ ∀ e, farW bs n x e → 1 ≤ e ∧ farW bs n w (e - 1) := fun {x} h1 h3 => by
   have hd := ends h1 h3; obtain ⟨w, hw, hgw, _⟩ := h.good.next h2 h1; have hnd := h.good.stem ht h2 h1 hd hw hgw; refine ⟨w, (peel_alive h2).2 ⟨hgw, hnd⟩, fun e he => ?_⟩; obtain ⟨e1, e2⟩ := (hr x h1 e).1 he; obtain ⟨e3, e4⟩ := fin_end ht h.good h2 h1 hd hw hgw e2; refine ⟨by omega, (hr w hgw (e - 1)).2 ⟨by omega, ?_⟩⟩; rw [show e - 1 - r = e - r - 1 by omega]; exact e4
  refine ⟨h.good.peel ht h2, ?_, ⟨r + 1, fun v hv e => ?_⟩, fun v hv hgv => ?_⟩
  ·
   obtain ⟨z, hz, _, _⟩ := left_three h2 0 0; cases hp : Go.Proofs.YtagcbnpahgfgmaaGreat.peel bs n G z with
   | false => exact left_pos (h.good.lt z hz) hp
   | true =>
    obtain ⟨w, hw, _⟩ := beside hz hp; exact left_pos (h.good.lt w ((peel_alive h2).1 hw).1) hw
  ·
   rw [hr v ((peel_alive h2).1 hv).1 e, fin_peel ht irr h.good h2 hv]; constructor
   ·
    rintro ⟨a, b, c⟩; refine ⟨by omega, ?_⟩; rw [show e - (r + 1) = e - r - 1 by omega]; exact c
   ·
    rintro ⟨a, c⟩; refine ⟨by omega, by omega, ?_⟩; rw [show e - r - 1 = e - (r + 1) by omega]; exact c
  ·
   cases hg : G v with
   | false => exact beside hg hgv
   | true =>
    obtain ⟨w, hw, hwf⟩ := h.out v hv hg; cases hp : Go.Proofs.YtagcbnpahgfgmaaGreat.peel bs n G w with
    | false => exact ⟨w, hp, hwf⟩
    | true =>
     obtain ⟨x, hx, hxf⟩ := beside hw hp; refine ⟨x, hx, fun e he => ?_⟩; obtain ⟨a, b⟩ := hwf e he; obtain ⟨c, d⟩ := hxf _ b; refine ⟨a, fun u hu => (d u hu).le (by omega)⟩
 · rw [peel_end h2]; exact h
theorem chain (ht : TreeG bs n) (irr : ∀ i, i ∉ bs i) (hn : 0 < n) (hc : ∀ x y, x < n → y < n → Con bs (· < n) x y) : ∀ k, ChainG bs n (alv bs n k) := by
 intro k
 induction k with
 | zero =>
  refine ⟨⟨fun j hj => (alv_zero j).1 hj, fun x y hx hy => (hc x y ((alv_zero x).1 hx) ((alv_zero y).1 hy)).mono fun a ha => (alv_zero a).2 ha⟩, left_pos hn ((alv_zero 0).2 hn), ⟨0, fun v _ e => ?_⟩, fun v hv h => ?_⟩
  · simp
  · rw [(alv_zero v).2 hv] at h; cases h
 | succ k ih => rw [alv_succ ht]; exact ih.peel ht irr
theorem fin_same {G : Nat → Bool} (ht : TreeG bs n) (hg : GoodG bs n G) (h2 : leftN n G ≤ 2) {v w : Nat} (hv : G v = false) (hw : G w = false) (hne : v ≠ w) {d : Nat} : finW bs G v d ↔ 1 ≤ d := by
 have only : ∀ z, G z = false → z = v ∨ z = w := fun z hz => Classical.byContradiction fun hno => by
  have : z ≠ v ∧ z ≠ w := ⟨fun e => hno (.inl e), fun e => hno (.inr e)⟩
  have m : ∀ x, G x = false → x ∈ (List.range n).filter fun j => !G j := fun x hx => List.mem_filter.2 ⟨List.mem_range.2 (hg.lt x hx), by simp [hx]⟩
  have := nodup_len_le (l := [z, v, w]) (m := (List.range n).filter fun j => !G j) (by simp; exact ⟨this, hne⟩) fun x hx => by
   simp only [List.mem_cons, List.not_mem_nil, or_false] at hx; rcases hx with rfl | rfl | rfl <;> exact m _ (by assumption)
  unfold leftN at h2
  simp only [List.length_cons, List.length_nil] at this
  omega
 constructor
 ·
  intro hf
  match d, hf with
  | 0, hf => exact absurd (hf w hw).zero.symm hne
  | d + 1, _ => omega
 ·
  intro hd
  have hwv : w ∈ bs v := Classical.byContradiction fun hno => by
   have : w = v := Con.closed (· = v) (fun a b ha hab hb => by
    rw [ha] at hab; rcases only b hb with e | e
    · exact e
    · exact absurd (e ▸ hab) hno) rfl (hg.con v w hv hw)
   exact hne this.symm
  intro u hu
  rcases only u hu with rfl | rfl
  · exact (Wi.start (show aliveG G u from hu)).le (by omega)
  · exact ((Wi.start (show aliveG G v from hv)).step hwv hu).le (by omega)
end
def EccW (bs : Nat → List Nat) (n v e : Nat) : Prop := farW bs n v e ∧ ∀ d, farW bs n v d → e ≤ d
theorem mem_centreQ {Q : List Pt} {j : Nat} : j ∈ centreQ Q ↔ alv (besQ Q) Q.length Q.length j = false := by
 unfold centreQ alv
 rw [List.mem_filter, List.mem_range, res_iff]
 simp only [Bool.not_eq_true']
 exact ⟨fun h => ⟨h.2, h.1⟩, fun h => ⟨h.2, h.1⟩⟩
namespace RightQ
variable {Q : List Pt}
theorem cons (h : RightQ Q) {x y : Nat} (hx : x < Q.length) (hy : y < Q.length) : Con (besQ Q) (· < Q.length) x y := by
 have sw : ∀ {a b : Nat}, Con (nbQ Q) (· < Q.length) a b → Con (besQ Q) (· < Q.length) a b := fun {a b} hc => by
  induction hc with
  | refl h0 => exact .refl h0
  | step _ h1 h2 ih => exact ih.step ((mem_besQ h.bes).2 (mem_nbQ.1 h1)) h2
 exact (Con.symm h.treeG.sym (sw (h.con x hx))).trans (sw (h.con y hy))
theorem irr (h : RightQ Q) (i : Nat) : i ∉ besQ Q i := fun hm => (adjQ_iff.1 ((mem_besQ h.bes).1 hm)).1 rfl
theorem chain (h : RightQ Q) : ChainG (besQ Q) Q.length (alv (besQ Q) Q.length Q.length) :=
 Go.Proofs.YtagcbnpahgfgmaaGreat.chain h.treeG h.irr (List.length_pos_iff.2 h.ne) (fun _ _ hx hy => h.cons hx hy) _
theorem centre_len (h : RightQ Q) : 1 ≤ (centreQ Q).length ∧ (centreQ Q).length ≤ 2 := by
 have e : (centreQ Q).length = leftN Q.length (alv (besQ Q) Q.length Q.length) := by
  unfold alv
  rw [left_res]; rfl
 rw [e]
 have := h.chain.pos
 have := left_end h.treeG Q.length
 omega
theorem centre_far (h : RightQ Q) {i j a b : Nat} (hi : i ∈ centreQ Q) (hj : j < Q.length) (ha : EccW (besQ Q) Q.length i a) (hb : EccW (besQ Q) Q.length j b) : (j ∈ centreQ Q → a = b) ∧ (j ∉ centreQ Q → a < b) := by
 have hc := h.chain
 have hl2 : leftN Q.length (alv (besQ Q) Q.length Q.length) ≤ 2 := by
  have := left_end h.treeG Q.length
  omega
 obtain ⟨r, hr⟩ := hc.far
 have same : ∀ {v w : Nat}, alv (besQ Q) Q.length Q.length v = false → alv (besQ Q) Q.length Q.length w = false → ∀ e, farW (besQ Q) Q.length v e → farW (besQ Q) Q.length w e := fun {v w} hv hw e he => by
  by_cases hne : v = w
  · rw [← hne]; exact he
  ·
   obtain ⟨e1, e2⟩ := (hr v hv e).1 he; exact (hr w hw e).2 ⟨e1, (fin_same h.treeG hc.good hl2 hw hv fun e => hne e.symm).2 ((fin_same h.treeG hc.good hl2 hv hw hne).1 e2)⟩
 have hi2 := mem_centreQ.1 hi
 constructor
 ·
  intro hj2
  have hj3 := mem_centreQ.1 hj2
  exact Nat.le_antisymm (ha.2 _ (same hj3 hi2 _ hb.1)) (hb.2 _ (same hi2 hj3 _ ha.1))
 ·
  intro hj2
  have hj3 : alv (besQ Q) Q.length Q.length j = true := by
   cases hk : alv (besQ Q) Q.length Q.length j with
   | true => rfl
   | false => exact absurd (mem_centreQ.2 hk) hj2
  obtain ⟨w, hw, hwf⟩ := hc.out j hj hj3
  obtain ⟨h1, h2⟩ := hwf _ hb.1
  have := ha.2 _ (same hw hi2 _ h2)
  omega
end RightQ
end Go.Proofs.YtagcbnpahgfgmaaGreat
namespace Go.Proofs.YtagcbnpahgfgmaaGreat
def updN (f : Nat → Option Nat) (z d : Nat) : Nat → Option Nat := fun x => if x = z then some d else f x
theorem updN_same (f : Nat → Option Nat) (z d : Nat) : updN f z d z = some d := by simp [updN]
theorem updN_ne (f : Nat → Option Nat) {z x : Nat} (d : Nat) (h : x ≠ z) : updN f z d x = f x := by simp [updN, h]
def fZ (f : Nat → Option Nat) : Int → Option Int := fun x => if 0 ≤ x then (f x.toNat).map fun d : Nat => (d : Int) else none
theorem fZ_at (f : Nat → Option Nat) (u : Nat) : fZ f (u : Int) = (f u).map fun d : Nat => (d : Int) := by
 unfold fZ
 rw [if_pos (by omega)]; simp
theorem fZ_upd (f : Nat → Option Nat) (z d : Nat) : updF (fZ f) (z : Int) (d : Int) = fZ (updN f z d) := by
 funext x
 unfold updF fZ updN
 by_cases h : x = (z : Int)
 · subst h; simp
 ·
  rw [if_neg h]
  by_cases h0 : 0 ≤ x
  · rw [if_pos h0, if_pos h0, if_neg (by omega)]
  · rw [if_neg h0, if_neg h0]
structure BfI (bs : Nat → List Nat) (n v : Nat) (P q : List Nat) (f : Nat → Option Nat) (last : Nat) : Prop where
 seen : ∀ u, (f u).isSome = true ↔ u ∈ P ++ q
 nd : (P ++ q).Nodup
 lt : ∀ u ∈ P ++ q, u < n
 sound : ∀ u d, f u = some d → Wi bs (· < n) v d u
 start : f v = some 0
 closed : ∀ u ∈ P, ∀ d, f u = some d → ∀ z ∈ bs u, ∃ e, f z = some e ∧ e ≤ d + 1
 low : ∀ u ∈ P, ∀ d, f u = some d → d ≤ last
 top : ∃ u, f u = some last
 near : ∀ u ∈ q, ∀ d, f u = some d → last ≤ d ∧ d ≤ last + 1
 ord : q.Pairwise fun a b => ∀ d e, f a = some d → f b = some e → d ≤ e
structure BfJ (bs : Nat → List Nat) (n v : Nat) (P : List Nat) (i : Nat) (pre q : List Nat) (f : Nat → Option Nat) (last : Nat) : Prop where
 seen : ∀ u, (f u).isSome = true ↔ u ∈ P ++ i :: q
 nd : (P ++ i :: q).Nodup
 lt : ∀ u ∈ P ++ i :: q, u < n
 sound : ∀ u d, f u = some d → Wi bs (· < n) v d u
 start : f v = some 0
 closed : ∀ u ∈ P, ∀ d, f u = some d → ∀ z ∈ bs u, ∃ e, f z = some e ∧ e ≤ d + 1
 part : ∀ z ∈ pre, ∃ e, f z = some e ∧ e ≤ last + 1
 low : ∀ u ∈ P, ∀ d, f u = some d → d ≤ last
 cur : f i = some last
 near : ∀ u ∈ q, ∀ d, f u = some d → last ≤ d ∧ d ≤ last + 1
 ord : q.Pairwise fun a b => ∀ d e, f a = some d → f b = some e → d ≤ e
section
variable {bs : Nat → List Nat} {n v i : Nat} {P q pre : List Nat} {f : Nat → Option Nat} {last : Nat}
theorem BfI.begin (hv : v < n) : BfI bs n v [] [v] (updN (fun _ => none) v 0) 0 := by
 have at_ : ∀ u d, updN (fun _ => none) v 0 u = some d → u = v ∧ d = 0 := fun u d h => by
  unfold updN at h
  split at h
  · cases h; exact ⟨by assumption, rfl⟩
  · cases h
 refine ⟨fun u => ?_, by simp, fun u hu => ?_, fun u d h => ?_, updN_same _ _ _, by simp, by simp, ⟨v, updN_same _ _ _⟩, fun u _ d h => ?_, by simp⟩
 ·
  unfold updN
  by_cases h : u = v <;> simp [h]
 · simp at hu; subst hu; exact hv
 · obtain ⟨rfl, rfl⟩ := at_ u d h; exact .start hv
 · obtain ⟨_, rfl⟩ := at_ u d h; omega
theorem BfI.pop (h : BfI bs n v P (i :: q) f last) : ∃ d, f i = some d ∧ d ≤ last + 1 ∧ BfJ bs n v P i [] q f d := by
 have hs := (h.seen i).2 (by simp)
 obtain ⟨d, hd⟩ := Option.isSome_iff_exists.1 hs
 have hn := h.near i (by simp) d hd
 have ho := List.pairwise_cons.1 h.ord
 refine ⟨d, hd, hn.2, h.seen, h.nd, h.lt, h.sound, h.start, h.closed, by simp, fun u hu e he => ?_, hd, fun u hu e he => ?_, ho.2⟩
 · have := h.low u hu e he; omega
 ·
  have h1 := ho.1 u hu d e hd he
  have h2 := h.near u (by simp [hu]) e he
  omega
theorem BfJ.old (h : BfJ bs n v P i pre q f last) {z : Nat} (hz : (f z).isSome = true) : BfJ bs n v P i (pre ++ [z]) q f last := by
 refine { h with part := fun x hx => ?_ }
 rcases List.mem_append.1 hx with hx | hx
 · exact h.part x hx
 ·
  simp at hx; subst hx
  obtain ⟨e, he⟩ := Option.isSome_iff_exists.1 hz
  refine ⟨e, he, ?_⟩
  rcases List.mem_append.1 ((h.seen x).1 hz) with h1 | h1
  · have := h.low x h1 e he; omega
  ·
   rcases List.mem_cons.1 h1 with rfl | h1
   · rw [h.cur] at he; cases he; omega
   · exact (h.near x h1 e he).2
theorem BfJ.new (h : BfJ bs n v P i pre q f last) {z : Nat} (hz : f z = none) (hzb : z ∈ bs i) (hzn : z < n) : BfJ bs n v P i (pre ++ [z]) (q ++ [z]) (updN f z (last + 1)) last := by
 have hno : z ∉ P ++ i :: q := fun hm => by have := (h.seen z).2 hm; rw [hz] at this; cases this
 have keep : ∀ {u d}, f u = some d → updN f z (last + 1) u = some d := fun {u d} hu => by
  rw [updN_ne _ _ (fun e => by rw [e, hz] at hu; cases hu)]; exact hu
 have back : ∀ {u d}, updN f z (last + 1) u = some d → (u = z ∧ d = last + 1) ∨ (u ≠ z ∧ f u = some d) := fun {u d} hu => by
  by_cases e : u = z
  · subst e; rw [updN_same] at hu; cases hu; exact .inl ⟨rfl, rfl⟩
  · rw [updN_ne _ _ e] at hu; exact .inr ⟨e, hu⟩
 have memz : ∀ u, u ∈ P ++ i :: (q ++ [z]) ↔ u ∈ P ++ i :: q ∨ u = z := fun u => by simp [or_assoc]
 have old : ∀ {u}, u ∈ P ++ i :: q → u ≠ z := fun {u} hu e => hno (e ▸ hu)
 refine ⟨fun u => ?_, ?_, fun u hu => ?_, fun u d hu => ?_, keep h.start, fun u hu d hd x hx => ?_, fun x hx => ?_, fun u hu d hd => ?_, keep h.cur, fun u hu d hd => ?_, ?_⟩
 ·
  rw [memz]
  by_cases e : u = z
  · subst e; rw [updN_same]; simp
  · rw [updN_ne _ _ e, h.seen]; simp [e]
 ·
  rw [show P ++ i :: (q ++ [z]) = (P ++ i :: q) ++ [z] by simp, List.nodup_append]
  exact ⟨h.nd, by simp, fun a ha b hb e => by simp at hb; subst hb; subst e; exact hno ha⟩
 ·
  rcases (memz u).1 hu with hu | rfl
  · exact h.lt u hu
  · exact hzn
 ·
  rcases back hu with ⟨rfl, rfl⟩ | ⟨_, hu⟩
  · exact (h.sound i last h.cur).step hzb hzn
  · exact h.sound u d hu
 ·
  rcases back hd with ⟨rfl, _⟩ | ⟨_, hd⟩
  · exact absurd (List.mem_append_left _ hu) hno
  ·
   obtain ⟨e, he, hle⟩ := h.closed u hu d hd x hx; exact ⟨e, keep he, hle⟩
 ·
  rcases List.mem_append.1 hx with hx | hx
  ·
   obtain ⟨e, he, hle⟩ := h.part x hx; exact ⟨e, keep he, hle⟩
  ·
   simp at hx; subst hx; exact ⟨_, updN_same _ _ _, Nat.le_refl _⟩
 ·
  rcases back hd with ⟨rfl, _⟩ | ⟨_, hd⟩
  · exact absurd (List.mem_append_left _ hu) hno
  · exact h.low u hu d hd
 ·
  rcases back hd with ⟨rfl, rfl⟩ | ⟨hne, hd⟩
  · omega
  ·
   rcases List.mem_append.1 hu with hu | hu
   · exact h.near u hu d hd
   · simp at hu; exact absurd hu hne
 ·
  rw [List.pairwise_append]
  refine ⟨h.ord.imp_of_mem fun {a b} ha hb hab d e hd he => ?_, by simp, fun a ha b hb d e hd he => ?_⟩
  ·
   rcases back hd with ⟨rfl, _⟩ | ⟨_, hd⟩
   · exact absurd (by simp [ha]) hno
   ·
    rcases back he with ⟨rfl, _⟩ | ⟨_, he⟩
    · exact absurd (by simp [hb]) hno
    · exact hab d e hd he
  ·
   simp at hb; subst hb; rw [updN_same] at he; cases he; rcases back hd with ⟨rfl, _⟩ | ⟨_, hd⟩
   · exact absurd (by simp [ha]) hno
   · exact (h.near a ha d hd).2
theorem BfJ.done (h : BfJ bs n v P i (bs i) q f last) : BfI bs n v (P ++ [i]) q f last := by
 have e : ∀ u, u ∈ (P ++ [i]) ++ q ↔ u ∈ P ++ i :: q := fun u => by simp [or_assoc]
 refine ⟨fun u => by rw [e]; exact h.seen u, by simpa using h.nd, fun u hu => h.lt u ((e u).1 hu), h.sound, h.start, fun u hu d hd z hz => ?_, fun u hu d hd => ?_, ⟨i, h.cur⟩, h.near, h.ord⟩
 ·
  rcases List.mem_append.1 hu with hu | hu
  · exact h.closed u hu d hd z hz
  ·
   simp at hu; subst hu; rw [h.cur] at hd; cases hd; exact h.part z hz
 ·
  rcases List.mem_append.1 hu with hu | hu
  · exact h.low u hu d hd
  ·
   simp at hu; subst hu; rw [h.cur] at hd; cases hd; exact Nat.le_refl _
theorem BfJ.len (h : BfJ bs n v P i pre q f last) : P.length + 1 + q.length ≤ n := by
 have := nodup_len_le h.nd (m := List.range n) fun u hu => List.mem_range.2 (h.lt u hu)
 simp at this; omega
theorem BfI.end (h : BfI bs n v P [] f last) (hc : ∀ x y, x < n → y < n → Con bs (· < n) x y) : EccW bs n v last := by
 have inP : ∀ {u d}, f u = some d → u ∈ P := fun {u d} hu => by
  have := (h.seen u).1 (by rw [hu]; rfl)
  simpa using this
 have full : ∀ {d u}, Wi bs (· < n) v d u → ∃ e, f u = some e ∧ e ≤ d := fun {d u} hw => by
  induction hw with
  | start _ => exact ⟨0, h.start, Nat.le_refl _⟩
  | stay _ ih =>
   obtain ⟨e, he, hle⟩ := ih; exact ⟨e, he, by omega⟩
  | step _ hz _ ih =>
   obtain ⟨e, he, hle⟩ := ih; obtain ⟨e', he', hle'⟩ := h.closed _ (inP he) e he _ hz; exact ⟨e', he', by omega⟩
 have hvn := h.lt v (by simpa using inP h.start)
 refine ⟨fun u hu => ?_, fun d hd => ?_⟩
 ·
  have hun := (alv_zero u).1 hu
  obtain ⟨d, hw⟩ := Wi.of_con (hc v u hvn hun)
  obtain ⟨e, he, _⟩ := full hw
  exact ((h.sound u e he).le (h.low u (inP he) e he)).mono fun x hx => (alv_zero x).2 hx
 ·
  obtain ⟨u, hu⟩ := h.top
  have hun := h.lt u (by simpa using inP hu)
  obtain ⟨e, he, hle⟩ := full ((hd u ((alv_zero u).2 hun)).mono fun x hx => (alv_zero x).1 hx)
  rw [hu] at he; cases he; exact hle
end
end Go.Proofs.YtagcbnpahgfgmaaGreat
namespace Go.Proofs.YtagcbnpahgfgmaaGreat
open Go Go.RowKit
theorem Row.snoc {w : World} {g cap : Nat} {e : TypeId} {vs : List Value} (h : Row w g e 1 cap vs) (hr : vs.length < cap) (x : Value) : Row (w.setCell ⟨g, vs.length, none⟩ x) g e 1 cap (vs ++ [x]) := by
 obtain ⟨cur, hg, hs, hl, hm, ht⟩ := h
 refine ⟨cur.setIfInBounds vs.length x, heap_setCell_same w g vs.length cur e x hg, by simpa using hs, by simp; omega, hm, ?_⟩
 have hlen : vs.length < cur.toList.length := by simp; omega
 rw [Array.toList_setIfInBounds, List.length_append, List.length_singleton, List.take_succ_eq_append_getElem (by simpa using hlen)]
 simp only [List.getElem_set_self, List.take_set]
 rw [ht, List.set_eq_of_length_le (Nat.le_refl _)]
def Tail (w : World) (v : Value) (e : TypeId) (vs : List Value) : Prop :=
 ∃ g o cap C all, v = .slice (some ⟨g, o, none⟩) vs.length cap ∧ Row w g e 1 C all ∧ o + cap ≤ C ∧ all.length = o + vs.length ∧ all.drop o = vs ∧ vs.length ≤ cap
theorem Tail.below {w w' : World} {v : Value} {e : TypeId} {vs : List Value} (h : Tail w v e vs) (hb : Below w.heap.size w w') : Tail w' v e vs := by
 obtain ⟨g, o, cap, C, all, rfl, hr, r⟩ := h
 exact ⟨g, o, cap, C, all, rfl, hr.below hb hr.lt, r⟩
theorem Tail.grown {w w' : World} {v : Value} {e : TypeId} {vs : List Value} {B : Nat} (h : Tail w v e vs) (hg : w.grownBy w' (some B)) (hne : ∀ b, v.ownBlock = some b → B < b) : Tail w' v e vs := by
 obtain ⟨g, o, cap, C, all, rfl, hr, r⟩ := h
 exact ⟨g, o, cap, C, all, rfl, hr.grown hg (fun e => by have := hne g rfl; cases e; omega), r⟩
theorem Tail.alloc {w : World} {v : Value} {e : TypeId} {vs : List Value} (h : Tail w v e vs) (ob : Obj) : Tail (w.alloc ob) v e vs := by
 obtain ⟨g, o, cap, C, all, rfl, hr, r⟩ := h
 exact ⟨g, o, cap, C, all, rfl, hr.alloc ob, r⟩
theorem grown_tailCell (w : World) (g o : Nat) (u : Value) : w.grownBy (w.setCell ⟨g, o, none⟩ u) (some g) :=
 ⟨rfl, rfl, rfl, by simp, fun k _ hne => Below.heap_setCell w ⟨g, o, none⟩ u k (fun e => hne (by rw [e]))⟩
theorem run_append_tail {P : Program} (w : World) (t ty e : TypeId) (i : TypeInfo) (z : Value) (bytes : Nat) (ht : P.underlying t = some (.slice e)) (hi : P.info? e = some i) (hz : i.zero = some z)
  (hsize : i.size = 1) (hby : i.bytes = bytes) (hzs : z.cells.size = 1) (v : Value) (vs : List Value) (h : Tail w v e vs)
  (a : Addr) (c : Nat) (x : Value) (hx : w.cell? (a.add 0) = some x) (h1 : x.oneCell' = true) (h63 : vs.length + 1 ≤ maxLen) (hbytes : (vs.length + 1) * bytes ≤ 140737488355328) :
  ∃ v' w', (Builtin.append_ #[t, t] ty #[v, .slice (some a) 1 c]).run P w = .ok v' w' ∧ Tail w' v' e (vs ++ [x]) ∧ w.grownBy w' v.ownBlock ∧ (∀ b, v'.ownBlock = some b → v.ownBlock = some b ∨ w.heap.size ≤ b) := by
 have hnews : ∀ j u, [x][j]? = some u → w.cell? (a.add j) = some u := fun j u hu => by
  match j, hu with
  | 0, hu => simp at hu; subst hu; exact hx
  | j + 1, hu => simp at hu
 obtain ⟨g, o, cap, C, all, rfl, hr, hC, hl, hd, hc⟩ := h
 by_cases hroom : vs.length + 1 ≤ cap
 ·
  have hr2 := hr
  obtain ⟨cur, hg, hs, _, _, _⟩ := hr2
  have hrun := run_append_room_cells (P := P) w t ty e i ht hi g o vs.length cap a 1 c [x] (by simp [hsize]) hnews (fun u hu => by simp at hu; subst hu; exact h1) hroom
   (fun j hj => by
    simp at hj; subst hj
    rw [cell_of_row w g _ cur e (0, 0) hg, hsize, Array.getElem?_eq_getElem (by omega)]; rfl)
   (fun j hj => hr.frozen _)
  rw [hsize, Nat.mul_one] at hrun
  have hsn := hr.snoc (by omega) x
  rw [hl] at hsn
  refine ⟨_, _, hrun, ⟨g, o, cap, C, all ++ [x], by simp, hsn, hC, by simp; omega, ?_, by simpa using hroom⟩, grown_tailCell w g _ _, fun b hb => .inl hb⟩
  rw [List.drop_append_of_le_length (by omega), hd]
 ·
  have holds : ∀ j u, vs[j]? = some u → w.cell? ((⟨g, o, none⟩ : Addr).add j) = some u := fun j u hu => by
   have hj : j < vs.length := (List.getElem?_eq_some_iff.1 hu).1; have hadd : (⟨g, o, none⟩ : Addr).add j = ⟨g, o + j, none⟩ := by unfold Addr.add; split <;> simp_all
   rw [hadd, hr.cell? (o + j) (by omega), ← hu, ← hd, List.getElem?_drop]
  obtain ⟨v', w', hrun, how, hgr⟩ := run_append_arg_grows (P := P) w t ty e i z 1 bytes ht hi hz hsize hby hzs (by omega) ⟨g, o, none⟩ vs.length cap vs (by simp) holds a 1 c [x] (by simp) hnews (by omega) h63 hbytes
  obtain ⟨hn, ⟨_, h0⟩ | ⟨g', cap', cur, rfl, hb, hg', hc', hm', hs', ht'⟩⟩ := how
  · omega
  ·
   refine ⟨_, _, hrun, ⟨g', 0, cap', cap', vs ++ [x], by simp, ⟨cur, hg', by simpa using hs', by simp; omega, by simpa using hm', ?_⟩, by omega, by simp, by simp, by simpa using hc'⟩, { hgr with block := fun k hk _ => hgr.block k hk (by simp) }, fun b hb' => ?_⟩
   · simpa using ht'
   ·
    right; simp [Value.ownBlock] at hb'; omega
end Go.Proofs.YtagcbnpahgfgmaaGreat
namespace Go.Proofs.YtagcbnpahgfgmaaGreat
open Go Go.RowKit Go.Sort
def lkCells (ls : List Lk) : List Value := ls.flatMap fun k => [.int .i64 k.1, .int .i64 k.2.1, .int .i64 k.2.2]
def lkV (k : Lk) : Value := .agg #[.int .i64 k.1, .int .i64 k.2.1, .int .i64 k.2.2]
def RdL (w : World) (a : Option Addr) (ls : List Lk) : Prop := CellsAt w a (lkCells ls)
theorem lkCells_length (ls : List Lk) : (lkCells ls).length = ls.length * 3 := by
 induction ls with
 | nil => rfl
 | cons e ls ih => simp only [lkCells, List.flatMap_cons, List.length_append, List.length_cons, List.length_nil] at ih ⊢; omega
theorem lkCells_append (a b : List Lk) : lkCells (a ++ b) = lkCells a ++ lkCells b := by simp [lkCells]
theorem lkCells_get (ls : List Lk) (i : Nat) (h : i < ls.length) :
  (lkCells ls)[i * 3]? = some (.int .i64 ls[i].1) ∧ (lkCells ls)[i * 3 + 1]? = some (.int .i64 ls[i].2.1) ∧ (lkCells ls)[i * 3 + 2]? = some (.int .i64 ls[i].2.2) := by
 induction ls generalizing i with
 | nil => simp at h
 | cons e ls ih =>
  cases i with
  | zero => simp [lkCells]
  | succ i =>
   have := ih i (by simpa using h); have e1 : (i + 1) * 3 = i * 3 + 1 + 1 + 1 := by omega
   simp only [lkCells, List.flatMap_cons, List.cons_append, List.nil_append, List.getElem_cons_succ] at this ⊢; rw [e1]; simpa using this
theorem RdL.at {w : World} {a : Option Addr} {ls : List Lk} (h : RdL w a ls) (i : Nat) (hi : i < ls.length) :
  ∃ b o, a = some ⟨b, o, none⟩ ∧ w.cell? ⟨b, o + i * 3, none⟩ = some (.int .i64 ls[i].1) ∧ w.cell? ⟨b, o + i * 3 + 1, none⟩ = some (.int .i64 ls[i].2.1) ∧ w.cell? ⟨b, o + i * 3 + 2, none⟩ = some (.int .i64 ls[i].2.2) := by
 obtain ⟨h1, h2, h3⟩ := lkCells_get ls i hi
 obtain ⟨b, o, ha, hc⟩ := h _ _ h1
 obtain ⟨b', o', ha', hc'⟩ := h _ _ h2
 obtain ⟨b'', o'', ha'', hc''⟩ := h _ _ h3
 rw [ha] at ha' ha''
 simp only [Option.some.injEq, Addr.mk.injEq, and_true] at ha' ha''
 obtain ⟨rfl, rfl⟩ := ha'
 obtain ⟨rfl, rfl⟩ := ha''
 exact ⟨b, o, ha, hc, by simpa [Nat.add_assoc] using hc', by simpa [Nat.add_assoc] using hc''⟩
theorem RdL.below {w w' : World} {a : Option Addr} {ls : List Lk} (h : RdL w a ls) (hb : Below w.heap.size w w') : RdL w' a ls := CellsAt.below h hb
theorem rdL_nil (w : World) (a : Option Addr) : RdL w a [] := by intro i u hu; simp [lkCells] at hu
theorem below_grow (w : World) (q : Nat) (os : Array Obj) : Below w.heap.size w (grow (w.drewN q) os) := by
 refine Below.trans (below_drewN (Below.refl _ _) q) ?_
 refine ⟨rfl, rfl, rfl, by simp [grow], fun k hk => ?_⟩
 exact heap_grow_old _ _ (by simpa using hk)
theorem compare_any (a b : Int) (w : World) :
  Calls Tryz.prog 79 #[.int .i64 a, .int .i64 b] w fun e w' => e = .returned (.int .i64 (cmpI a b)) ∧ w = w' := by
 go_enter Tryz.func79, Tryz.ntmps79
 go_wp2
 ·
  have h : a < b := by assumption
  go_ret
  exact ⟨by simp [cmpI, h], rfl⟩
 ·
  have h : b < a := by assumption
  go_ret
  exact ⟨by simp [cmpI, h, show ¬ a < b by omega], rfl⟩
 ·
  have h : a ≤ b := by assumption
  have h : b ≤ a := by assumption
  go_ret
  exact ⟨by simp [cmpI, show ¬ a < b by omega, show ¬ b < a by omega], rfl⟩
theorem lcompare_grow (x y : Lk) (w : World) :
  Calls Tryz.prog 49 #[lkV x, lkV y] w
   fun e w' => e = .returned (.int .i64 (cmpL x y)) ∧ ∃ q os, w' = grow (w.drewN q) os := by
 obtain ⟨a1, a2, a3⟩ := x
 obtain ⟨b1, b2, b3⟩ := y
 unfold lkV
 dsimp only
 have e1 : cmpL (a1, a2, a3) (b1, b2, b3) = orI (cmpI a1 b1) (orI (cmpI a2 b2) (cmpI a3 b3)) := rfl
 rw [e1]; clear e1
 have c1 := fun w => compare_any a1 b1 w
 have c2 := fun w => compare_any a2 b2 w
 have c3 := fun w => compare_any a3 b3 w
 generalize cmpI a1 b1 = u1 at c1 ⊢
 generalize cmpI a2 b2 = u2 at c2 ⊢
 generalize cmpI a3 b3 = u3 at c3 ⊢
 by_cases h1 : u1 = 0
 ·
  subst h1
  by_cases h2 : u2 = 0
  ·
   subst h2; go_enter Tryz.func49, Tryz.ntmps49; go_wp2_with fail; refine (c1 _).mono ?_; rintro e w' ⟨rfl, rfl⟩; go_wp2_with fail; refine (c2 _).mono ?_; rintro e w' ⟨rfl, rfl⟩; go_wp2_with fail; refine (c3 _).mono ?_; rintro e w' ⟨rfl, rfl⟩; go_wp2_with fail; go_ret; exact ⟨rfl, 0, _, by rw [alloc_eq_grow, alloc_eq_grow, grow_grow]; rfl⟩
  ·
   have g2 : (u2 != 0) = true := by simpa using h2
   go_enter Tryz.func49, Tryz.ntmps49; go_wp2_with fail; refine (c1 _).mono ?_; rintro e w' ⟨rfl, rfl⟩; go_wp2_with fail; refine (c2 _).mono ?_; rintro e w' ⟨rfl, rfl⟩; go_wp2_with fail; go_ret; exact ⟨by simp [orI, h2], 0, _, by rw [alloc_eq_grow, alloc_eq_grow, grow_grow]; rfl⟩
 ·
  have g1 : (u1 != 0) = true := by simpa using h1
  go_enter Tryz.func49, Tryz.ntmps49
  go_wp2_with fail
  refine (c1 _).mono ?_; rintro e w' ⟨rfl, rfl⟩
  go_wp2_with fail
  go_ret
  exact ⟨by simp [orI, h1], 0, _, by rw [alloc_eq_grow, alloc_eq_grow, grow_grow]; rfl⟩
theorem lcompare_any (a1 a2 a3 b1 b2 b3 : Int) (w : World) :
  Calls Tryz.prog 49 #[.agg #[.int .i64 a1, .int .i64 a2, .int .i64 a3], .agg #[.int .i64 b1, .int .i64 b2, .int .i64 b3]] w
   fun e w' => e = .returned (.int .i64 (cmpL (a1, a2, a3) (b1, b2, b3))) ∧ Below w.heap.size w w' :=
 (lcompare_grow (a1, a2, a3) (b1, b2, b3) w).mono fun _ _ ⟨he, q, os, hw⟩ => ⟨he, by rw [hw]; exact below_grow _ _ _⟩
set_option maxHeartbeats 1000000 in
theorem lright_walk (a : Option Addr) (cap : Nat) (ls : List Lk) (w : World) (hr : RdL w a ls) (hcap : ls.length ≤ 9223372036854775807) :
  Calls Tryz.prog 66 #[.slice a ls.length cap] w
   fun e w' => e = .returned (.bool (rightL ls)) ∧ Below w.heap.size w w' := by
 by_cases hg : ls.length ≤ 1000
 ·
  go_enter Tryz.func66, Tryz.ntmps66
  go_wp2_with fail
  go_loopg [10] ls.length (fun r i wr => ∃ k : Nat, k + r = ls.length ∧ i = .int .i64 k ∧ Below w.heap.size w wr ∧
   (∀ j (h : j < ls.length), j < k → OkL ls[j]) ∧ (∀ j (h : j + 1 < ls.length), j + 1 < k → LtL ls[j] ls[j+1]))
  case atStart => exact ⟨0, by omega, rfl, Below.refl _ _, fun j _ h => absurd h (by omega), fun j _ h => absurd h (by omega)⟩
  case round =>
   obtain ⟨k, hk, rfl, hB, hok, hris⟩ := hrel; by_cases hlt : k < ls.length
   ·
    obtain ⟨b, o, rfl, c0, c1, c2⟩ := (hr.below hB).at k hlt; obtain ⟨⟨x, y, z⟩, hx⟩ : ∃ x : Lk, ls[k] = x := ⟨_, rfl⟩
    rw [hx] at c0 c1 c2; simp only at c0 c1 c2; by_cases he : OkL (x, y, z)
    ·
     obtain ⟨e0, e1, e2, e3, e4⟩ := he; simp only at e0 e1 e2 e3 e4; have hend : ∀ j (h : j < ls.length), j < k + 1 → OkL ls[j] := by
      intro j h hj; by_cases hjk : j < k
      · exact hok j h hjk
      ·
       obtain rfl : j = k := by omega
       rw [hx]; exact ⟨e0, e1, e2, e3, e4⟩
     by_cases hk0 : k = 0
     ·
      subst hk0; simp only [Nat.zero_mul, Nat.add_zero] at c0 c1 c2; have Hx := Lib.hid hx; clear hx; have Hend := Lib.hid hend; have Hok := Lib.hid hok; have Hris := Lib.hid hris; clear hend hok hris; go_wp2_with fail; go_quiet (fail)
      go_wp2; go_roundg (gk - 1)
      case measure => omega
      case rel => exact ⟨0 + 1, by omega, rfl, below_drewN (hB.alloc (by have := hB.size; omega) _) _, Hend.out, fun j _ h => absurd h (by omega)⟩
     ·
      obtain ⟨m, rfl⟩ : ∃ m, k = m + 1 := ⟨k - 1, by omega⟩
      obtain ⟨b', o', hbo, p0, p1, p2⟩ := (hr.below hB).at m (by omega); simp only [Option.some.injEq, Addr.mk.injEq, and_true] at hbo; obtain ⟨rfl, rfl⟩ := hbo; obtain ⟨⟨p, q, s⟩, hp⟩ : ∃ x : Lk, ls[m]'(by omega) = x := ⟨_, rfl⟩
      rw [hp] at p0 p1 p2; simp only at p0 p1 p2; have hmr : m + 1 < ls.length := hlt; have Hx := Lib.hid hx; have Hp := Lib.hid hp; clear hx hp; have Hend := Lib.hid hend; have Hok := Lib.hid hok; have Hris := Lib.hid hris; clear hend hok hris; go_wp2_with fail; have i1 : IntKind.i64.wrap ((m : Int) + 1 - 1) = (m : Int) := by rw [show ((m : Int) + 1 - 1) = m by omega]; exact IntWalk.i64_in _ (by omega)
      have i2 : IntKind.i64.wrap (m : Int) = (m : Int) := IntWalk.i64_in _ (by omega); have i3 : (0 : Int) ≤ (m : Int) := by omega
      have i4 : (m : Int) < (ls.length : Int) := by omega
      have i5 : m < ls.length := by omega
      go_region_held3 (fun w' => w'.cell? ⟨b, o + m * 3, none⟩ = some (.int .i64 p) ∧ w'.cell? ⟨b, o + m * 3 + 1, none⟩ = some (.int .i64 q) ∧ w'.cell? ⟨b, o + m * 3 + 2, none⟩ = some (.int .i64 s) ∧
       w'.cell? ⟨wr.heap.size, 0, none⟩ = some (.int .i64 x) ∧ w'.cell? ⟨wr.heap.size, 1, none⟩ = some (.int .i64 y) ∧ w'.cell? ⟨wr.heap.size, 2, none⟩ = some (.int .i64 z)) (first | (refine ⟨?_, ?_, ?_, ?_, ?_, ?_⟩ <;> (refine keep_cell (by assumption) ?_; simp [*]; done)) | go_keep)
       (first | (go_at_call 49; refine (lcompare_any _ _ _ _ _ _ _).mono ?_; rintro e w' ⟨rfl, hbw⟩))
      go_wp2
      ·
       have hge : 0 ≤ cmpL (p, q, s) (x, y, z) := by assumption
       go_ret; refine ⟨?_, bl_trans ((hB.alloc (by have := hB.size; omega) _).drew) hbw⟩; rw [rightL_false]; rfl; intro h; have h1 := ((rightL_at _).1 ((rightL_iff _).2 h)).2.2 m hmr; rw [Hx.out, Hp.out, ← cmpL_neg] at h1; omega
      ·
       have hge : cmpL (p, q, s) (x, y, z) < 0 := by assumption
       go_roundg (gk - 1)
       case measure => omega
       case rel =>
        refine ⟨m + 1 + 1, by omega, by go_num, bl_trans ((hB.alloc (by have := hB.size; omega) _).drew) hbw, Hend.out, ?_⟩; intro j h hj; by_cases hjm : j + 1 < m + 1
        · exact Hris.out j h hjm
        ·
         obtain rfl : j = m := by omega
         rw [Hx.out, Hp.out, ← cmpL_neg]; exact hge
    ·
     have hno : rightL ls = false := rightL_false fun h => he (by rw [← hx]; exact h.2.1 _ (List.getElem_mem hlt)); have Hx := Lib.hid hx; clear hx; have Hno := Lib.hid hno; clear hno hok hris; unfold OkL at he; simp only at he; go_wp2_with fail; all_goals
      go_ret; exact ⟨by rw [Hno.out]; rfl, hB.alloc (by have := hB.size; omega) _⟩
   ·
    have hkl : k = ls.length := by omega
    have hyes : rightL ls = true := by
     rw [rightL_at]; exact ⟨hg, fun j h => hok j h (by omega), fun j h => hris j h (by omega)⟩
    have Hyes := Lib.hid hyes; clear hyes hok hris hkl; go_wp2_with fail; go_ret; exact ⟨by rw [Hyes.out]; rfl, hB⟩
 ·
  have hno : rightL ls = false := rightL_false fun h => hg h.1
  rw [hno]
  go_enter Tryz.func66, Tryz.ntmps66
  go_wp2_with fail
  all_goals
   go_ret; exact ⟨rfl, bl_refl _⟩
end Go.Proofs.YtagcbnpahgfgmaaGreat
