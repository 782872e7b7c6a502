/- Facts that the claim rests on, part 4. -/
import Derived.Test.YtagcbnpahgfgmaaGreatK02
namespace Go.Proofs.YtagcbnpahgfgmaaGreat
def newP (l : List Oc) (p : Oc) : List (Nat × Nat) := if p.2.2.2 = 0 then [] else match atV p.2.2.2 l with
 | [a] => [(a.1, p.1)]
 | _ => []
def pairsO (l : List Oc) : List (Nat × Nat) := (List.range l.length).flatMap fun m => match l[m]? with
 | some p => newP (l.take m) p
 | none => []
theorem pairsO_snoc (l : List Oc) (p : Oc) : pairsO (l ++ [p]) = pairsO l ++ newP l p := by
 unfold pairsO
 rw [List.length_append, List.length_singleton, List.range_succ, List.flatMap_append]
 congr 1
 ·
  simp only [List.flatMap_def]
  congr 1
  refine List.map_congr_left fun m hm => ?_
  have hm' := List.mem_range.1 hm
  rw [List.getElem?_append_left hm', List.take_append_of_le_length (by omega)]
 · simp
theorem pairsO_nil : pairsO [] = [] := by simp [pairsO]
def outO (E : List (Nat × Nat)) (k : Nat) : List Nat := E.flatMap fun ab => (if ab.2 = k then [ab.1] else []) ++ (if ab.1 = k then [ab.2] else [])
theorem outO_append (E G : List (Nat × Nat)) (k : Nat) : outO (E ++ G) k = outO E k ++ outO G k := by unfold outO; rw [List.flatMap_append]
theorem outO_one (a b k : Nat) : outO [(a, b)] k = (if b = k then [a] else []) ++ (if a = k then [b] else []) := by simp [outO]
theorem outO_nil (k : Nat) : outO [] k = [] := by simp [outO]
theorem newP_len (l : List Oc) (p : Oc) : (newP l p).length ≤ 1 := by
 unfold newP
 split
 · simp
 · split <;> simp
theorem pairsO_len (l : List Oc) : (pairsO l).length ≤ l.length := by
 induction l using snoc_ind with
 | nil => simp [pairsO_nil]
 | snoc l p ih =>
  rw [pairsO_snoc, List.length_append, List.length_append, List.length_singleton]
  have := newP_len l p
  omega
theorem outO_len (E : List (Nat × Nat)) (k : Nat) : (outO E k).length ≤ 2 * E.length := by
 induction E with
 | nil => simp [outO]
 | cons a E ih =>
  unfold outO at ih ⊢
  rw [List.flatMap_cons, List.length_append, List.length_append, List.length_cons]
  have h1 : (if a.2 = k then [a.1] else []).length ≤ 1 := by split <;> simp
  have h2 : (if a.1 = k then [a.2] else []).length ≤ 1 := by split <;> simp
  omega
theorem newP_zero {l : List Oc} {p : Oc} (h : p.2.2.2 = 0) : newP l p = [] := by unfold newP; rw [if_pos h]
theorem newP_first {l : List Oc} {p : Oc} (h : atV p.2.2.2 l = []) : newP l p = [] := by unfold newP; rw [h]; split <;> rfl
theorem newP_second {l : List Oc} {p a : Oc} (h0 : p.2.2.2 ≠ 0) (h : atV p.2.2.2 l = [a]) : newP l p = [(a.1, p.1)] := by unfold newP; rw [if_neg h0, h]
def heldF (l : List Oc) (v : Int) : Option (Nat × Nat × Lk) := (atV v l).getLast?.map fun p => (p.1, (atV v l).length, p.2)
theorem heldF_snoc (l : List Oc) (p : Oc) (v : Int) : heldF (l ++ [p]) v = if p.2.2.2 = v then some (p.1, (atV v l).length + 1, p.2) else heldF l v := by
 unfold heldF
 rw [atV_append, atV_one]
 by_cases h : p.2.2.2 = v
 · rw [if_pos h, if_pos h]; simp
 · rw [if_neg h, if_neg h, List.append_nil]
theorem heldF_none {l : List Oc} {v : Int} (h : atV v l = []) : heldF l v = none := by unfold heldF; rw [h]; rfl
theorem heldF_one {l : List Oc} {v : Int} {a : Oc} (h : atV v l = [a]) : heldF l v = some (a.1, 1, a.2) := by unfold heldF; rw [h]; rfl
theorem heldF_two {l : List Oc} {v : Int} {a b : Oc} (h : atV v l = [a, b]) : heldF l v = some (b.1, 2, b.2) := by unfold heldF; rw [h]; rfl
theorem heldF_some {l : List Oc} {v : Int} (hv : v ≠ 0) : (heldF l v).isSome = true ↔ v ∈ numsO l := by
 rw [mem_numsO]
 unfold heldF
 rw [Option.isSome_map]
 cases h : (atV v l).getLast? with
 | none =>
  have h1 := List.getLast?_eq_none_iff.1 h
  simp only [Option.isSome_none, Bool.false_eq_true, false_iff]
  rintro ⟨_, p, hp, hpv⟩
  have : p ∈ atV v l := mem_atV.2 ⟨hp, hpv⟩
  rw [h1] at this; simp at this
 | some p =>
  have h1 := List.mem_of_getLast? h
  simp only [Option.isSome_some, true_iff]
  exact ⟨hv, p, (mem_atV.1 h1).1, (mem_atV.1 h1).2⟩
def badB (Q : List Pt) (a p : Oc) : Bool := decide (a.1 = p.1) || (decide (a.2 ≠ p.2) || (decide (kdQ Q a.1 = kdQ Q p.1) && decide (kdQ Q p.1 ≠ 3)))
theorem pair_bad (Q : List Pt) (a p : Oc) : pairB Q [a, p] = !badB Q a p := by
 unfold pairB badB
 by_cases h1 : a.2 = p.2 <;> by_cases h2 : a.1 = p.1 <;> by_cases h3 : kdQ Q a.1 = kdQ Q p.1 <;> by_cases h4 : kdQ Q p.1 = 3 <;> simp [h1, h2, h3, h4]
theorem preO_take (Q : List Pt) (i k : Nat) (hi : i < Q.length) : ∃ b, allQ Q = preQ Q i k ++ b := by
 have h : ∀ n, i + 1 + n ≤ Q.length → ∃ b, preO Q (i + 1 + n) = preO Q (i + 1) ++ b := by
  intro n
  induction n with
  | zero => intro _; exact ⟨[], by simp⟩
  | succ n ih =>
   intro h; obtain ⟨b, hb⟩ := ih (by omega); exact ⟨b ++ rowO Q (i + 1 + n), by rw [← Nat.add_assoc, preO_succ, hb, List.append_assoc]⟩
 obtain ⟨b, hb⟩ := h (Q.length - (i + 1)) (by omega)
 refine ⟨(rowO Q i).drop k ++ b, ?_⟩
 unfold allQ preQ
 rw [show Q.length = i + 1 + (Q.length - (i + 1)) by omega, hb, preO_succ]
 have e : rowO Q i = (rowO Q i).take k ++ (rowO Q i).drop k := (List.take_append_drop ..).symm
 conv => lhs; rw [e]
 simp only [List.append_assoc]
theorem bes_no {Q : List Pt} {i k : Nat} (hi : i < Q.length) (h : ¬ fineP Q (preQ Q i k)) : ¬ besideP Q := fun hb => by
 obtain ⟨b, hb2⟩ := preO_take Q i k hi
 have := hb.1
 rw [hb2] at this
 exact h (fineP_init this)
def srtN (l : List Nat) : List Nat := l.mergeSort fun x y => decide (x ≤ y)
theorem srtN_perm (l : List Nat) : (srtN l).Perm l := List.mergeSort_perm _ _
theorem srtN_sorted (l : List Nat) : (srtN l).Pairwise (· ≤ ·) := by
 have := List.pairwise_mergeSort (le := fun x y : Nat => decide (x ≤ y)) (fun a b c h1 h2 => by simp at h1 h2 ⊢; omega) (fun a b => by simp; omega) l
 exact this.imp fun h => by simpa using h
theorem srtN_map (l : List Nat) : (srtN l).map (fun x : Nat => (x : Int)) = (l.map fun x : Nat => (x : Int)).mergeSort fun x y => decide (x ≤ y) := by
 unfold srtN
 exact List.map_mergeSort fun a _ b _ => by simp
def besQ (Q : List Pt) (i : Nat) : List Nat := srtN (outO (pairsO (allQ Q)) i)
theorem mem_pairsO {l : List Oc} {a b : Nat} : (a, b) ∈ pairsO l ↔ ∃ l1 l2 p q, l = l1 ++ p :: l2 ∧ p.2.2.2 ≠ 0 ∧ atV p.2.2.2 l1 = [q] ∧ a = q.1 ∧ b = p.1 := by
 induction l using snoc_ind with
 | nil => simp [pairsO_nil]
 | snoc l p ih =>
  rw [pairsO_snoc, List.mem_append, ih]
  constructor
  ·
   rintro (⟨l1, l2, r, q, h1, h2, h3, h4, h5⟩ | h)
   · exact ⟨l1, l2 ++ [p], r, q, by rw [h1]; simp, h2, h3, h4, h5⟩
   ·
    unfold newP at h; split at h
    · simp at h
    ·
     rename_i h0; split at h
     ·
      rename_i q hq; simp at h; exact ⟨l, [], p, q, by simp, h0, hq, h.1, h.2⟩
     · simp at h
  ·
   rintro ⟨l1, l2, r, q, h1, h2, h3, h4, h5⟩; rcases List.eq_nil_or_concat l2 with rfl | ⟨m, s, rfl⟩
   ·
    right; have := List.append_inj' h1 rfl; obtain ⟨rfl, h6⟩ := this; cases h6; rw [newP_second h2 h3]; simp [h4, h5]
   ·
    left; rw [List.concat_eq_append] at h1; have h6 : l ++ [p] = (l1 ++ r :: m) ++ [s] := by rw [h1]; simp
    have := List.append_inj' h6 rfl; exact ⟨l1, m, r, q, this.1, h2, h3, h4, h5⟩
theorem mem_outO {E : List (Nat × Nat)} {k j : Nat} : j ∈ outO E k ↔ (j, k) ∈ E ∨ (k, j) ∈ E := by
 unfold outO
 rw [List.mem_flatMap]
 constructor
 ·
  rintro ⟨⟨a, b⟩, hab, h⟩
  rw [List.mem_append] at h
  rcases h with h | h
  ·
   split at h
   · rename_i e; simp at e h; subst e; subst h; exact .inl hab
   · simp at h
  ·
   split at h
   · rename_i e; simp at e h; subst e; subst h; exact .inr hab
   · simp at h
 ·
  rintro (h | h)
  · exact ⟨_, h, by simp⟩
  · exact ⟨_, h, by simp⟩
theorem split_two {l : List Oc} {v : Int} {x y : Oc} (h : atV v l = [x, y]) : ∃ l1 l2, l = l1 ++ y :: l2 ∧ atV v l1 = [x] := by
 induction l using snoc_ind with
 | nil => simp [atV] at h
 | snoc l p ih =>
  rw [atV_append, atV_one] at h
  by_cases hp : p.2.2.2 = v
  ·
   rw [if_pos hp] at h; have h1 : atV v l ++ [p] = [x] ++ [y] := h; have := List.append_inj' h1 rfl; simp at this; obtain ⟨h2, rfl⟩ := this; exact ⟨l, [], by simp, h2⟩
  ·
   rw [if_neg hp, List.append_nil] at h; obtain ⟨l1, l2, e1, e2⟩ := ih h; exact ⟨l1, l2 ++ [p], by rw [e1]; simp, e2⟩
theorem mem_besQ {Q : List Pt} (h : besideP Q) {i j : Nat} : j ∈ besQ Q i ↔ adjQ Q i j = true := by
 unfold besQ
 rw [(srtN_perm _).mem_iff, mem_outO]
 have key : ∀ a b, (a, b) ∈ pairsO (allQ Q) → adjQ Q a b = true := fun a b hab => by
  obtain ⟨l1, l2, p, q, h1, h2, h3, rfl, rfl⟩ := mem_pairsO.1 hab
  have hq : q ∈ atV p.2.2.2 l1 := by rw [h3]; simp
  obtain ⟨hq1, hq2⟩ := mem_atV.1 hq
  have hf := h.1
  rw [h1, show l1 ++ p :: l2 = (l1 ++ [p]) ++ l2 by simp] at hf
  have hf2 := ((fineP_virt h2).1 (fineP_init hf)).2
  rw [h3] at hf2
  have hf3 : pairB Q [q, p] = true := hf2
  simp only [pairB, Bool.and_eq_true, decide_eq_true_eq] at hf3
  rw [adjQ_iff]
  exact ⟨hf3.2.1, q.2, p.2, mem_allQ.1 (by rw [h1]; simp [hq1]), mem_allQ.1 (by rw [h1]; simp), by rw [hf3.1]; exact h2, by rw [hf3.1]⟩
 constructor
 ·
  rintro (hab | hab)
  · exact adjQ_symm (key _ _ hab)
  · exact key _ _ hab
 ·
  intro hadj
  obtain ⟨hne, e, f, he, hf, hv, hfe⟩ := adjQ_iff.1 hadj
  have m1 : (i, e) ∈ atV e.2.2 (allQ Q) := mem_atV.2 ⟨mem_allQ.2 he, rfl⟩
  have m2 : (j, f) ∈ atV e.2.2 (allQ Q) := mem_atV.2 ⟨mem_allQ.2 hf, hfe⟩
  rcases h.2.1 _ hv with h0 | h2
  · rw [List.eq_nil_of_length_eq_zero h0] at m1; simp at m1
  ·
   obtain ⟨a, b, g, hg, hgv, hab, _⟩ := fine_two h.1 hv h2; obtain ⟨l1, l2, e1, e2⟩ := split_two hg; have hp : (a, b) ∈ pairsO (allQ Q) := mem_pairsO.2 ⟨l1, l2, (b, g), (a, g), e1, by simp only; rw [hgv]; exact hv, by simp only; rw [hgv]; exact e2, rfl, rfl⟩; rw [hg] at m1 m2; simp at m1 m2; rcases m1 with ⟨rfl, _⟩ | ⟨rfl, _⟩
   ·
    rcases m2 with ⟨rfl, _⟩ | ⟨rfl, _⟩
    · exact absurd rfl hne
    · exact .inr hp
   ·
    rcases m2 with ⟨rfl, _⟩ | ⟨rfl, _⟩
    · exact .inl hp
    · exact absurd rfl hne
end Go.Proofs.YtagcbnpahgfgmaaGreat
namespace Go.Proofs.YtagcbnpahgfgmaaGreat
def leftN (n : Nat) (G : Nat → Bool) : Nat := ((List.range n).filter fun j => !G j).length
def degG (bs : Nat → List Nat) (G : Nat → Bool) (j : Nat) : Nat := ((bs j).filter fun k => !G k).length
def endB (bs : Nat → List Nat) (G : Nat → Bool) (j : Nat) : Bool := !G j && decide (degG bs G j ≤ 1)
def peel (bs : Nat → List Nat) (n : Nat) (G : Nat → Bool) : Nat → Bool := fun j => G j || (decide (2 < leftN n G) && endB bs G j)
def peels (bs : Nat → List Nat) (n : Nat) : Nat → Nat → Bool
 | 0 => fun _ => false
 | k + 1 => peel bs n (peels bs n k)
def centreQ (Q : List Pt) : List Nat := (List.range Q.length).filter fun j => !peels (besQ Q) Q.length Q.length j
theorem leftN_none (n : Nat) : leftN n (fun _ => false) = n := by
 unfold leftN
 have : (List.range n).filter (fun j => !(fun _ : Nat => false) j) = List.range n := List.filter_eq_self.2 (fun _ _ => rfl)
 rw [this, List.length_range]
theorem filter_split {α : Type} (l : List α) (p q : α → Bool) (hq : ∀ x ∈ l, q x = true → p x = true) : (l.filter fun x => p x && !q x).length + (l.filter q).length = (l.filter p).length := by
 induction l with
 | nil => rfl
 | cons a l ih =>
  have i1 := ih fun x hx => hq x (List.mem_cons_of_mem _ hx)
  have ha := hq a (List.mem_cons_self ..)
  simp only [List.filter_cons]
  cases hp : p a <;> cases hqq : q a
  · simpa using i1
  · rw [ha hqq] at hp; cases hp
  · simp; omega
  · simp; omega
theorem leftN_peel (bs : Nat → List Nat) (n : Nat) (G : Nat → Bool) (h : 2 < leftN n G) : leftN n (peel bs n G) + ((List.range n).filter (endB bs G)).length = leftN n G := by
 unfold leftN
 have e : (fun j => !peel bs n G j) = fun j => (!G j) && !endB bs G j := by
  funext j
  unfold peel
  rw [decide_eq_true h]
  cases G j <;> simp
 rw [e]
 exact filter_split (List.range n) (fun j => !G j) (endB bs G) fun x _ hx => by
  unfold endB at hx
  simp only [Bool.and_eq_true] at hx
  exact hx.1
theorem peel_end {bs : Nat → List Nat} {n : Nat} {G : Nat → Bool} (h : ¬ 2 < leftN n G) : peel bs n G = G := by
 funext j
 unfold peel
 rw [decide_eq_false h]; simp
theorem peels_end {bs : Nat → List Nat} {n k : Nat} (h : ¬ 2 < leftN n (peels bs n k)) (m : Nat) : peels bs n (k + m) = peels bs n k := by
 induction m with
 | zero => rfl
 | succ m ih =>
  show peel bs n (peels bs n (k + m)) = _
  rw [ih, peel_end h]
namespace RightQ
variable {Q : List Pt}
theorem bes_nodup (h : RightQ Q) (i : Nat) : (besQ Q i).Nodup := by
 unfold besQ
 rw [(srtN_perm _).nodup_iff]
 obtain ⟨D, hT, _⟩ := h.tree
 have key : ∀ (l : List Oc), (∃ b, allQ Q = l ++ b) → ∀ k, (outO (pairsO l) k).Nodup := by
  intro l
  induction l using snoc_ind with
  | nil => intro _ k; simp [pairsO_nil, outO_nil]
  | snoc l p ih =>
   rintro ⟨b, hb⟩ k; have i1 := ih ⟨p :: b, by rw [hb]; simp⟩ k; rw [pairsO_snoc, outO_append, List.nodup_append]; have hnew : ∀ x, x ∈ outO (newP l p) k → (p.2.2.2 ≠ 0 ∧ ∃ a, atV p.2.2.2 l = [a] ∧ ((x = a.1 ∧ k = p.1) ∨ (x = p.1 ∧ k = a.1))) := by
    intro x hx; unfold newP at hx; split at hx
    · simp [outO] at hx
    ·
     rename_i h0; split at hx
     ·
      rename_i a ha; rw [mem_outO] at hx; simp at hx; exact ⟨h0, a, ha, by rcases hx with ⟨rfl, rfl⟩ | ⟨rfl, rfl⟩ <;> simp⟩
     · simp [outO] at hx
   have hfine : fineP Q (l ++ [p]) := by
    have := h.bes.1; rw [hb] at this; exact fineP_init this
   refine ⟨i1, ?_, fun x hx y hy e => ?_⟩
   ·
    unfold newP; split
    · simp [outO]
    ·
     rename_i h0; split
     ·
      rename_i a ha; have h2 := ((fineP_virt h0).1 hfine).2; rw [ha] at h2; have h3 : pairB Q [a, p] = true := h2; simp only [pairB, Bool.and_eq_true, decide_eq_true_eq] at h3; rw [outO_one]; by_cases e1 : p.1 = k <;> by_cases e2 : a.1 = k
      · exact absurd (e2.trans e1.symm) h3.2.1
      · simp [e1, e2]
      · simp [e1, e2]
      · simp [e1, e2]
     · simp [outO]
   ·
    subst e; obtain ⟨h0, a, ha, hxa⟩ := hnew x hy; have h2 := ((fineP_virt h0).1 hfine).2; rw [ha] at h2; have h3 : pairB Q [a, p] = true := h2; simp only [pairB, Bool.and_eq_true, decide_eq_true_eq] at h3; have hal : a ∈ l := (mem_atV.1 (by rw [ha]; simp : a ∈ atV p.2.2.2 l)).1; have hold : ∃ l1 l2 q r, l = l1 ++ q :: l2 ∧ q.2.2.2 ≠ 0 ∧ atV q.2.2.2 l1 = [r] ∧ ((x = r.1 ∧ k = q.1) ∨ (x = q.1 ∧ k = r.1)) := by
     rw [mem_outO] at hx; rcases hx with hx | hx
     ·
      obtain ⟨l1, l2, q, r, a1, a2, a3, a4, a5⟩ := mem_pairsO.1 hx; exact ⟨l1, l2, q, r, a1, a2, a3, .inl ⟨a4, a5⟩⟩
     ·
      obtain ⟨l1, l2, q, r, a1, a2, a3, a4, a5⟩ := mem_pairsO.1 hx; exact ⟨l1, l2, q, r, a1, a2, a3, .inr ⟨a5, a4⟩⟩
    obtain ⟨l1, l2, q, r, g1, g2, g3, g4⟩ := hold; have hr := mem_atV.1 (by rw [g3]; simp : r ∈ atV q.2.2.2 l1); have hql : q ∈ l := by rw [g1]; simp
    have hrl : r ∈ l := by rw [g1]; simp [hr.1]
    have mal : ∀ z ∈ l ++ [p], z.2 ∈ lnQ Q z.1 := fun z hz => mem_allQ.1 (by rw [hb]; exact List.mem_append_left _ hz); have hxn : x ≠ k := by
     rcases hxa with ⟨rfl, rfl⟩ | ⟨rfl, rfl⟩
     · exact h3.2.1
     · exact fun e => h3.2.1 e.symm
    have hq2 : q.2 = r.2 := h.same (mal q (by simp [hql])) (mal r (by simp [hrl])) g2 (by rw [hr.2]); have sx : q.2 ∈ lnQ Q x ∧ q.2 ∈ lnQ Q k := by
     rcases g4 with ⟨rfl, rfl⟩ | ⟨rfl, rfl⟩
     · exact ⟨by rw [hq2]; exact mal r (by simp [hrl]), mal q (by simp [hql])⟩
     · exact ⟨mal q (by simp [hql]), by rw [hq2]; exact mal r (by simp [hrl])⟩
    have sp : p.2 ∈ lnQ Q x ∧ p.2 ∈ lnQ Q k := by
     rcases hxa with ⟨rfl, rfl⟩ | ⟨rfl, rfl⟩
     · exact ⟨by rw [← h3.1]; exact mal a (by simp [hal]), mal p (by simp)⟩
     · exact ⟨mal p (by simp), by rw [← h3.1]; exact mal a (by simp [hal])⟩
    have hxl := lnQ_mem sx.1; have hkl := lnQ_mem sx.2; obtain ⟨R, hR⟩ : ∃ R, Q.Perm (Q[x] :: Q[k] :: R) := by
     rcases Nat.lt_or_gt_of_ne hxn with hlt | hlt
     · exact perm_two hlt hkl
     ·
      obtain ⟨R, hR⟩ := perm_two hlt hxl; exact ⟨R, hR.trans (.swap ..)⟩
    rw [lnQ_at hxl, lnQ_at hkl] at sx sp; have hqp := h.qi.share hR (mem_virtL.2 ⟨sx.1, g2⟩) (mem_virtL.2 ⟨sx.2, g2⟩) (mem_virtL.2 ⟨sp.1, h0⟩) (mem_virtL.2 ⟨sp.2, h0⟩); have hin : q ∈ atV p.2.2.2 l := mem_atV.2 ⟨hql, by rw [hqp]⟩; have hin2 : r ∈ atV p.2.2.2 l := mem_atV.2 ⟨hrl, by rw [hr.2, hqp]⟩; rw [ha] at hin hin2; simp at hin hin2; rw [← hin2] at hin; rw [hin] at g4; rcases g4 with ⟨e1, e2⟩ | ⟨e1, e2⟩ <;> exact hxn (e1.trans e2.symm)
 exact key (allQ Q) ⟨[], by simp⟩ i
theorem links_range (Q : List Pt) : Q.map (fun q => q.2) = (List.range Q.length).map (lnQ Q) := by
 apply List.ext_getElem (by simp)
 intro i h1 h2
 have hi : i < Q.length := by simpa using h1
 simp [lnQ_at hi]
theorem dup_filter {P : List (List Lk)} {D : List Lk} (h : TreeP P D) {S T : List (List Lk)} (hp : P.Perm (S ++ T)) :
  ((occL S).filter fun e => decide (2 ≤ (occL S).count e)).length = 2 * (TreeP.dupL D S).length := by
 have hle : ∀ e, (occL S).count e ≤ (occL P).count e := fun e => by
  rw [(occL_perm hp).count_eq, occL_append, List.count_append]; omega
 have hperm : ((occL S).filter fun e => decide (2 ≤ (occL S).count e)).Perm (TreeP.dupL D S ++ TreeP.dupL D S) := by
  rw [List.perm_iff_count]
  intro e
  rw [List.count_append]
  by_cases h2 : 2 ≤ (occL S).count e
  ·
   have heP : e ∈ occL P := List.count_pos_iff.1 (by have := hle e; omega); have heD := h.memD.2 heP; have hc := h.count2 heD; have hce : (occL S).count e = 2 := by have := hle e; omega
   rw [List.count_filter (by simpa using h2), hce]; have hn : (TreeP.dupL D S).Nodup := List.Nodup.sublist List.filter_sublist h.dnd; rw [count_one hn (by unfold TreeP.dupL; rw [List.mem_filter]; exact ⟨heD, by simpa using h2⟩)]
  · rw [List.count_eq_zero_of_not_mem (fun hm => h2 (by simpa using (List.mem_filter.1 hm).2)), List.count_eq_zero_of_not_mem (fun hm => h2 (by simpa [TreeP.dupL] using (List.mem_filter.1 hm).2))]
 rw [hperm.length_eq, List.length_append]
 omega
theorem sub_len {β : Type} : ∀ {l m : List β}, l.Nodup → (∀ x ∈ l, x ∈ m) → l.length ≤ m.length
 | [], _, _, _ => by simp
 | a :: l, m, hn, h => by
  obtain ⟨s, t, rfl⟩ := List.append_of_mem (h a (by simp))
  have hn' := List.nodup_cons.1 hn
  have := sub_len (l := l) (m := s ++ t) hn'.2 fun x hx => by
   have h1 := h x (by simp [hx])
   have hne : x ≠ a := fun e => hn'.1 (by rw [← e]; exact hx)
   simp only [List.mem_append, List.mem_cons] at h1 ⊢
   rcases h1 with h1 | h1 | h1
   · exact .inl h1
   · exact absurd h1 hne
   · exact .inr h1
  simp only [List.length_append, List.length_cons] at this ⊢
  omega
theorem sum_twice {l : List Nat} {f : Nat → Nat} (h : ∀ x ∈ l, 2 ≤ f x) : 2 * l.length ≤ (l.map f).sum := by
 induction l with
 | nil => simp
 | cons a l ih =>
  have i1 := ih fun x hx => h x (by simp [hx])
  have := h a (by simp)
  rw [List.length_cons, List.map_cons, List.sum_cons]
  omega
theorem inj_len {α β : Type} {l : List α} {m : List β} (f : α → β) (hn : l.Nodup) (hi : ∀ x ∈ l, ∀ y ∈ l, f x = f y → x = y) (hm : ∀ x ∈ l, f x ∈ m) : l.length ≤ m.length := by
 have h1 : (l.map f).Nodup := by
  rw [List.Nodup, List.pairwise_map]
  exact hn.imp_of_mem fun {a b} ha hb hab e => hab (hi a ha b hb e)
 have := sub_len h1 (m := m) fun y hy => by
  obtain ⟨x, hx, rfl⟩ := List.mem_map.1 hy
  exact hm x hx
 simpa using this
theorem leaf (h : RightQ Q) (G : Nat → Bool) (hG : 0 < leftN Q.length G) : ∃ j, j < Q.length ∧ endB (besQ Q) G j = true := by
 refine Classical.byContradiction fun hno => ?_
 have hdeg : ∀ j, j < Q.length → G j = false → 2 ≤ degG (besQ Q) G j := fun j hj hGj => by
  refine Classical.byContradiction fun hd => hno ⟨j, hj, ?_⟩
  unfold endB
  rw [hGj]
  simp; omega
 obtain ⟨D, hT, _⟩ := h.tree
 obtain ⟨S, hS⟩ : ∃ S, S = (List.range Q.length).filter fun j => !G j := ⟨_, rfl⟩
 obtain ⟨T, hTT⟩ : ∃ T, T = (List.range Q.length).filter fun j => !!G j := ⟨_, rfl⟩
 have hperm : (Q.map fun q => q.2).Perm (S.map (lnQ Q) ++ T.map (lnQ Q)) := by
  rw [links_range, ← List.map_append, hS, hTT]
  exact (List.filter_append_perm _ _).symm.map _
 have hSl : S.length = leftN Q.length G := by rw [hS]; rfl
 have hSn : S ≠ [] := fun e => by rw [e] at hSl; simp at hSl; omega
 have memS : ∀ j, j ∈ S → j < Q.length ∧ G j = false := fun j hj => by
  rw [hS, List.mem_filter, List.mem_range] at hj
  exact ⟨hj.1, by simpa using hj.2⟩
 have hd := hT.dup_le hperm (by simpa using hSn)
 have hf := dup_filter hT hperm
 rw [List.length_map] at hd
 have hsum : ((occL (S.map (lnQ Q))).filter fun e => decide (2 ≤ (occL (S.map (lnQ Q))).count e)).length = (S.map fun j => ((virtL (lnQ Q j)).filter fun e => decide (2 ≤ (occL (S.map (lnQ Q))).count e)).length).sum := by
  generalize (fun e : Lk => decide (2 ≤ (occL (S.map (lnQ Q))).count e)) = p
  clear hd hf hperm memS hSn hSl hS
  induction S with
  | nil => rfl
  | cons a S ih =>
   rw [List.map_cons, occL_cons, List.filter_append, List.length_append, ih, List.map_cons, List.sum_cons]
 have hge : ∀ j ∈ S, 2 ≤ ((virtL (lnQ Q j)).filter fun e => decide (2 ≤ (occL (S.map (lnQ Q))).count e)).length := fun j hj => by
  obtain ⟨hjn, hjG⟩ := memS j hj
  refine Nat.le_trans (hdeg j hjn hjG) ?_
  unfold degG
  have hex : ∀ k, ∃ e, k ∈ ((besQ Q j).filter fun k => !G k) → j ≠ k ∧ k ∈ S ∧ e ∈ virtL (lnQ Q j) ∧ e ∈ virtL (lnQ Q k) := fun k => by
   by_cases hk : k ∈ ((besQ Q j).filter fun k => !G k)
   ·
    obtain ⟨hk1, hk2⟩ := List.mem_filter.1 hk; obtain ⟨hne, e, f, he, hf, hv, hfe⟩ := adjQ_iff.1 ((mem_besQ h.bes).1 hk1); have := h.same he hf hv hfe; subst this; have hkn := lnQ_mem hf; exact ⟨e, fun _ => ⟨hne, by rw [hS, List.mem_filter, List.mem_range]; exact ⟨hkn, hk2⟩, mem_virtL.2 ⟨he, hv⟩, mem_virtL.2 ⟨hf, hv⟩⟩⟩
   · exact ⟨(0, 0, 0), fun hk' => absurd hk' hk⟩
  obtain ⟨f, hf⟩ := Classical.axiomOfChoice hex
  refine inj_len f ((h.bes_nodup j).sublist List.filter_sublist) (fun x hx y hy hxy => ?_) (fun x hx => ?_)
  ·
   obtain ⟨a1, a2, a3, a4⟩ := hf x hx; obtain ⟨b1, b2, b3, b4⟩ := hf y hy; refine Classical.byContradiction fun hne => ?_; have hx1 := (memS x a2).1; have hy1 := (memS y b2).1; rw [← hxy] at b4; have hv := (mem_virtL.1 a3).2; have m1 : (j, f x) ∈ atV (f x).2.2 (allQ Q) := mem_atV.2 ⟨mem_allQ.2 (mem_virtL.1 a3).1, rfl⟩; have m2 : (x, f x) ∈ atV (f x).2.2 (allQ Q) := mem_atV.2 ⟨mem_allQ.2 (mem_virtL.1 a4).1, rfl⟩; have m3 : (y, f x) ∈ atV (f x).2.2 (allQ Q) := mem_atV.2 ⟨mem_allQ.2 (mem_virtL.1 b4).1, rfl⟩; rcases h.bes.2.1 _ hv with h0 | h2
   · rw [List.eq_nil_of_length_eq_zero h0] at m1; simp at m1
   ·
    obtain ⟨p, q, g, hg, _⟩ := fine_two h.bes.1 hv h2; rw [hg] at m1 m2 m3; simp only [List.mem_cons, Prod.mk.injEq, List.not_mem_nil, or_false] at m1 m2 m3; omega
  ·
   obtain ⟨a1, a2, a3, a4⟩ := hf x hx; rw [List.mem_filter]; refine ⟨a3, ?_⟩; simp only [decide_eq_true_eq]; obtain ⟨s1, s2, hs⟩ := List.append_of_mem hj; have hx2 : x ∈ s1 ∨ x ∈ s2 := by
    rw [hs] at a2; rcases List.mem_append.1 a2 with h1 | h1
    · exact .inl h1
    ·
     rcases List.mem_cons.1 h1 with h1 | h1
     · exact absurd h1.symm a1
     · exact .inr h1
   have hc1 := List.count_pos_iff.2 a3; have ho : ∀ U : List Nat, x ∈ U → 0 < (occL (U.map (lnQ Q))).count (f x) := fun U hU => List.count_pos_iff.2 (mem_occL.2 ⟨_, List.mem_map_of_mem hU, (mem_virtL.1 a4).1, (mem_virtL.1 a4).2⟩); rw [hs, List.map_append, List.map_cons, occL_append, occL_cons, List.count_append, List.count_append]; rcases hx2 with hx2 | hx2 <;> have := ho _ hx2 <;> omega
 have hfin := sum_twice hge
 rw [← hsum, hf] at hfin
 omega
end RightQ
end Go.Proofs.YtagcbnpahgfgmaaGreat
namespace Go.Proofs.YtagcbnpahgfgmaaGreat
def addL (L : List Nat) (j : Nat) : List Nat := if j ∈ L then L else L ++ [j]
structure TrI (bs : Nat → List Nat) (n i : Nat) (L : List Nat) : Prop where
 nd : L.Nodup
 lt : ∀ x ∈ L, x < n
 zero : 0 ∈ L
 con : ∀ x ∈ L, Con bs (· < n) 0 x
 cl : ∀ k x, k < i → L[k]? = some x → ∀ j ∈ bs x, j ∈ L
 il : i ≤ L.length
theorem nodup_le {L : List Nat} {n : Nat} (h : L.Nodup) (hl : ∀ x ∈ L, x < n) : L.length ≤ n := by
 have h1 := nodup_len_le h (m := List.range n) fun x hx => List.mem_range.2 (hl x hx)
 simpa using h1
theorem nodup_all {L : List Nat} {n : Nat} (h : L.Nodup) (hl : ∀ x ∈ L, x < n) (hn : L.length = n) : ∀ j, j < n → j ∈ L := by
 intro j hj
 by_cases hm : j ∈ L
 · exact hm
 ·
  have h1 := nodup_le (L := j :: L) (n := n) (List.nodup_cons.2 ⟨hm, h⟩) fun x hx => by
   rcases List.mem_cons.1 hx with rfl | hx
   · exact hj
   · exact hl x hx
  simp at h1; omega
theorem all_len {L : List Nat} {n : Nat} (h : L.Nodup) (hl : ∀ x ∈ L, x < n) (ha : ∀ j, j < n → j ∈ L) : L.length = n := by
 have h1 := nodup_len_le (List.nodup_range (n := n)) (m := L) fun x hx => ha x (List.mem_range.1 hx)
 have := nodup_le h hl
 simp at h1
 omega
namespace TrI
variable {bs : Nat → List Nat} {n i : Nat} {L : List Nat}
theorem start (hn : 0 < n) : TrI bs n 0 [0] where
 nd := by simp
 lt x hx := by simp at hx; omega
 zero := by simp
 con x hx := by simp at hx; subst hx; exact .refl hn
 cl k x hk := absurd hk (by omega)
 il := by simp
theorem len (h : TrI bs n i L) : L.length ≤ n := nodup_le h.nd h.lt
theorem add (h : TrI bs n i L) {v j : Nat} (hv : L[i]? = some v) (hj : j ∈ bs v) (hjn : j < n) : TrI bs n i (addL L j) := by
 unfold addL
 split
 · exact h
 ·
  rename_i hm
  have hvm : v ∈ L := List.mem_of_getElem? hv
  refine ⟨?_, fun x hx => ?_, by simp [h.zero], fun x hx => ?_, fun k x hk hx y hy => ?_, by have := h.il; simp; omega⟩
  ·
   rw [List.nodup_append]; refine ⟨h.nd, by simp, fun x hx y hy e => ?_⟩; simp at hy; subst hy; subst e; exact hm hx
  ·
   rcases List.mem_append.1 hx with hx | hx
   · exact h.lt x hx
   · simp at hx; omega
  ·
   rcases List.mem_append.1 hx with hx | hx
   · exact h.con x hx
   · simp at hx; subst hx; exact .step (h.con v hvm) hj hjn
  ·
   have hkl : k < L.length := by have := h.il; omega
   rw [List.getElem?_append_left hkl] at hx; exact List.mem_append_left _ (h.cl k x hk hx y hy)
theorem next (h : TrI bs n i L) {v : Nat} (hv : L[i]? = some v) (hall : ∀ j ∈ bs v, j ∈ L) : TrI bs n (i + 1) L :=
 ⟨h.nd, h.lt, h.zero, h.con, fun k x hk hx => by
  by_cases e : k = i
  · subst e; rw [hv] at hx; cases hx; exact hall
  · exact h.cl k x (by omega) hx, (List.getElem?_eq_some_iff.1 hv).1⟩
theorem done (h : TrI bs n L.length L) : L.length = n ↔ ∀ j, j < n → Con bs (· < n) 0 j := by
 constructor
 ·
  intro hn j hj
  exact h.con j (nodup_all h.nd h.lt hn j hj)
 ·
  intro ha
  refine all_len h.nd h.lt fun j hj => ?_
  refine Con.to (fun y => y ∈ L) h.zero (fun y z hy hz => ?_) (ha j hj)
  obtain ⟨k, hk, rfl⟩ := List.getElem_of_mem hy
  exact h.cl k _ hk (by simp [hk]) z hz
end TrI
theorem addL_at {L : List Nat} {j i v : Nat} (h : L[i]? = some v) : (addL L j)[i]? = some v := by
 unfold addL
 split
 · exact h
 · rw [List.getElem?_append_left (List.getElem?_eq_some_iff.1 h).1]; exact h
theorem Con.congr {bs cs : Nat → List Nat} {S : Nat → Prop} {x y : Nat} (h : Con bs S x y) (he : ∀ a b, b ∈ bs a → b ∈ cs a) : Con cs S x y := by
 induction h with
 | refl h => exact .refl h
 | step _ hz hs ih => exact .step ih (he _ _ hz) hs
def seenQ (Q : List Pt) (i : Nat) : Prop := ∀ j (h : j < Q.length), j < i → Q[j].1 ≠ 0 ∧ Q[j].1 = kindL Q[j].2 ∧ (∀ h0 : 0 < j, cmpLs (Q[j - 1]'(by omega)).2 Q[j].2 ≤ 0)
theorem seenQ_zero (Q : List Pt) : seenQ Q 0 := fun j _ h => absurd h (by omega)
theorem seenQ_next {Q : List Pt} {i : Nat} (h : seenQ Q i) (hi : i < Q.length) (h1 : Q[i].1 ≠ 0) (h2 : Q[i].1 = kindL Q[i].2) (h3 : ∀ h0 : 0 < i, cmpLs (Q[i - 1]'(by omega)).2 Q[i].2 ≤ 0) : seenQ Q (i + 1) := fun j hj hji => by
 by_cases e : j = i
 · subst e; exact ⟨h1, h2, h3⟩
 · exact h j hj (by omega)
theorem seenQ_all {Q : List Pt} : seenQ Q Q.length ↔ kindsP Q ∧ ordP Q := by
 constructor
 ·
  intro h
  refine ⟨fun q hq => ?_, fun i hi => ?_⟩
  ·
   obtain ⟨j, hj, rfl⟩ := List.getElem_of_mem hq; exact ⟨(h j hj hj).1, (h j hj hj).2.1⟩
  · exact (h (i + 1) hi hi).2.2 (by omega)
 ·
  rintro ⟨h1, h2⟩ j hj _
  refine ⟨(h1 _ (List.getElem_mem hj)).1, (h1 _ (List.getElem_mem hj)).2, fun h0 => ?_⟩
  obtain ⟨k, rfl⟩ : ∃ k, j = k + 1 := ⟨j - 1, by omega⟩
  exact h2 k hj
theorem besQ_lt {Q : List Pt} (h : besideP Q) {i j : Nat} (hj : j ∈ besQ Q i) : j < Q.length := by
 have h1 := mem_nbQ.2 ((mem_besQ h).1 hj)
 unfold nbQ at h1
 exact List.mem_range.1 (List.mem_filter.1 h1).1
theorem con_bes {Q : List Pt} (h : besideP Q) : conP Q ↔ ∀ j, j < Q.length → Con (besQ Q) (· < Q.length) 0 j :=
 ⟨fun hc j hj => (hc j hj).congr fun a b hb => (mem_besQ h).2 (mem_nbQ.1 hb), fun hc j hj => (hc j hj).congr fun a b hb => mem_nbQ.2 ((mem_besQ h).1 hb)⟩
def metV (n : Nat) (L : List Nat) : List Bool := (List.range n).map fun j => decide (j ∈ L)
theorem metV_len (n : Nat) (L : List Nat) : (metV n L).length = n := by simp [metV]
theorem metV_get {n j : Nat} {L : List Nat} (h : j < n) : (metV n L)[j]? = some (decide (j ∈ L)) := by simp [metV, h]
theorem metV_set {n j : Nat} {L : List Nat} (h : j ∉ L) : (metV n L).set j true = metV n (L ++ [j]) := by
 apply List.ext_getElem (by simp [metV])
 intro i h1 h2
 simp only [metV, List.getElem_set, List.getElem_map, List.getElem_range, List.mem_append, List.mem_singleton]
 by_cases e : j = i
 · subst e; simp
 ·
  have : ¬ i = j := fun h => e h.symm
  simp [e, this]
theorem metV_zero (n : Nat) : (List.replicate n false).set 0 true = metV n [0] := by
 have h : List.replicate n false = metV n [] := by
  apply List.ext_getElem (by simp [metV])
  intro i h1 h2
  simp [metV]
 rw [h, metV_set (by simp)]; rfl
end Go.Proofs.YtagcbnpahgfgmaaGreat
namespace Go.Proofs.YtagcbnpahgfgmaaGreat
structure TreeG (bs : Nat → List Nat) (n : Nat) : Prop where
 nd : ∀ i, (bs i).Nodup
 lt : ∀ i j, j ∈ bs i → j < n
 sym : ∀ i j, j ∈ bs i → i ∈ bs j
 leaf : ∀ G, 0 < leftN n G → ∃ j, j < n ∧ endB bs G j = true
theorem RightQ.treeG {Q : List Pt} (h : RightQ Q) : TreeG (besQ Q) Q.length :=
 ⟨h.bes_nodup, fun _ _ hj => besQ_lt h.bes hj, fun _ _ hj => (mem_besQ h.bes).2 (adjQ_symm ((mem_besQ h.bes).1 hj)), h.leaf⟩
def hitC (bs : Nat → List Nat) (P : List Nat) (j : Nat) : Nat := (P.filter fun i => decide (j ∈ bs i)).length
structure LvI (bs : Nat → List Nat) (n : Nat) (G : Nat → Bool) (L : List Nat) : Prop where
 nd : L.Nodup
 mem : ∀ j, j ∈ L ↔ j < n ∧ endB bs G j = true
theorem nodup_same {l m : List Nat} (hl : l.Nodup) (hm : m.Nodup) (h : ∀ x, x ∈ l ↔ x ∈ m) : l.length = m.length :=
 Nat.le_antisymm (nodup_len_le hl fun x hx => (h x).1 hx) (nodup_len_le hm fun x hx => (h x).2 hx)
theorem deg_none (bs : Nat → List Nat) (j : Nat) : degG bs (fun _ => false) j = (bs j).length := by
 unfold degG
 have : (bs j).filter (fun k => !(fun _ : Nat => false) k) = bs j := List.filter_eq_self.2 (fun _ _ => rfl)
 rw [this]
namespace LvI
variable {bs : Nat → List Nat} {n : Nat} {G : Nat → Bool} {L : List Nat}
theorem len (h : LvI bs n G L) : L.length = ((List.range n).filter (endB bs G)).length :=
 nodup_same h.nd (List.nodup_range.sublist List.filter_sublist) fun x => by rw [h.mem, List.mem_filter, List.mem_range]
theorem left (h : LvI bs n G L) (h2 : 2 < leftN n G) : leftN n (peel bs n G) + L.length = leftN n G := by rw [h.len]; exact leftN_peel bs n G h2
theorem pos (h : LvI bs n G L) (ht : TreeG bs n) (h2 : 0 < leftN n G) : 0 < L.length := by
 obtain ⟨j, hj⟩ := ht.leaf G h2
 exact List.length_pos_iff.2 (List.ne_nil_of_mem ((h.mem j).2 hj))
theorem le (h : LvI bs n G L) : L.length ≤ n := by
 rw [h.len]
 have := List.length_filter_le (endB bs G) (List.range n)
 simpa using this
theorem lt (h : LvI bs n G L) {j : Nat} (hj : j ∈ L) : j < n := ((h.mem j).1 hj).1
theorem hit (h : LvI bs n G L) (ht : TreeG bs n) (j : Nat) : hitC bs L j = ((bs j).filter (endB bs G)).length := by
 unfold hitC
 refine nodup_same (h.nd.sublist List.filter_sublist) ((ht.nd j).sublist List.filter_sublist) fun x => ?_
 rw [List.mem_filter, List.mem_filter, h.mem]
 simp only [decide_eq_true_eq]
 constructor
 · rintro ⟨⟨_, h2⟩, h3⟩; exact ⟨ht.sym _ _ h3, h2⟩
 · rintro ⟨h1, h2⟩; exact ⟨⟨ht.lt _ _ h1, h2⟩, ht.sym _ _ h1⟩
theorem deg (h : LvI bs n G L) (ht : TreeG bs n) (h2 : 2 < leftN n G) (j : Nat) : degG bs (peel bs n G) j + hitC bs L j = degG bs G j := by
 rw [h.hit ht]
 unfold degG
 have e : (fun k => !peel bs n G k) = fun k => (!G k) && !endB bs G k := by
  funext k
  unfold peel
  rw [decide_eq_true h2]
  cases G k <;> simp
 rw [e]
 exact filter_split (bs j) (fun k => !G k) (endB bs G) fun x _ hx => by
  unfold endB at hx
  simp only [Bool.and_eq_true] at hx
  exact hx.1
theorem start (ht : TreeG bs n) : LvI bs n (fun _ => false) ((List.range n).filter fun i => decide ((bs i).length < 2)) := by
 refine ⟨List.nodup_range.sublist List.filter_sublist, fun j => ?_⟩
 rw [List.mem_filter, List.mem_range]
 unfold endB
 rw [deg_none]
 simp
 omega
end LvI
structure MoI (n : Nat) (G : Nat → Bool) (c : Nat → Int) (M : List Nat) : Prop where
 nd : M.Nodup
 mem : ∀ j, j ∈ M ↔ j < n ∧ G j = false ∧ c j ≤ 1
def updC (c : Nat → Int) (j : Nat) (v : Int) : Nat → Int := fun x => if x = j then v else c x
namespace MoI
variable {n : Nat} {G : Nat → Bool} {c : Nat → Int} {M : List Nat}
theorem le (h : MoI n G c M) : M.length ≤ n := by
 have := nodup_len_le h.nd (m := List.range n) fun x hx => List.mem_range.2 ((h.mem x).1 hx).1
 simpa using this
theorem start {bs : Nat → List Nat} {G0 : Nat → Bool} (h2 : 2 < leftN n G0) : MoI n (peel bs n G0) (fun j => (degG bs G0 j : Int)) [] := by
 refine ⟨by simp, fun j => ?_⟩
 simp only [List.not_mem_nil, false_iff]
 rintro ⟨_, h1, h3⟩
 unfold peel endB at h1
 rw [decide_eq_true h2] at h1
 simp at h1
 have := h1.2 h1.1
 omega
theorem no (h : MoI n G c M) {j : Nat} (hj : G j = true ∨ c j - 1 ≠ 1) : MoI n G (updC c j (c j - 1)) M := by
 refine ⟨h.nd, fun x => ?_⟩
 rw [h.mem]
 unfold updC
 by_cases e : x = j
 ·
  subst e
  rw [if_pos rfl]
  rcases hj with hj | hj
  · rw [hj]; simp
  · constructor <;> rintro ⟨a, b, d⟩ <;> exact ⟨a, b, by omega⟩
 · rw [if_neg e]
theorem yes (h : MoI n G c M) {j : Nat} (hn : j < n) (h1 : G j = false) (h2 : c j - 1 = 1) : MoI n G (updC c j (c j - 1)) (M ++ [j]) := by
 have hjM : j ∉ M := fun hm => by have := ((h.mem j).1 hm).2.2; omega
 refine ⟨?_, fun x => ?_⟩
 ·
  rw [List.nodup_append]
  exact ⟨h.nd, by simp, fun a ha b hb e => by simp at hb; subst hb; subst e; exact hjM ha⟩
 ·
  rw [List.mem_append, List.mem_singleton, h.mem]
  unfold updC
  by_cases e : x = j
  ·
   subst e; rw [if_pos rfl]; simp [hn, h1]; omega
  ·
   rw [if_neg e]; simp [e]
end MoI
def cntC (bs : Nat → List Nat) (G : Nat → Bool) (P pre : List Nat) : Nat → Int := fun j => (degG bs G j : Int) - (hitC bs P j : Int) - if j ∈ pre then 1 else 0
theorem cntC_start (bs : Nat → List Nat) (G : Nat → Bool) : cntC bs G [] [] = fun j => (degG bs G j : Int) := by funext j; simp [cntC, hitC]
theorem cntC_dec {bs : Nat → List Nat} {G : Nat → Bool} {P pre : List Nat} {j : Nat} (h : j ∉ pre) : updC (cntC bs G P pre) j (cntC bs G P pre j - 1) = cntC bs G P (pre ++ [j]) := by
 funext x
 unfold updC cntC
 by_cases e : x = j
 · subst e; simp [h]
 · simp [e]
theorem cntC_next {bs : Nat → List Nat} {G : Nat → Bool} {P : List Nat} {i : Nat} : cntC bs G P (bs i) = cntC bs G (P ++ [i]) [] := by
 funext x
 unfold cntC hitC
 rw [List.filter_append, List.length_append]
 by_cases e : x ∈ bs i <;> simp [e]
 omega
theorem cntC_end {bs : Nat → List Nat} {n : Nat} {G : Nat → Bool} {L : List Nat} (h : LvI bs n G L) (ht : TreeG bs n) (h2 : 2 < leftN n G) : cntC bs G L [] = fun j => (degG bs (peel bs n G) j : Int) := by
 funext j
 have := h.deg ht h2 j
 simp [cntC]
 omega
theorem MoI.lv {bs : Nat → List Nat} {n : Nat} {G : Nat → Bool} {M : List Nat} (h : MoI n G (fun j => (degG bs G j : Int)) M) : LvI bs n G M :=
 ⟨h.nd, fun j => by rw [h.mem]; unfold endB; simp; omega⟩
def cntV (n : Nat) (c : Nat → Int) : List Int := (List.range n).map c
def tkV (n : Nat) (G : Nat → Bool) : List Bool := (List.range n).map G
theorem cntV_len (n : Nat) (c : Nat → Int) : (cntV n c).length = n := by simp [cntV]
theorem tkV_len (n : Nat) (G : Nat → Bool) : (tkV n G).length = n := by simp [tkV]
theorem cntV_get {n j : Nat} {c : Nat → Int} (h : j < n) : (cntV n c)[j]? = some (c j) := by simp [cntV, h]
theorem tkV_get {n j : Nat} {G : Nat → Bool} (h : j < n) : (tkV n G)[j]? = some (G j) := by simp [tkV, h]
theorem cntV_set {n j : Nat} {c : Nat → Int} {v : Int} : (cntV n c).set j v = cntV n (updC c j v) := by
 apply List.ext_getElem (by simp [cntV])
 intro i h1 h2
 simp only [cntV, updC, List.getElem_set, List.getElem_map, List.getElem_range]
 by_cases e : j = i
 · subst e; simp
 ·
  have : ¬ i = j := fun h => e h.symm
  simp [e, this]
theorem cntV_zero (n : Nat) : List.replicate n (0 : Int) = cntV n fun _ => 0 := by
 apply List.ext_getElem (by simp [cntV])
 intro i h1 h2
 simp [cntV]
theorem tkV_zero (n : Nat) : List.replicate n false = tkV n fun _ => false := by
 apply List.ext_getElem (by simp [tkV])
 intro i h1 h2
 simp [tkV]
def orL (G : Nat → Bool) (P : List Nat) : Nat → Bool := fun j => G j || decide (j ∈ P)
theorem tkV_set {n j : Nat} {G : Nat → Bool} {P : List Nat} : (tkV n (orL G P)).set j true = tkV n (orL G (P ++ [j])) := by
 apply List.ext_getElem (by simp [tkV])
 intro i h1 h2
 simp only [tkV, orL, List.getElem_set, List.getElem_map, List.getElem_range, List.mem_append, List.mem_singleton]
 by_cases e : j = i
 · subst e; simp
 ·
  have : ¬ i = j := fun h => e h.symm
  simp [e, this]
theorem orL_nil (G : Nat → Bool) : orL G [] = G := by funext j; simp [orL]
theorem tkV_peel {bs : Nat → List Nat} {n : Nat} {G : Nat → Bool} {L : List Nat} (h : LvI bs n G L) (h2 : 2 < leftN n G) : tkV n (orL G L) = tkV n (peel bs n G) := by
 unfold tkV
 refine List.map_congr_left fun j hj => ?_
 have hj' := List.mem_range.1 hj
 unfold orL peel
 rw [decide_eq_true h2, Bool.true_and]
 congr 1
 rw [Bool.eq_iff_iff, decide_eq_true_eq, h.mem]
 simp [hj']
end Go.Proofs.YtagcbnpahgfgmaaGreat
namespace Go.Proofs.YtagcbnpahgfgmaaGreat
def okV (Q : List Pt) (v : Int) : Prop := (atV v (allQ Q)).length = 2 ∧ pairB Q (atV v (allQ Q)) = true
def passV (Q : List Pt) (l : List Oc) : Prop := ∀ p ∈ l, p.2.2.2 ≠ 0 → okV Q p.2.2.2
theorem passV_nil (Q : List Pt) : passV Q [] := fun p hp => by simp at hp
theorem passV_real {Q : List Pt} {l : List Oc} {p : Oc} (h : passV Q l) (hp : p.2.2.2 = 0) : passV Q (l ++ [p]) := fun q hq hv => by
 rcases List.mem_append.1 hq with hq | hq
 · exact h q hq hv
 · simp at hq; subst hq; exact absurd hp hv
theorem passV_virt {Q : List Pt} {l : List Oc} {p : Oc} (h : passV Q l) (hp : okV Q p.2.2.2) : passV Q (l ++ [p]) := fun q hq hv => by
 rcases List.mem_append.1 hq with hq | hq
 · exact h q hq hv
 · simp at hq; subst hq; exact hp
theorem RightQ.okV {Q : List Pt} (h : RightQ Q) {p : Oc} (hp : p ∈ allQ Q) (hv : p.2.2.2 ≠ 0) : okV Q p.2.2.2 := by
 refine ⟨?_, h.bes.1.2 _ hv⟩
 rcases h.bes.2.1 _ hv with h0 | h2
 ·
  have : p ∈ atV p.2.2.2 (allQ Q) := mem_atV.2 ⟨hp, rfl⟩
  rw [List.eq_nil_of_length_eq_zero h0] at this; simp at this
 · exact h2
def nvO (l : List Oc) : Nat := (l.filter fun p => p.2.2.2 != 0).length
theorem nvO_real {l : List Oc} {p : Oc} (hp : p.2.2.2 = 0) : nvO (l ++ [p]) = nvO l := by unfold nvO; rw [List.filter_append]; simp [hp]
theorem nvO_virt {l : List Oc} {p : Oc} (hp : p.2.2.2 ≠ 0) : nvO (l ++ [p]) = nvO l + 1 := by unfold nvO; rw [List.filter_append]; simp [hp]
theorem nvO_le (l : List Oc) : nvO l ≤ l.length := List.length_filter_le _ _
theorem sum_atV (l : List Oc) : ∀ N : List Int, N.Nodup → (l.filter fun p => decide (p.2.2.2 ∈ N)).length = (N.map fun v => (atV v l).length).sum := by
 intro N
 induction N with
 | nil => intro _; simp
 | cons v N ih =>
  intro hn
  have hn' := List.nodup_cons.1 hn
  rw [List.map_cons, List.sum_cons, ← ih hn'.2]
  clear ih
  induction l with
  | nil => rfl
  | cons p l ih =>
   unfold atV at ih ⊢; simp only [List.filter_cons, List.mem_cons] at ih ⊢; by_cases h1 : p.2.2.2 = v
   ·
    have h2 : p.2.2.2 ∉ N := by rw [h1]; exact hn'.1
    simp [h1, hn'.1] at ih ⊢; omega
   ·
    have h3 : (p.2.2.2 == v) = false := by simpa using h1
    by_cases h2 : p.2.2.2 ∈ N
    · simp [h1, h2] at ih ⊢; omega
    · simp [h1, h2] at ih ⊢; omega
theorem nums_two {l : List Oc} (h : bothP l) : nvO l = 2 * (numsO l).length := by
 have h1 := sum_atV l (numsO l) (numsO_nodup l)
 have e : (fun p : Oc => decide (p.2.2.2 ∈ numsO l)) = fun p => decide (p.2.2.2 ∈ numsO l) := rfl
 have h2 : (l.filter fun p => decide (p.2.2.2 ∈ numsO l)) = l.filter fun p => p.2.2.2 != 0 := by
  refine List.filter_congr fun p hp => ?_
  rw [Bool.eq_iff_iff]
  simp only [decide_eq_true_eq, bne_iff_ne, ne_eq]
  rw [mem_numsO]
  exact ⟨fun h => h.1, fun h => ⟨h, p, hp, rfl⟩⟩
 rw [h2] at h1
 unfold nvO
 rw [h1]
 have h3 : ∀ N : List Int, (∀ v ∈ N, (atV v l).length = 2) → (N.map fun v => (atV v l).length).sum = 2 * N.length := by
  intro N
  induction N with
  | nil => intro _; rfl
  | cons v N ih =>
   intro hN; rw [List.map_cons, List.sum_cons, ih fun x hx => hN x (by simp [hx]), hN v (by simp), List.length_cons]; omega
 refine h3 _ fun v hv => ?_
 obtain ⟨h0, p, hp, hpv⟩ := mem_numsO.1 hv
 rcases h v h0 with h4 | h4
 ·
  have : p ∈ atV v l := mem_atV.2 ⟨hp, hpv⟩
  rw [List.eq_nil_of_length_eq_zero h4] at this; simp at this
 · exact h4
theorem passV_both {Q : List Pt} (h : passV Q (allQ Q)) : bothP (allQ Q) ∧ ∀ v, v ≠ 0 → pairB Q (atV v (allQ Q)) = true := by
 refine ⟨fun v hv => ?_, fun v hv => ?_⟩ <;> cases he : atV v (allQ Q) with
 | nil => simp [pairB]
 | cons p l =>
  have hp : p ∈ atV v (allQ Q) := by rw [he]; simp
  obtain ⟨h1, h2⟩ := mem_atV.1 hp
  have := h p h1 (by rw [h2]; exact hv)
  rw [h2] at this
  first
  | (rw [← he]; exact .inr this.1)
  | (rw [← he]; exact this.2)
def stepS (Q : List Pt) (G : Nat → Bool) (p : Oc) : Nat → Bool := if p.2.2.2 = 0 then G else match atV p.2.2.2 (allQ Q) with
 | a :: b :: _ => if G a.1 || G b.1 then (fun j => G j || (decide (j = a.1) || decide (j = b.1))) else G
 | _ => G
def foldS (Q : List Pt) (G : Nat → Bool) (l : List Oc) : Nat → Bool := l.foldl (stepS Q) G
theorem foldS_snoc (Q : List Pt) (G : Nat → Bool) (l : List Oc) (p : Oc) : foldS Q G (l ++ [p]) = stepS Q (foldS Q G l) p := by unfold foldS; rw [List.foldl_append]; rfl
theorem foldS_append (Q : List Pt) (G : Nat → Bool) (l m : List Oc) : foldS Q G (l ++ m) = foldS Q (foldS Q G l) m := by unfold foldS; rw [List.foldl_append]
def roundS (Q : List Pt) : Nat → Nat → Bool
 | 0 => fun j => decide (j = 0)
 | r + 1 => foldS Q (roundS Q r) (allQ Q)
theorem stepS_mono (Q : List Pt) (G : Nat → Bool) (p : Oc) {j : Nat} (h : G j = true) : stepS Q G p j = true := by
 unfold stepS
 by_cases h0 : p.2.2.2 = 0
 · rw [if_pos h0]; exact h
 ·
  rw [if_neg h0]
  generalize atV p.2.2.2 (allQ Q) = z
  match z with
  | [] => exact h
  | [_] => exact h
  | a :: b :: c =>
   simp only; by_cases hg : (G a.1 || G b.1) = true
   · rw [if_pos hg]; simp [h]
   · rw [if_neg hg]; exact h
theorem foldS_mono (Q : List Pt) : ∀ (l : List Oc) (G : Nat → Bool) {j : Nat}, G j = true → foldS Q G l j = true
 | [], _, _, h => h
 | p :: l, G, _, h => foldS_mono Q l _ (stepS_mono Q G p h)
theorem roundS_mono (Q : List Pt) {r s : Nat} (h : r ≤ s) {j : Nat} (hj : roundS Q r j = true) : roundS Q s j = true := by
 induction s with
 | zero =>
  obtain rfl : r = 0 := by omega
  exact hj
 | succ s ih =>
  by_cases e : r = s + 1
  · subst e; exact hj
  · exact foldS_mono Q _ _ (ih (by omega))
theorem adj_pair {Q : List Pt} {v : Int} (hv : v ≠ 0) {a b : Oc} (h : atV v (allQ Q) = [a, b]) (hp : pairB Q [a, b] = true) : adjQ Q a.1 b.1 = true := by
 simp only [pairB, Bool.and_eq_true, decide_eq_true_eq] at hp
 have ha := mem_atV.1 (by rw [h]; simp : a ∈ atV v (allQ Q))
 have hb := mem_atV.1 (by rw [h]; simp : b ∈ atV v (allQ Q))
 exact adjQ_iff.2 ⟨hp.2.1, a.2, b.2, mem_allQ.1 ha.1, mem_allQ.1 hb.1, by rw [ha.2]; exact hv, by rw [ha.2, hb.2]⟩
theorem okV_two {Q : List Pt} {v : Int} (h : okV Q v) : ∃ a b, atV v (allQ Q) = [a, b] ∧ pairB Q [a, b] = true := by
 obtain ⟨h1, h2⟩ := h
 match hl : atV v (allQ Q), h1 with
 | [a, b], _ => rw [hl] at h2; exact ⟨a, b, rfl, h2⟩
theorem step_con {Q : List Pt} {G : Nat → Bool} {p : Oc} (hp : p.2.2.2 ≠ 0 → okV Q p.2.2.2) (h : ∀ j, G j = true → Con (nbQ Q) (· < Q.length) 0 j) : ∀ j, stepS Q G p j = true → Con (nbQ Q) (· < Q.length) 0 j := by
 intro j hj
 unfold stepS at hj
 split at hj
 · exact h j hj
 ·
  rename_i h0
  obtain ⟨a, b, hab, hpr⟩ := okV_two (hp h0)
  rw [hab] at hj
  simp only at hj
  split at hj
  ·
   rename_i hg; have hadj := adj_pair h0 hab hpr; have ha := lnQ_mem (mem_allQ.1 (mem_atV.1 (by rw [hab]; simp : a ∈ atV p.2.2.2 (allQ Q))).1); have hb := lnQ_mem (mem_allQ.1 (mem_atV.1 (by rw [hab]; simp : b ∈ atV p.2.2.2 (allQ Q))).1); have hca : Con (nbQ Q) (· < Q.length) 0 a.1 ∧ Con (nbQ Q) (· < Q.length) 0 b.1 := by
    rcases Bool.or_eq_true _ _ ▸ hg with h1 | h1
    · exact ⟨h _ h1, .step (h _ h1) (mem_nbQ.2 hadj) hb⟩
    · exact ⟨.step (h _ h1) (mem_nbQ.2 (adjQ_symm hadj)) ha, h _ h1⟩
   simp only [Bool.or_eq_true, decide_eq_true_eq] at hj; rcases hj with hj | rfl | rfl
   · exact h j hj
   · exact hca.1
   · exact hca.2
  · exact h j hj
theorem fold_con {Q : List Pt} : ∀ (l : List Oc) (G : Nat → Bool), passV Q l → (∀ j, G j = true → Con (nbQ Q) (· < Q.length) 0 j) → ∀ j, foldS Q G l j = true → Con (nbQ Q) (· < Q.length) 0 j
 | [], _, _, h => h
 | p :: l, G, hp, h => fold_con l _ (fun q hq => hp q (by simp [hq])) (step_con (fun hv => hp p (by simp) hv) h)
theorem round_con {Q : List Pt} (h0 : 0 < Q.length) (hp : passV Q (allQ Q)) : ∀ r j, roundS Q r j = true → Con (nbQ Q) (· < Q.length) 0 j
 | 0, j, h => by
  have : j = 0 := by simpa [roundS] using h
  subst this; exact .refl h0
 | r + 1, j, h => fold_con _ _ hp (round_con h0 hp r) j h
def cntB (n : Nat) (G : Nat → Bool) : Nat := ((List.range n).filter G).length
theorem cntB_le (n : Nat) (G : Nat → Bool) : cntB n G ≤ n := by
 unfold cntB
 have := List.length_filter_le G (List.range n)
 simpa using this
theorem filter_len_mono {α : Type} {p q : α → Bool} : ∀ {l : List α}, (∀ x ∈ l, p x = true → q x = true) → (l.filter p).length ≤ (l.filter q).length
 | [], _ => by simp
 | a :: l, h => by
  have i1 := filter_len_mono (l := l) fun x hx => h x (by simp [hx])
  have ha := h a (by simp)
  simp only [List.filter_cons]
  cases hp : p a with
  | true => rw [ha hp]; simp; exact i1
  | false => cases q a <;> simp <;> omega
theorem filter_len_eq {α : Type} {p q : α → Bool} : ∀ {l : List α}, (∀ x ∈ l, p x = true → q x = true) → (l.filter q).length ≤ (l.filter p).length → ∀ x ∈ l, q x = true → p x = true
 | [], _, _ => fun x hx => by simp at hx
 | a :: l, h, hle => fun x hx hq => by
  have i0 := filter_len_mono (l := l) (p := p) (q := q) fun x hx => h x (by simp [hx])
  have ha := h a (by simp)
  simp only [List.filter_cons] at hle
  have hle' : (l.filter q).length ≤ (l.filter p).length ∧ (q a = true → p a = true) := by
   cases hp : p a with
   | true => rw [hp, ha hp] at hle; simp at hle; exact ⟨hle, fun _ => rfl⟩
   | false =>
    rw [hp] at hle; cases hqa : q a with
    | true => rw [hqa] at hle; simp at hle; omega
    | false => rw [hqa] at hle; simp at hle; exact ⟨hle, fun h => by cases h⟩
  rcases List.mem_cons.1 hx with rfl | hx
  · exact hle'.2 hq
  · exact filter_len_eq (l := l) (fun x hx => h x (by simp [hx])) hle'.1 x hx hq
theorem round_all {Q : List Pt} (h0 : 0 < Q.length) (hp : passV Q (allQ Q)) : (∀ j, j < Q.length → roundS Q Q.length j = true) ↔ conP Q := by
 constructor
 · exact fun h j hj => round_con h0 hp _ j (h j hj)
 ·
  intro hc
  have hex : ∃ r, r < Q.length ∧ cntB Q.length (roundS Q (r + 1)) ≤ cntB Q.length (roundS Q r) := by
   refine Classical.byContradiction fun hno => ?_; have hgrow : ∀ r, r ≤ Q.length → r + 1 ≤ cntB Q.length (roundS Q r) := by
    intro r; induction r with
    | zero =>
     intro _; unfold cntB; refine List.length_pos_iff.2 (List.ne_nil_of_mem (a := 0) ?_); rw [List.mem_filter, List.mem_range]; exact ⟨h0, by simp [roundS]⟩
    | succ r ih =>
     intro hr; have h1 := ih (by omega); have h2 : ¬ cntB Q.length (roundS Q (r + 1)) ≤ cntB Q.length (roundS Q r) := fun h => hno ⟨r, by omega, h⟩; omega
   have := hgrow Q.length (Nat.le_refl _); have := cntB_le Q.length (roundS Q Q.length); omega
  obtain ⟨r, hr, hle⟩ := hex
  have hsame := filter_len_eq (l := List.range Q.length) (p := roundS Q r) (q := roundS Q (r + 1)) (fun x _ hx => roundS_mono Q (by omega) hx) hle
  intro j hj
  refine roundS_mono Q (by omega : r ≤ Q.length) ?_
  refine Con.to (fun j => roundS Q r j = true) (roundS_mono Q (Nat.zero_le r) (by simp [roundS])) (fun y z hy hz => ?_) (hc j hj)
  obtain ⟨hne, e, f, he, hf, hv, hfe⟩ := adjQ_iff.1 (mem_nbQ.1 hz)
  have hzn := lnQ_mem hf
  have hm : (y, e) ∈ allQ Q := mem_allQ.2 he
  obtain ⟨l1, l2, hl⟩ := List.append_of_mem hm
  obtain ⟨a, b, hab, hpr⟩ := okV_two (hp (y, e) hm hv)
  simp only at hab
  have m1 : (y, e) ∈ atV e.2.2 (allQ Q) := mem_atV.2 ⟨hm, rfl⟩
  have m2 : (z, f) ∈ atV e.2.2 (allQ Q) := mem_atV.2 ⟨mem_allQ.2 hf, hfe⟩
  rw [hab] at m1 m2
  refine hsame z (List.mem_range.2 hzn) ?_
  show foldS Q (roundS Q r) (allQ Q) z = true
  rw [hl, show l1 ++ (y, e) :: l2 = (l1 ++ [(y, e)]) ++ l2 by simp, foldS_append, foldS_snoc]
  refine foldS_mono Q _ _ ?_
  have hgy := foldS_mono Q l1 (roundS Q r) hy
  unfold stepS
  rw [if_neg (by exact hv), hab]
  simp only
  have hya : y = a.1 ∨ y = b.1 := by
   simp at m1; rcases m1 with h | h
   · exact .inl (by rw [← h])
   · exact .inr (by rw [← h])
  have hza : z = a.1 ∨ z = b.1 := by
   simp at m2; rcases m2 with h | h
   · exact .inl (by rw [← h])
   · exact .inr (by rw [← h])
  have hg : (foldS Q (roundS Q r) l1 a.1 || foldS Q (roundS Q r) l1 b.1) = true := by
   rcases hya with h | h <;> rw [← h, hgy] <;> simp
  rw [if_pos hg]
  rcases hza with h | h <;> simp [h]
def seenR (Q : List Pt) (i : Nat) : Prop := ∀ j (h : j < Q.length), j < i → Q[j].1 ≠ 0 ∧ Q[j].1 = kindR Q[j].2 ∧ (∀ h0 : 0 < j, cmpLs (Q[j - 1]'(by omega)).2 Q[j].2 < 0)
theorem seenR_zero (Q : List Pt) : seenR Q 0 := fun j _ h => absurd h (by omega)
theorem seenR_next {Q : List Pt} {i : Nat} (h : seenR Q i) (hi : i < Q.length) (h1 : Q[i].1 ≠ 0) (h2 : Q[i].1 = kindR Q[i].2) (h3 : ∀ h0 : 0 < i, cmpLs (Q[i - 1]'(by omega)).2 Q[i].2 < 0) : seenR Q (i + 1) := fun j hj hji => by
 by_cases e : j = i
 · subst e; exact ⟨h1, h2, h3⟩
 · exact h j hj (by omega)
theorem seenR_seen {Q : List Pt} {i : Nat} (h : seenR Q i) : seenQ Q i := fun j hj hji => by
 obtain ⟨h1, h2, h3⟩ := h j hj hji
 exact ⟨h1, by rw [h2, kind_same], fun h0 => by have := h3 h0; omega⟩
theorem RightQ.seenR {Q : List Pt} (h : RightQ Q) {j : Nat} (hj : j < Q.length) : Q[j].1 ≠ 0 ∧ Q[j].1 = kindR Q[j].2 ∧ (∀ h0 : 0 < j, cmpLs (Q[j - 1]'(by omega)).2 Q[j].2 < 0) := by
 obtain ⟨h1, h2⟩ := h.kinds _ (List.getElem_mem hj)
 refine ⟨h1, by rw [kind_same]; exact h2, fun h0 => ?_⟩
 obtain ⟨k, rfl⟩ : ∃ k, j = k + 1 := ⟨j - 1, by omega⟩
 have h3 := h.ord k hj
 have h4 := h.strict (i := k) (j := k + 1) (by omega) hj
 simp only [Nat.add_sub_cancel]
 have : cmpLs Q[k].2 Q[k + 1].2 ≠ 0 := fun e => h4 (cmpLs_zero.1 e)
 omega
theorem right_doc {Q : List Pt} (h0 : 0 < Q.length) : RightQ Q ↔ seenR Q Q.length ∧ passV Q (allQ Q) ∧ (realsO (allQ Q)).Nodup ∧ nvO (allQ Q) + 2 = 2 * Q.length ∧ ∀ j, j < Q.length → roundS Q Q.length j = true := by
 constructor
 ·
  intro h
  have hp : passV Q (allQ Q) := fun p hp hv => h.okV hp hv
  have h2 := nums_two h.bes.2.1
  have h3 := h.bes.2.2
  exact ⟨fun j hj _ => h.seenR hj, hp, h.bes.1.1, by omega, (round_all h0 hp).2 h.con⟩
 ·
  rintro ⟨h1, h2, h3, h4, h5⟩
  obtain ⟨hk, ho⟩ := seenQ_all.1 (seenR_seen h1)
  obtain ⟨hb, hpr⟩ := passV_both h2
  have hn := nums_two hb
  exact ⟨fun e => by subst e; simp at h0, hk, ho, ⟨⟨h3, hpr⟩, hb, by omega⟩, (round_all h0 h2).1 h5⟩
end Go.Proofs.YtagcbnpahgfgmaaGreat
namespace Go.Proofs.YtagcbnpahgfgmaaGreat
def mayO (Q : List Pt) (p : Oc) : Bool := kdQ Q p.1 != 3 && p.2.2.2 != 0
def colO (Q : List Pt) (l : List Oc) : List Oc := l.filter (mayO Q)
def lastO (Q : List Pt) (l : List Oc) (v : Int) : Option Oc := (atV v (colO Q l)).getLast?
def clearP (Q : List Pt) (l : List Oc) : Prop := ∀ l1 p l2, colO Q l = l1 ++ p :: l2 → ∀ q, (atV p.2.2.2 l1).getLast? = some q → kdQ Q q.1 ≠ kdQ Q p.1
theorem colO_snoc (Q : List Pt) (l : List Oc) (p : Oc) : colO Q (l ++ [p]) = colO Q l ++ if mayO Q p then [p] else [] := by
 unfold colO
 rw [List.filter_append]
 congr 1
 by_cases h : mayO Q p = true
 · rw [if_pos h, List.filter_cons_of_pos h]; rfl
 · rw [if_neg h, List.filter_cons_of_neg h]; rfl
theorem lastO_no {Q : List Pt} {l : List Oc} {p : Oc} (h : mayO Q p = false) (v : Int) : lastO Q (l ++ [p]) v = lastO Q l v := by
 unfold lastO
 rw [colO_snoc, h]; simp
theorem lastO_yes {Q : List Pt} {l : List Oc} {p : Oc} (h : mayO Q p = true) (v : Int) : lastO Q (l ++ [p]) v = if v = p.2.2.2 then some p else lastO Q l v := by
 unfold lastO
 rw [colO_snoc, if_pos h, atV_append, atV_one]
 by_cases hv : p.2.2.2 = v
 · rw [if_pos hv, if_pos hv.symm]; simp
 · rw [if_neg hv, if_neg (fun e => hv e.symm), List.append_nil]
theorem clear_nil (Q : List Pt) : clearP Q [] := fun l1 p l2 h => by simp [colO] at h
theorem clear_no {Q : List Pt} {l : List Oc} {p : Oc} (h : mayO Q p = false) (hc : clearP Q l) : clearP Q (l ++ [p]) := by
 unfold clearP at hc ⊢
 rw [colO_snoc, h]
 simpa using hc
theorem clear_yes {Q : List Pt} {l : List Oc} {p : Oc} (h : mayO Q p = true) (hc : clearP Q l) (hk : ∀ q, lastO Q l p.2.2.2 = some q → kdQ Q q.1 ≠ kdQ Q p.1) : clearP Q (l ++ [p]) := by
 intro l1 r l2 hl q hq
 rw [colO_snoc, if_pos h] at hl
 rcases List.eq_nil_or_concat l2 with rfl | ⟨m, s, rfl⟩
 ·
  obtain ⟨h1, h2⟩ := List.append_inj' hl rfl
  cases h2
  exact hk q (by unfold lastO; rw [h1]; exact hq)
 ·
  rw [List.concat_eq_append] at hl
  have h6 : colO Q l ++ [p] = (l1 ++ r :: m) ++ [s] := by rw [hl]; simp
  obtain ⟨h1, _⟩ := List.append_inj' h6 rfl
  exact hc l1 r m h1 q hq
def alikeP (Q : List Pt) (i j : Nat) (v : Int) : Prop := ∃ l1 p l2 q, colO Q (allQ Q) = l1 ++ p :: l2 ∧ p.2.2.2 = v ∧ p.1 = j ∧ (atV v l1).getLast? = some q ∧ q.1 = i ∧ kdQ Q i = kdQ Q j
theorem alike_at {Q : List Pt} {l b : List Oc} {p q : Oc} (hl : allQ Q = l ++ p :: b) (h : mayO Q p = true) (hq : lastO Q l p.2.2.2 = some q) (hk : kdQ Q q.1 = kdQ Q p.1) : alikeP Q q.1 p.1 p.2.2.2 := by
 refine ⟨colO Q l, p, colO Q b, q, ?_, rfl, rfl, hq, rfl, hk⟩
 rw [hl]
 unfold colO
 rw [List.filter_append, List.filter_cons_of_pos h]
theorem alikeP.places {Q : List Pt} {i j : Nat} {v : Int} (h : alikeP Q i j v) : v ≠ 0 ∧ kdQ Q j ≠ 3 ∧ kdQ Q i = kdQ Q j ∧ ∃ e f b1 b2 b3, allQ Q = b1 ++ (i, e) :: b2 ++ (j, f) :: b3 ∧ e.2.2 = v ∧ f.2.2 = v := by
 obtain ⟨l1, p, l2, q, h1, h2, h3, h4, h5, h6⟩ := h
 have hp : p ∈ colO Q (allQ Q) := by rw [h1]; simp
 have hm := (List.mem_filter.1 hp).2
 unfold mayO at hm
 simp only [Bool.and_eq_true, bne_iff_ne, ne_eq] at hm
 obtain ⟨i', e⟩ := q
 obtain ⟨j', f⟩ := p
 simp only at h2 h3 h5 hm
 subst h3; subst h5
 have hq : (i', e) ∈ atV v l1 := List.mem_of_getLast? h4
 obtain ⟨hq1, hq2⟩ := mem_atV.1 hq
 obtain ⟨c1, c2, rfl⟩ := List.append_of_mem hq1
 refine ⟨by rw [← h2]; exact hm.2, hm.1, h6, e, f, ?_⟩
 have hs : List.Sublist ((c1 ++ (i', e) :: c2) ++ (j', f) :: l2) (allQ Q) := by rw [← h1]; exact List.filter_sublist
 have hs2 : List.Sublist [(i', e), (j', f)] (allQ Q) := by
  refine List.Sublist.trans ?_ hs
  have a1 : List.Sublist [(i', e)] (c1 ++ (i', e) :: c2) := List.singleton_sublist.2 (by simp)
  have a2 : List.Sublist [(j', f)] ((j', f) :: l2) := List.singleton_sublist.2 (by simp)
  exact a1.append a2
 obtain ⟨r1, r2, h7, h8, h9⟩ := List.cons_sublist_iff.1 hs2
 obtain ⟨s1, s2, rfl⟩ := List.append_of_mem h8
 obtain ⟨t1, t2, rfl⟩ := List.append_of_mem (List.singleton_sublist.1 h9)
 exact ⟨s1, s2 ++ t1, t2, by rw [h7]; simp, hq2, h2⟩
end Go.Proofs.YtagcbnpahgfgmaaGreat
namespace Go.Proofs.YtagcbnpahgfgmaaGreat
theorem row_count {Q : List Pt} {m i : Nat} {e : Lk} : (rowO Q m).count (i, e) = if m = i then (lnQ Q i).count e else 0 := by
 unfold rowO
 by_cases h : m = i
 ·
  subst h
  rw [if_pos rfl]
  induction lnQ Q m with
  | nil => rfl
  | cons a l ih => rw [List.map_cons, List.count_cons, List.count_cons, ih]; simp
 ·
  rw [if_neg h]
  refine List.count_eq_zero_of_not_mem fun hm => ?_
  obtain ⟨x, _, hx⟩ := List.mem_map.1 hm
  cases hx; exact h rfl
theorem pre_count {Q : List Pt} {i : Nat} {e : Lk} : ∀ n, (preO Q n).count (i, e) = if i < n then (lnQ Q i).count e else 0 := by
 intro n
 induction n with
 | zero => simp [preO]
 | succ n ih =>
  rw [preO_succ, List.count_append, ih, row_count]
  by_cases h1 : i < n
  · rw [if_pos h1, if_neg (by omega), if_pos (by omega)]; rfl
  ·
   by_cases h2 : n = i
   · rw [if_neg h1, if_pos h2, if_pos (by omega)]; omega
   · rw [if_neg h1, if_neg h2, if_neg (by omega)]
theorem all_count {Q : List Pt} {i : Nat} {e : Lk} (hi : i < Q.length) : (allQ Q).count (i, e) = (lnQ Q i).count e := by
 have := pre_count (Q := Q) (i := i) (e := e) Q.length
 rw [if_pos hi] at this; exact this
theorem alikeP.two {ls : List Lk} {Q : List Pt} (h : QI ls Q) {i j : Nat} {v : Int} (ha : alikeP Q i j v) : i < Q.length ∧ j < Q.length ∧ i ≠ j ∧ v ≠ 0 ∧ kdQ Q i = kdQ Q j ∧ kdQ Q j ≠ 3 ∧ ∃ e f, e ∈ lnQ Q i ∧ f ∈ lnQ Q j ∧ e.2.2 = v ∧ f.2.2 = v := by
 obtain ⟨h0, h3, hk, e, f, b1, b2, b3, hall, he, hf⟩ := ha.places
 have me : e ∈ lnQ Q i := (mem_allQ (p := (i, e))).1 (by rw [hall]; simp)
 have mf : f ∈ lnQ Q j := (mem_allQ (p := (j, f))).1 (by rw [hall]; simp)
 refine ⟨lnQ_mem me, lnQ_mem mf, fun hij => ?_, h0, hk, h3, e, f, me, mf, he, hf⟩
 subst hij
 have hi := lnQ_mem me
 have hme := me
 have hmf := mf
 rw [lnQ_at hi] at hme hmf
 have hef : f = e := h.uniq (List.getElem_mem hi) (mem_virtL.2 ⟨hme, by rw [he]; exact h0⟩) f hmf (by rw [hf, he])
 subst hef
 have h1 := all_count (Q := Q) (e := f) hi
 have h2 : 2 ≤ (allQ Q).count (i, f) := by
  rw [hall]
  simp [List.count_append, List.count_cons]
  omega
 have h3 : (lnQ Q i).count f ≤ 1 := by
  rw [lnQ_at hi]
  exact List.nodup_iff_count.1 ((h.right _ (List.getElem_mem hi)).2.2.imp fun h e => by subst e; exact LtL.irrefl _ h) f
 omega
end Go.Proofs.YtagcbnpahgfgmaaGreat
namespace Go.Proofs.YtagcbnpahgfgmaaGreat
theorem perm_any {α : Type} {Q : List α} {i j : Nat} (hij : i ≠ j) (hi : i < Q.length) (hj : j < Q.length) : ∃ R, Q.Perm (Q[i] :: Q[j] :: R) := by
 rcases Nat.lt_or_gt_of_ne hij with h | h
 · exact perm_two h hj
 ·
  obtain ⟨R, hR⟩ := perm_two h hi
  exact ⟨R, hR.trans (.swap ..)⟩
def mergeQ (Q : List Pt) (i j : Nat) (v : Int) : List Pt := (Q.set i (kdQ Q i, joinL (lnQ Q i) (lnQ Q j) v)).eraseIdx j
theorem perm_set {α : Type} {Q : List α} {i j : Nat} (hij : i ≠ j) (hi : i < Q.length) (hj : j < Q.length) (x : α) : ∃ R, Q.Perm (Q[i] :: Q[j] :: R) ∧ ((Q.set i x).eraseIdx j).Perm (x :: R) := by
 have h1 := perm_cons_eraseIdx' (Q := Q) hj
 have h3 : (Q.set i x).eraseIdx j = (Q.eraseIdx j).set (if i < j then i else i - 1) x := by
  by_cases h : i < j
  · rw [if_pos h, List.eraseIdx_set_gt h]
  ·
   have : i = (i - 1) + 1 := by omega
   rw [if_neg h]; conv => lhs; rw [this]
   rw [List.eraseIdx_set_lt (by omega), Nat.add_sub_cancel]
 obtain ⟨m, hm⟩ : ∃ m, m = if i < j then i else i - 1 := ⟨_, rfl⟩
 have hml : m < (Q.eraseIdx j).length := by rw [List.length_eraseIdx, if_pos hj]; split at hm <;> omega
 have hmi : (Q.eraseIdx j)[m] = Q[i] := by
  rw [List.getElem_eraseIdx]
  split at hm
  ·
   have e : m = i := hm; subst e; rw [dif_pos (by assumption)]
  ·
   have e : m + 1 = i := by omega
   subst e; rw [dif_neg (by omega)]
 rw [h3, ← hm]
 refine ⟨(Q.eraseIdx j).eraseIdx m, ?_, ?_⟩
 ·
  refine h1.trans ?_
  refine ((perm_cons_eraseIdx' hml).cons _).trans ?_
  rw [hmi]; exact .swap ..
 ·
  have hml2 : m < ((Q.eraseIdx j).set m x).length := by rw [List.length_set]; exact hml
  have h4 := perm_cons_eraseIdx' hml2
  rw [List.getElem_set_self, List.eraseIdx_set_eq] at h4
  exact h4
theorem alikeP.step {ls : List Lk} {Q : List Pt} (h : QI ls Q) {i j : Nat} {v : Int} (ha : alikeP Q i j v) : ∃ e, e ∈ lnQ Q i ∧ e ∈ lnQ Q j ∧ e.2.2 = v ∧ MStep e Q (mergeQ Q i j v) := by
 obtain ⟨hi, hj, hij, h0, hk, h3, e, f, he, hf, hev, hfv⟩ := ha.two h
 obtain ⟨D, hT, _⟩ := h.tree
 have hef : e = f := by
  refine hT.same_num (mem_occL.2 ⟨Q[i].2, List.mem_map_of_mem (List.getElem_mem hi), by rw [← lnQ_at hi]; exact he, by rw [hev]; exact h0⟩) (mem_occL.2 ⟨Q[j].2, List.mem_map_of_mem (List.getElem_mem hj), by rw [← lnQ_at hj]; exact hf, by rw [hfv]; exact h0⟩) (by rw [hev, hfv])
 subst hef
 obtain ⟨R, hR, hS⟩ := perm_set hij hi hj (kdQ Q i, joinL (lnQ Q i) (lnQ Q j) v)
 refine ⟨e, he, hf, hev, Q[i], Q[j], R, hR, mem_virtL.2 ⟨by rw [← lnQ_at hi]; exact he, by rw [hev]; exact h0⟩, mem_virtL.2 ⟨by rw [← lnQ_at hj]; exact hf, by rw [hev]; exact h0⟩, ?_, ?_, ?_⟩
 · rw [← kdQ_at hi, ← kdQ_at hj]; exact hk
 · rw [← kdQ_at hi, hk]; exact h3
 ·
  unfold mergeQ
  rw [← kdQ_at hi, ← lnQ_at hi, ← lnQ_at hj, hev]
  exact hS
theorem split_pair {α : Type} {S : List α} {a b : α} (ha : a ∈ S) (hb : b ∈ S) (hne : a ≠ b) : ∃ l1 p l2 q, S = l1 ++ p :: l2 ∧ q ∈ l1 ∧ ((p = a ∧ q = b) ∨ (p = b ∧ q = a)) := by
 obtain ⟨s, t, rfl⟩ := List.append_of_mem ha
 rcases List.mem_append.1 hb with h | h
 · exact ⟨s, a, t, b, rfl, h, .inl ⟨rfl, rfl⟩⟩
 ·
  rcases List.mem_cons.1 h with h | h
  · exact absurd h.symm hne
  ·
   obtain ⟨t1, t2, rfl⟩ := List.append_of_mem h; exact ⟨s ++ a :: t1, b, t2, a, by simp, by simp, .inr ⟨rfl, rfl⟩⟩
theorem clearP.normal {ls : List Lk} {Q : List Pt} (h : QI ls Q) (hc : clearP Q (allQ Q)) : MNormal Q := by
 intro e Q' hs
 obtain ⟨x, y, R, hp, hex, hey, hk, h3, _⟩ := hs
 have hxy : x ≠ y := fun he => h.distinct hp (by rw [he])
 obtain ⟨a, ha, hax⟩ := List.getElem_of_mem (hp.mem_iff.2 (by simp : x ∈ x :: y :: R))
 obtain ⟨b, hb, hby⟩ := List.getElem_of_mem (hp.mem_iff.2 (by simp : y ∈ x :: y :: R))
 have hab : a ≠ b := fun he => by subst he; exact hxy (hax.symm.trans hby)
 obtain ⟨h1, hv⟩ := mem_virtL.1 hex
 have h2 := (mem_virtL.1 hey).1
 have ma : (a, e) ∈ colO Q (allQ Q) := by
  unfold colO
  rw [List.mem_filter]
  refine ⟨mem_allQ.2 (by simp only; rw [lnQ_at ha, hax]; exact h1), ?_⟩
  unfold mayO
  simp only [kdQ_at ha, hax, Bool.and_eq_true, bne_iff_ne, ne_eq]
  exact ⟨h3, hv⟩
 have mb : (b, e) ∈ colO Q (allQ Q) := by
  unfold colO
  rw [List.mem_filter]
  refine ⟨mem_allQ.2 (by simp only; rw [lnQ_at hb, hby]; exact h2), ?_⟩
  unfold mayO
  simp only [kdQ_at hb, hby, Bool.and_eq_true, bne_iff_ne, ne_eq]
  exact ⟨by rw [← hk]; exact h3, hv⟩
 obtain ⟨l1, p, l2, q, hS, hq, hpq⟩ := split_pair ma mb (fun he => hab (by cases he; rfl))
 have hpe : p.2.2.2 = e.2.2 ∧ kdQ Q p.1 = x.1 := by
  rcases hpq with ⟨rfl, _⟩ | ⟨rfl, _⟩
  · exact ⟨rfl, by simp only; rw [kdQ_at ha, hax]⟩
  · exact ⟨rfl, by simp only; rw [kdQ_at hb, hby, hk]⟩
 have hqe : q.2.2.2 = e.2.2 := by rcases hpq with ⟨_, rfl⟩ | ⟨_, rfl⟩ <;> rfl
 have hqa : q ∈ atV p.2.2.2 l1 := mem_atV.2 ⟨hq, by rw [hqe, hpe.1]⟩
 obtain ⟨r, hr⟩ : ∃ r, (atV p.2.2.2 l1).getLast? = some r := by
  cases hl : (atV p.2.2.2 l1).getLast? with
  | none => rw [List.getLast?_eq_none_iff.1 hl] at hqa; simp at hqa
  | some r => exact ⟨r, rfl⟩
 refine hc l1 p l2 hS r hr ?_
 obtain ⟨hr1, hr2⟩ := mem_atV.1 (List.mem_of_getLast? hr)
 have hrall : r ∈ allQ Q := (List.mem_filter.1 (show r ∈ colO Q (allQ Q) by rw [hS]; simp [hr1])).1
 have hrl := mem_allQ.1 hrall
 have hrn := lnQ_mem hrl
 rw [lnQ_at hrn] at hrl
 have hrQ : Q[r.1] ∈ x :: y :: R := hp.mem_iff.1 (List.getElem_mem hrn)
 rw [hpe.2, kdQ_at hrn]
 simp only [List.mem_cons] at hrQ
 rcases hrQ with hz | hz | hz
 · rw [hz]
 · rw [hz, hk]
 · exact absurd (by rw [hr2, hpe.1]) (h.only hp hex hey _ hz r.2 hrl)
theorem QI.len {ls : List Lk} {Q : List Pt} (h : QI ls Q) : Q.length ≤ ls.length := by
 cases hQ : Q with
 | nil => simp
 | cons q R =>
  obtain ⟨D, hT, _⟩ := h.tree
  have hp : (Q.map fun q => q.2).Perm (q.2 :: R.map fun q => q.2) := by rw [hQ]; exact .refl _
  have h1 := QI.small hT hp (fun x hx => by
   obtain ⟨r, hr, rfl⟩ := List.mem_map.1 hx
   exact h.three r (by rw [hQ]; simp [hr]))
  have h2 := h.rels.length_eq
  have h3 := h.three q (by rw [hQ]; simp)
  simp at h1 ⊢
  omega
end Go.Proofs.YtagcbnpahgfgmaaGreat
namespace Go.Proofs.YtagcbnpahgfgmaaGreat
def hasV (Q : List Pt) (u : Int) : Prop := ∃ e ∈ occL (Q.map fun q => q.2), e.2.2 = u
theorem rowO_fst {Q : List Pt} {m : Nat} {p : Oc} (h : p ∈ rowO Q m) : p.1 = m := (mem_rowO.1 h).1
theorem preO_sorted (Q : List Pt) : ∀ n, (preO Q n).Pairwise fun p q => p.1 ≤ q.1 := by
 intro n
 induction n with
 | zero => simp [preO]
 | succ n ih =>
  rw [preO_succ, List.pairwise_append]
  refine ⟨ih, ?_, fun p hp q hq => ?_⟩
  ·
   refine List.pairwise_iff_forall_sublist.2 fun {a b} hab => ?_; have ha := rowO_fst (hab.subset (by simp : a ∈ [a, b])); have hb := rowO_fst (hab.subset (by simp : b ∈ [a, b])); omega
  ·
   have h1 := (mem_preO.1 hp).1; have h2 := rowO_fst hq; omega
theorem two_places {ls : List Lk} {Q : List Pt} (h : QI ls Q) {v : Int} (h0 : v ≠ 0) (hv : hasV Q v) : ∃ i j e, i < j ∧ i < Q.length ∧ j < Q.length ∧ atV v (allQ Q) = [(i, e), (j, e)] ∧ e ∈ lnQ Q i ∧ e ∈ lnQ Q j ∧ e.2.2 = v := by
 obtain ⟨D, hT, _⟩ := h.tree
 obtain ⟨e, he, hev⟩ := hv
 have hD := hT.memD.2 he
 have hall : ∀ p ∈ atV v (allQ Q), p.2 = e := fun p hp => by
  obtain ⟨h1, h2⟩ := mem_atV.1 hp
  have hl := mem_allQ.1 h1
  have hn := lnQ_mem hl
  refine hT.same_num (mem_occL.2 ⟨Q[p.1].2, List.mem_map_of_mem (List.getElem_mem hn), by rw [← lnQ_at hn]; exact hl, by rw [h2]; exact h0⟩) he (by rw [h2, hev])
 have hlen : (atV v (allQ Q)).length = 2 := by
  have h1 := hT.count2 hD
  rw [← allQ_virt, List.count_eq_length_filter, List.filter_map, List.length_map, List.filter_filter] at h1
  rw [← h1]
  unfold atV
  congr 1
  refine List.filter_congr fun p hp => ?_
  rw [Bool.eq_iff_iff]
  simp only [beq_iff_eq, Bool.and_eq_true, Function.comp_apply, bne_iff_ne, ne_eq]
  constructor
  ·
   intro h2; exact ⟨hall p (mem_atV.2 ⟨hp, h2⟩), by rw [h2]; exact h0⟩
  ·
   rintro ⟨h2, _⟩; rw [h2, hev]
 match hl : atV v (allQ Q), hlen with
 | [p, q], _ =>
  rw [hl] at hall
  have e1 := hall p (by simp)
  have e2 := hall q (by simp)
  obtain ⟨i, e'⟩ := p
  obtain ⟨j, e''⟩ := q
  simp only at e1 e2
  subst e1; subst e2
  have m1 : (i, e'') ∈ allQ Q := (mem_atV.1 (by rw [hl]; simp : (i, e'') ∈ atV v (allQ Q))).1
  have m2 : (j, e'') ∈ allQ Q := (mem_atV.1 (by rw [hl]; simp : (j, e'') ∈ atV v (allQ Q))).1
  have hle : i ≤ j := by
   have := (preO_sorted Q Q.length).sublist (List.filter_sublist (p := fun p : Oc => p.2.2.2 == v)); have h2 : ([(i, e''), (j, e'')] : List Oc).Pairwise fun p q => p.1 ≤ q.1 := by
    have h3 : List.filter (fun p : Oc => p.2.2.2 == v) (preO Q Q.length) = [(i, e''), (j, e'')] := hl; rw [h3] at this; exact this
   simpa using h2
  have hi := lnQ_mem (mem_allQ.1 m1)
  have hne : i ≠ j := fun hij => by
   subst hij; have h1 := all_count (Q := Q) (e := e'') hi; have h2 : 2 ≤ (allQ Q).count (i, e'') := by
    have h3 : (atV v (allQ Q)).count (i, e'') ≤ (allQ Q).count (i, e'') := List.Sublist.count_le _ List.filter_sublist; rw [hl] at h3; simp at h3; exact h3
   have h3 : (lnQ Q i).count e'' ≤ 1 := by
    rw [lnQ_at hi]; exact List.nodup_iff_count.1 (right_nodup (h.right _ (List.getElem_mem hi))) e''
   have h4 := Nat.le_trans h2 (Nat.le_of_eq h1); exact absurd (Nat.le_trans h4 h3) (by decide)
  exact ⟨i, j, e'', by omega, hi, lnQ_mem (mem_allQ.1 m2), rfl, mem_allQ.1 m1, mem_allQ.1 m2, hev⟩
theorem at_step {ls : List Lk} {Q : List Pt} (h : QI ls Q) {i j : Nat} {e : Lk} (hij : i < j) (hi : i < Q.length) (hj : j < Q.length) (h0 : e.2.2 ≠ 0) (he : e ∈ lnQ Q i) (hf : e ∈ lnQ Q j) (hk : kdQ Q i = kdQ Q j) (h3 : kdQ Q i ≠ 3) : MStep e Q (mergeQ Q i j e.2.2) := by
 obtain ⟨R, hR, hS⟩ := perm_set (by omega) hi hj (kdQ Q i, joinL (lnQ Q i) (lnQ Q j) e.2.2)
 refine ⟨Q[i], Q[j], R, hR, mem_virtL.2 ⟨by rw [← lnQ_at hi]; exact he, h0⟩, mem_virtL.2 ⟨by rw [← lnQ_at hj]; exact hf, h0⟩, ?_, ?_, ?_⟩
 · rw [← kdQ_at hi, ← kdQ_at hj]; exact hk
 · rw [← kdQ_at hi]; exact h3
 ·
  unfold mergeQ
  rw [← kdQ_at hi, ← lnQ_at hi, ← lnQ_at hj]
  exact hS
theorem at_join {ls : List Lk} {Q : List Pt} (hl : ls.length ≤ 1000) (h : QI ls Q) {i j : Nat} {e : Lk} (hij : i < j) (hi : i < Q.length) (hj : j < Q.length) (h0 : e.2.2 ≠ 0) (he : e ∈ lnQ Q i) (hf : e ∈ lnQ Q j) (hk : kdQ Q i = kdQ Q j) (h3 : kdQ Q i ≠ 3) :
  RightL (lnQ Q i) ∧ RightL (lnQ Q j) ∧ (1 ≤ e.2.2 ∧ e.2.2 ≤ 1048576) ∧ (∀ k ∈ lnQ Q i, k.2.2 = e.2.2 → k = e) ∧ (∀ k ∈ lnQ Q j, k.2.2 = e.2.2 → k = e) ∧ RightL (joinL (lnQ Q i) (lnQ Q j) e.2.2) := by
 have hs := at_step h hij hi hj h0 he hf hk h3
 have hq := hs.qi hl h
 have mi : Q[i] ∈ Q := List.getElem_mem hi
 have mj : Q[j] ∈ Q := List.getElem_mem hj
 have he' := he; have hf' := hf
 rw [lnQ_at hi] at he'
 rw [lnQ_at hj] at hf'
 obtain ⟨D, hT, hD⟩ := h.tree
 have hed : e ∈ D := hT.memD.2 (mem_occL.2 ⟨_, List.mem_map_of_mem mi, he', h0⟩)
 refine ⟨by rw [lnQ_at hi]; exact h.right _ mi, by rw [lnQ_at hj]; exact h.right _ mj, hD e hed, ?_, ?_, ?_⟩
 · rw [lnQ_at hi]; exact h.uniq mi (mem_virtL.2 ⟨he', h0⟩)
 · rw [lnQ_at hj]; exact h.uniq mj (mem_virtL.2 ⟨hf', h0⟩)
 ·
  have : (kdQ Q i, joinL (lnQ Q i) (lnQ Q j) e.2.2) ∈ mergeQ Q i j e.2.2 := by
   obtain ⟨R, _, hR⟩ := perm_set (show i ≠ j by omega) hi hj (kdQ Q i, joinL (lnQ Q i) (lnQ Q j) e.2.2); exact hR.mem_iff.2 (by simp)
  exact hq.right _ this
theorem MStep.who {ls : List Lk} {Q Q' : List Pt} (h : QI ls Q) {f e : Lk} (hs : MStep f Q Q') {i j : Nat} (hi : i < Q.length) (hj : j < Q.length) (hij : i ≠ j) (he : e ∈ lnQ Q i) (hf : e ∈ lnQ Q j) (hv : f.2.2 = e.2.2) : kdQ Q i = kdQ Q j ∧ kdQ Q i ≠ 3 := by
 obtain ⟨x, y, R, hp, hex, hey, hk, h3, _⟩ := hs
 have hin : ∀ k, (hk : k < Q.length) → e ∈ lnQ Q k → Q[k] = x ∨ Q[k] = y := fun k hkl hek => by
  have hm := hp.mem_iff.1 (List.getElem_mem hkl)
  simp only [List.mem_cons] at hm
  rcases hm with h1 | h1 | h1
  · exact .inl h1
  · exact .inr h1
  ·
   rw [lnQ_at hkl] at hek; exact absurd hv.symm (h.only hp hex hey _ h1 e hek)
 have hxi := hin i hi he
 have hxj := hin j hj hf
 rw [kdQ_at hi, kdQ_at hj]
 have hne : Q[i] ≠ Q[j] := fun hh => by
  obtain ⟨R', hR'⟩ := perm_any hij hi hj
  exact h.distinct hR' (by rw [hh])
 rcases hxi with h1 | h1 <;> rcases hxj with h2 | h2
 · exact absurd (h1.trans h2.symm) hne
 · rw [h1, h2]; exact ⟨hk, h3⟩
 · rw [h1, h2]; exact ⟨hk.symm, by rw [← hk]; exact h3⟩
 · exact absurd (h1.trans h2.symm) hne
theorem mem_joinL {x y : List Lk} {v : Int} (hx : ∀ k ∈ x, OkL k) (hy : ∀ k ∈ y, OkL k) {k : Lk} : k ∈ joinL x y v ↔ (k ∈ x ∨ k ∈ y) ∧ k.2.2 ≠ v := by
 unfold joinL
 have hok : ∀ k ∈ dropV v x ++ dropV v y, OkL k := fun k hk => by
  rcases List.mem_append.1 hk with h | h
  · exact hx k (mem_dropV.1 h).1
  · exact hy k (mem_dropV.1 h).1
 have := sortL_perm (dropV v x ++ dropV v y)
 rw [map_swapL hok] at this
 rw [this.mem_iff, List.mem_append, mem_dropV, mem_dropV]
 constructor
 ·
  rintro (h | h)
  · exact ⟨.inl h.1, h.2⟩
  · exact ⟨.inr h.1, h.2⟩
 ·
  rintro ⟨h | h, h2⟩
  · exact .inl ⟨h, h2⟩
  · exact .inr ⟨h, h2⟩
theorem MStep.has {ls : List Lk} {Q Q' : List Pt} (h : QI ls Q) {e : Lk} (hs : MStep e Q Q') {u : Int} (hu : u ≠ e.2.2) : hasV Q u → hasV Q' u := by
 obtain ⟨x, y, R, hp, hex, hey, _, _, hq⟩ := hs
 rintro ⟨f, hf, hfu⟩
 obtain ⟨z, hz, hfz, hfv⟩ := mem_occL.1 hf
 obtain ⟨q, hqQ, rfl⟩ := List.mem_map.1 hz
 have hm := hp.mem_iff.1 hqQ
 simp only [List.mem_cons] at hm
 have rx := (h.right x (hp.mem_iff.2 (by simp))).2.1
 have ry := (h.right y (hp.mem_iff.2 (by simp))).2.1
 have main : ∀ k, k ∈ x.2 ∨ k ∈ y.2 → k.2.2 = u → k.2.2 ≠ 0 → hasV Q' u := fun k hk hku hk0 =>
  ⟨k, mem_occL.2 ⟨joinL x.2 y.2 e.2.2, List.mem_map.2 ⟨(x.1, joinL x.2 y.2 e.2.2), hq.mem_iff.2 (by simp), rfl⟩, (mem_joinL rx ry).2 ⟨hk, by rw [hku]; exact hu⟩, hk0⟩, hku⟩
 rcases hm with rfl | rfl | hm
 · exact main f (.inl hfz) hfu hfv
 · exact main f (.inr hfz) hfu hfv
 · exact ⟨f, mem_occL.2 ⟨q.2, List.mem_map.2 ⟨q, hq.mem_iff.2 (by simp [hm]), rfl⟩, hfz, hfv⟩, hfu⟩
theorem MStep.back {ls : List Lk} {Q Q1 Q2 : List Pt} (h : QI ls Q) {e f : Lk} (hs : MStep e Q Q1) (hf : MStep f Q1 Q2) : ∃ Q3, MStep f Q Q3 := by
 obtain ⟨x, y, R, hp, hex, hey, hk, h3, hq⟩ := hs
 obtain ⟨a, b, S, hp1, hfa, hfb, hk1, h31, _⟩ := hf
 have rx := (h.right x (hp.mem_iff.2 (by simp))).2.1
 have ry := (h.right y (hp.mem_iff.2 (by simp))).2.1
 have hz : (a :: b :: S).Perm ((x.1, joinL x.2 y.2 e.2.2) :: R) := hp1.symm.trans hq
 have fin : ∀ (p q : Pt) (T : List Pt), Q.Perm (p :: q :: T) → f ∈ virtL p.2 → f ∈ virtL q.2 → p.1 = q.1 → p.1 ≠ 3 → ∃ Q3, MStep f Q Q3 := fun p q T h1 h2 h3 h4 h5 => ⟨_, p, q, T, h1, h2, h3, h4, h5, .refl _⟩
 have joined : ∀ (c : Pt) (T : List Pt), R.Perm (c :: T) → f ∈ virtL c.2 → f ∈ virtL (joinL x.2 y.2 e.2.2) → c.1 = x.1 → ∃ Q3, MStep f Q Q3 := fun c T h1 h2 h4 h5 => by
  obtain ⟨h6, h7⟩ := mem_virtL.1 h4
  rcases ((mem_joinL rx ry).1 h6).1 with h8 | h8
  ·
   refine fin x c (y :: T) (hp.trans (List.Perm.cons _ ?_)) (mem_virtL.2 ⟨h8, h7⟩) h2 h5.symm h3; exact (h1.cons y).trans (.swap ..)
  ·
   refine fin y c (x :: T) (hp.trans ?_) (mem_virtL.2 ⟨h8, h7⟩) h2 (by rw [h5, hk]) (by rw [← hk]; exact h3); exact (List.Perm.swap ..).trans (List.Perm.cons _ ((h1.cons x).trans (.swap ..)))
 rcases TreeP.mem_split (S := [a]) (T := b :: S) (x := (x.1, joinL x.2 y.2 e.2.2)) (R := R) (by simpa using hz.symm) with ⟨S', p1, q1⟩ | ⟨T', p1, q1⟩
 ·
  have ha : a = (x.1, joinL x.2 y.2 e.2.2) := by
   have := p1.mem_iff.2 (List.mem_cons_self (a := (x.1, joinL x.2 y.2 e.2.2)) (l := S')); simp at this; exact this.symm
  have hS' : S' = [] := by have := p1.length_eq; simp at this; exact this
  subst hS'
  subst ha
  exact joined b S (by simpa using q1) hfb hfa hk1.symm
 ·
  rcases TreeP.mem_split (S := [b]) (T := S) (x := (x.1, joinL x.2 y.2 e.2.2)) (R := T') (by simpa using p1.symm) with ⟨S', p2, q2⟩ | ⟨T2, p2, q2⟩
  ·
   have hb : b = (x.1, joinL x.2 y.2 e.2.2) := by
    have := p2.mem_iff.2 (List.mem_cons_self (a := (x.1, joinL x.2 y.2 e.2.2)) (l := S')); simp at this; exact this.symm
   have hS' : S' = [] := by have := p2.length_eq; simp at this; exact this
   subst hS'; subst hb; refine joined a S ?_ hfa hfb hk1; refine q1.trans ?_; simpa using q2.cons a
  ·
   refine fin a b (x :: y :: T2) ?_ hfa hfb hk1 h31; have h1 : R.Perm (a :: b :: T2) := q1.trans (by simpa using q2.cons a); refine hp.trans ((h1.cons y).cons x |>.trans ?_); have e1 : (x :: y :: a :: b :: T2) = [x, y] ++ ([a, b] ++ T2) := rfl; have e2 : (a :: b :: x :: y :: T2) = [a, b] ++ ([x, y] ++ T2) := rfl; rw [e1, e2, ← List.append_assoc, ← List.append_assoc]; exact List.Perm.append_right _ List.perm_append_comm
structure RfI (ls : List Lk) (n v : Nat) (Q : List Pt) : Prop where
 qi : QI ls Q
 has : ∀ u : Int, (v : Int) ≤ u → u < n → hasV Q u
 lt : ∀ u : Int, hasV Q u → u < n
 no : ∀ f Q', MStep f Q Q' → (v : Int) ≤ f.2.2
theorem nums_all {D : List Lk} {n : Int} (hn : (D.map fun k => k.2.2).Nodup) (hb : ∀ d ∈ D, 1 ≤ d.2.2 ∧ d.2.2 < n) (hl : (D.length : Int) + 1 = n) {u : Int} (h1 : 1 ≤ u) (h2 : u < n) : ∃ d ∈ D, d.2.2 = u := by
 refine Classical.byContradiction fun hno => ?_
 have h3 : (u :: D.map fun k => k.2.2).Nodup := List.nodup_cons.2 ⟨fun hm => by
  obtain ⟨d, hd, he⟩ := List.mem_map.1 hm
  exact hno ⟨d, hd, he⟩, hn⟩
 have h4 := RightQ.sub_len h3 (m := (List.range D.length).map fun i : Nat => (i : Int) + 1) fun x hx => by
  rw [List.mem_map]
  rcases List.mem_cons.1 hx with rfl | hx
  · exact ⟨(x - 1).toNat, List.mem_range.2 (by omega), by omega⟩
  ·
   obtain ⟨d, hd, rfl⟩ := List.mem_map.1 hx; have := hb d hd; exact ⟨(d.2.2 - 1).toNat, List.mem_range.2 (by omega), by omega⟩
 simp only [List.length_cons, List.length_map, List.length_range] at h4
 omega
theorem RfI.start {ls : List Lk} {out : List (List Lk)} {n : Nat} (h : PiecesOk ls out n) (hl : ls.length ≤ 1000) (K : List Lk → Int) : RfI ls n 1 (out.map fun p => (K p, p)) := by
 have hmap : (out.map fun p => (K p, p)).map (fun q => q.2) = out := by rw [List.map_map]; exact List.map_id _
 obtain ⟨D, hT, hb, hl2⟩ := h.tree
 refine ⟨h.qi hl K, fun u h1 h2 => ?_, fun u hu => ?_, fun f Q' hs => ?_⟩
 ·
  obtain ⟨d, hd, he⟩ := nums_all hT.num hb hl2 (by omega) h2
  refine ⟨d, ?_, he⟩
  rw [hmap]
  exact hT.memD.1 hd
 ·
  obtain ⟨e, he, heu⟩ := hu
  rw [hmap] at he
  have := hb e (hT.memD.2 he)
  omega
 ·
  obtain ⟨x, y, R, hp, hex, _⟩ := hs
  have hm : f ∈ occL out := by
   rw [← hmap]; exact mem_occL.2 ⟨x.2, List.mem_map.2 ⟨x, hp.mem_iff.2 (by simp), rfl⟩, mem_virtL.1 hex⟩
  have := hb f (hT.memD.2 hm)
  omega
theorem RfI.skip {ls : List Lk} {n v : Nat} {Q : List Pt} (h : RfI ls n v Q) {i j : Nat} {e : Lk} (hi : i < Q.length) (hj : j < Q.length) (hij : i ≠ j) (he : e ∈ lnQ Q i) (hf : e ∈ lnQ Q j) (hv : e.2.2 = v) (hk : ¬ (kdQ Q i = kdQ Q j ∧ kdQ Q i ≠ 3)) : RfI ls n (v + 1) Q :=
 ⟨h.qi, fun u h1 h2 => h.has u (by omega) h2, h.lt, fun f Q' hs => by
  have h1 := h.no f Q' hs
  have h2 : f.2.2 ≠ v := fun h3 => hk (hs.who h.qi hi hj hij he hf (by rw [h3, hv]))
  omega⟩
theorem MStep.gone {ls : List Lk} {Q Q' : List Pt} (h : QI ls Q) {e : Lk} (hs : MStep e Q Q') : ¬ hasV Q' e.2.2 := by
 obtain ⟨x, y, R, hp, hex, hey, _, _, hq⟩ := hs
 rintro ⟨f, hf, hfe⟩
 have rx := (h.right x (hp.mem_iff.2 (by simp))).2.1
 have ry := (h.right y (hp.mem_iff.2 (by simp))).2.1
 obtain ⟨z, hz, hfz, hfv⟩ := mem_occL.1 hf
 obtain ⟨q, hqQ, rfl⟩ := List.mem_map.1 hz
 have hm := hq.mem_iff.1 hqQ
 rcases List.mem_cons.1 hm with rfl | hm
 · exact ((mem_joinL rx ry).1 hfz).2 hfe
 · exact h.only hp hex hey q hm f hfz hfe
theorem RfI.step {ls : List Lk} (hl : ls.length ≤ 1000) {n v : Nat} {Q Q' : List Pt} (h : RfI ls n v Q) {e : Lk} (hv : e.2.2 = v) (hs : MStep e Q Q') : RfI ls n (v + 1) Q' := by
 have hq := hs.qi hl h.qi
 refine ⟨hq, fun u h1 h2 => hs.has h.qi (by omega) (h.has u (by omega) h2), fun u hu => ?_, fun f Q2 hf => ?_⟩
 ·
  obtain ⟨f, hf, hfu⟩ := hu
  obtain ⟨x, y, R, hp, hex, hey, _, _, hqp⟩ := hs
  have rx := (h.qi.right x (hp.mem_iff.2 (by simp))).2.1
  have ry := (h.qi.right y (hp.mem_iff.2 (by simp))).2.1
  obtain ⟨z, hz, hfz, hfv⟩ := mem_occL.1 hf
  obtain ⟨q, hqQ, rfl⟩ := List.mem_map.1 hz
  have hm := hqp.mem_iff.1 hqQ
  rcases List.mem_cons.1 hm with rfl | hm
  ·
   rcases ((mem_joinL rx ry).1 hfz).1 with h1 | h1
   · exact h.lt u ⟨f, mem_occL.2 ⟨x.2, List.mem_map.2 ⟨x, hp.mem_iff.2 (by simp), rfl⟩, h1, hfv⟩, hfu⟩
   · exact h.lt u ⟨f, mem_occL.2 ⟨y.2, List.mem_map.2 ⟨y, hp.mem_iff.2 (by simp), rfl⟩, h1, hfv⟩, hfu⟩
  · exact h.lt u ⟨f, mem_occL.2 ⟨q.2, List.mem_map.2 ⟨q, hp.mem_iff.2 (by simp [hm]), rfl⟩, hfz, hfv⟩, hfu⟩
 ·
  obtain ⟨Q3, h3⟩ := hs.back h.qi hf
  have h1 := h.no f Q3 h3
  have h2 : f.2.2 ≠ e.2.2 := fun h4 => by
   obtain ⟨a, b, S, hp, hfa, _⟩ := hf; refine hs.gone h.qi ⟨f, mem_occL.2 ⟨a.2, List.mem_map.2 ⟨a, hp.mem_iff.2 (by simp), rfl⟩, mem_virtL.1 hfa⟩, h4⟩
  omega
theorem RfI.done {ls : List Lk} {n : Nat} {Q : List Pt} (h : RfI ls n n Q) : MNormal Q := fun f Q' hs => by
 have h1 := h.no f Q' hs
 obtain ⟨x, y, R, hp, hex, _⟩ := hs
 have h2 := h.lt f.2.2 ⟨f, mem_occL.2 ⟨x.2, List.mem_map.2 ⟨x, hp.mem_iff.2 (by simp), rfl⟩, mem_virtL.1 hex⟩, rfl⟩
 omega
end Go.Proofs.YtagcbnpahgfgmaaGreat
namespace Go.Proofs.YtagcbnpahgfgmaaGreat
open Go Go.RowKit Go.Sort
def lkCells (ls : List Lk) : List Value := ls.flatMap fun k => [.int .i64 k.1, .int .i64 k.2.1, .int .i64 k.2.2]
def lkV (k : Lk) : Value := .agg #[.int .i64 k.1, .int .i64 k.2.1, .int .i64 k.2.2]
def RdL (w : World) (a : Option Addr) (ls : List Lk) : Prop := CellsAt w a (lkCells ls)
theorem lkCells_length (ls : List Lk) : (lkCells ls).length = ls.length * 3 := by
 induction ls with
 | nil => rfl
 | cons e ls ih => simp only [lkCells, List.flatMap_cons, List.length_append, List.length_cons, List.length_nil] at ih ⊢; omega
theorem lkCells_append (a b : List Lk) : lkCells (a ++ b) = lkCells a ++ lkCells b := by simp [lkCells]
theorem lkCells_get (ls : List Lk) (i : Nat) (h : i < ls.length) :
  (lkCells ls)[i * 3]? = some (.int .i64 ls[i].1) ∧ (lkCells ls)[i * 3 + 1]? = some (.int .i64 ls[i].2.1) ∧ (lkCells ls)[i * 3 + 2]? = some (.int .i64 ls[i].2.2) := by
 induction ls generalizing i with
 | nil => simp at h
 | cons e ls ih =>
  cases i with
  | zero => simp [lkCells]
  | succ i =>
   have := ih i (by simpa using h); have e1 : (i + 1) * 3 = i * 3 + 1 + 1 + 1 := by omega
   simp only [lkCells, List.flatMap_cons, List.cons_append, List.nil_append, List.getElem_cons_succ] at this ⊢; rw [e1]; simpa using this
theorem RdL.at {w : World} {a : Option Addr} {ls : List Lk} (h : RdL w a ls) (i : Nat) (hi : i < ls.length) :
  ∃ b o, a = some ⟨b, o, none⟩ ∧ w.cell? ⟨b, o + i * 3, none⟩ = some (.int .i64 ls[i].1) ∧ w.cell? ⟨b, o + i * 3 + 1, none⟩ = some (.int .i64 ls[i].2.1) ∧ w.cell? ⟨b, o + i * 3 + 2, none⟩ = some (.int .i64 ls[i].2.2) := by
 obtain ⟨h1, h2, h3⟩ := lkCells_get ls i hi
 obtain ⟨b, o, ha, hc⟩ := h _ _ h1
 obtain ⟨b', o', ha', hc'⟩ := h _ _ h2
 obtain ⟨b'', o'', ha'', hc''⟩ := h _ _ h3
 rw [ha] at ha' ha''
 simp only [Option.some.injEq, Addr.mk.injEq, and_true] at ha' ha''
 obtain ⟨rfl, rfl⟩ := ha'
 obtain ⟨rfl, rfl⟩ := ha''
 exact ⟨b, o, ha, hc, by simpa [Nat.add_assoc] using hc', by simpa [Nat.add_assoc] using hc''⟩
theorem RdL.below {w w' : World} {a : Option Addr} {ls : List Lk} (h : RdL w a ls) (hb : Below w.heap.size w w') : RdL w' a ls := CellsAt.below h hb
theorem rdL_nil (w : World) (a : Option Addr) : RdL w a [] := by intro i u hu; simp [lkCells] at hu
theorem below_grow (w : World) (q : Nat) (os : Array Obj) : Below w.heap.size w (grow (w.drewN q) os) := by
 refine Below.trans (below_drewN (Below.refl _ _) q) ?_
 refine ⟨rfl, rfl, rfl, by simp [grow], fun k hk => ?_⟩
 exact heap_grow_old _ _ (by simpa using hk)
theorem compare_any (a b : Int) (w : World) :
  Calls Tryz.prog 79 #[.int .i64 a, .int .i64 b] w fun e w' => e = .returned (.int .i64 (cmpI a b)) ∧ w = w' := by
 go_enter Tryz.func79, Tryz.ntmps79
 go_wp2
 ·
  have h : a < b := by assumption
  go_ret
  exact ⟨by simp [cmpI, h], rfl⟩
 ·
  have h : b < a := by assumption
  go_ret
  exact ⟨by simp [cmpI, h, show ¬ a < b by omega], rfl⟩
 ·
  have h : a ≤ b := by assumption
  have h : b ≤ a := by assumption
  go_ret
  exact ⟨by simp [cmpI, show ¬ a < b by omega, show ¬ b < a by omega], rfl⟩
theorem lcompare_grow (x y : Lk) (w : World) :
  Calls Tryz.prog 49 #[lkV x, lkV y] w
   fun e w' => e = .returned (.int .i64 (cmpL x y)) ∧ ∃ q os, w' = grow (w.drewN q) os := by
 obtain ⟨a1, a2, a3⟩ := x
 obtain ⟨b1, b2, b3⟩ := y
 unfold lkV
 dsimp only
 have e1 : cmpL (a1, a2, a3) (b1, b2, b3) = orI (cmpI a1 b1) (orI (cmpI a2 b2) (cmpI a3 b3)) := rfl
 rw [e1]; clear e1
 have c1 := fun w => compare_any a1 b1 w
 have c2 := fun w => compare_any a2 b2 w
 have c3 := fun w => compare_any a3 b3 w
 generalize cmpI a1 b1 = u1 at c1 ⊢
 generalize cmpI a2 b2 = u2 at c2 ⊢
 generalize cmpI a3 b3 = u3 at c3 ⊢
 by_cases h1 : u1 = 0
 ·
  subst h1
  by_cases h2 : u2 = 0
  ·
   subst h2; go_enter Tryz.func49, Tryz.ntmps49; go_wp2_with fail; refine (c1 _).mono ?_; rintro e w' ⟨rfl, rfl⟩; go_wp2_with fail; refine (c2 _).mono ?_; rintro e w' ⟨rfl, rfl⟩; go_wp2_with fail; refine (c3 _).mono ?_; rintro e w' ⟨rfl, rfl⟩; go_wp2_with fail; go_ret; exact ⟨rfl, 0, _, by rw [alloc_eq_grow, alloc_eq_grow, grow_grow]; rfl⟩
  ·
   have g2 : (u2 != 0) = true := by simpa using h2
   go_enter Tryz.func49, Tryz.ntmps49; go_wp2_with fail; refine (c1 _).mono ?_; rintro e w' ⟨rfl, rfl⟩; go_wp2_with fail; refine (c2 _).mono ?_; rintro e w' ⟨rfl, rfl⟩; go_wp2_with fail; go_ret; exact ⟨by simp [orI, h2], 0, _, by rw [alloc_eq_grow, alloc_eq_grow, grow_grow]; rfl⟩
 ·
  have g1 : (u1 != 0) = true := by simpa using h1
  go_enter Tryz.func49, Tryz.ntmps49
  go_wp2_with fail
  refine (c1 _).mono ?_; rintro e w' ⟨rfl, rfl⟩
  go_wp2_with fail
  go_ret
  exact ⟨by simp [orI, h1], 0, _, by rw [alloc_eq_grow, alloc_eq_grow, grow_grow]; rfl⟩
theorem lcompare_any (a1 a2 a3 b1 b2 b3 : Int) (w : World) :
  Calls Tryz.prog 49 #[.agg #[.int .i64 a1, .int .i64 a2, .int .i64 a3], .agg #[.int .i64 b1, .int .i64 b2, .int .i64 b3]] w
   fun e w' => e = .returned (.int .i64 (cmpL (a1, a2, a3) (b1, b2, b3))) ∧ Below w.heap.size w w' :=
 (lcompare_grow (a1, a2, a3) (b1, b2, b3) w).mono fun _ _ ⟨he, q, os, hw⟩ => ⟨he, by rw [hw]; exact below_grow _ _ _⟩
set_option maxHeartbeats 1000000 in
theorem lright_walk (a : Option Addr) (cap : Nat) (ls : List Lk) (w : World) (hr : RdL w a ls) (hcap : ls.length ≤ 9223372036854775807) :
  Calls Tryz.prog 66 #[.slice a ls.length cap] w
   fun e w' => e = .returned (.bool (rightL ls)) ∧ Below w.heap.size w w' := by
 by_cases hg : ls.length ≤ 1000
 ·
  go_enter Tryz.func66, Tryz.ntmps66
  go_wp2_with fail
  go_loopg [10] ls.length (fun r i wr => ∃ k : Nat, k + r = ls.length ∧ i = .int .i64 k ∧ Below w.heap.size w wr ∧
   (∀ j (h : j < ls.length), j < k → OkL ls[j]) ∧ (∀ j (h : j + 1 < ls.length), j + 1 < k → LtL ls[j] ls[j+1]))
  case atStart => exact ⟨0, by omega, rfl, Below.refl _ _, fun j _ h => absurd h (by omega), fun j _ h => absurd h (by omega)⟩
  case round =>
   obtain ⟨k, hk, rfl, hB, hok, hris⟩ := hrel; by_cases hlt : k < ls.length
   ·
    obtain ⟨b, o, rfl, c0, c1, c2⟩ := (hr.below hB).at k hlt; obtain ⟨⟨x, y, z⟩, hx⟩ : ∃ x : Lk, ls[k] = x := ⟨_, rfl⟩
    rw [hx] at c0 c1 c2; simp only at c0 c1 c2; by_cases he : OkL (x, y, z)
    ·
     obtain ⟨e0, e1, e2, e3, e4⟩ := he; simp only at e0 e1 e2 e3 e4; have hend : ∀ j (h : j < ls.length), j < k + 1 → OkL ls[j] := by
      intro j h hj; by_cases hjk : j < k
      · exact hok j h hjk
      ·
       obtain rfl : j = k := by omega
       rw [hx]; exact ⟨e0, e1, e2, e3, e4⟩
     by_cases hk0 : k = 0
     ·
      subst hk0; simp only [Nat.zero_mul, Nat.add_zero] at c0 c1 c2; have Hx := Lib.hid hx; clear hx; have Hend := Lib.hid hend; have Hok := Lib.hid hok; have Hris := Lib.hid hris; clear hend hok hris; go_wp2_with fail; go_quiet (fail)
      go_wp2; go_roundg (gk - 1)
      case measure => omega
      case rel => exact ⟨0 + 1, by omega, rfl, below_drewN (hB.alloc (by have := hB.size; omega) _) _, Hend.out, fun j _ h => absurd h (by omega)⟩
     ·
      obtain ⟨m, rfl⟩ : ∃ m, k = m + 1 := ⟨k - 1, by omega⟩
      obtain ⟨b', o', hbo, p0, p1, p2⟩ := (hr.below hB).at m (by omega); simp only [Option.some.injEq, Addr.mk.injEq, and_true] at hbo; obtain ⟨rfl, rfl⟩ := hbo; obtain ⟨⟨p, q, s⟩, hp⟩ : ∃ x : Lk, ls[m]'(by omega) = x := ⟨_, rfl⟩
      rw [hp] at p0 p1 p2; simp only at p0 p1 p2; have hmr : m + 1 < ls.length := hlt; have Hx := Lib.hid hx; have Hp := Lib.hid hp; clear hx hp; have Hend := Lib.hid hend; have Hok := Lib.hid hok; have Hris := Lib.hid hris; clear hend hok hris; go_wp2_with fail; have i1 : IntKind.i64.wrap ((m : Int) + 1 - 1) = (m : Int) := by rw [show ((m : Int) + 1 - 1) = m by omega]; exact IntWalk.i64_in _ (by omega)
      have i2 : IntKind.i64.wrap (m : Int) = (m : Int) := IntWalk.i64_in _ (by omega); have i3 : (0 : Int) ≤ (m : Int) := by omega
      have i4 : (m : Int) < (ls.length : Int) := by omega
      have i5 : m < ls.length := by omega
      go_region_held3 (fun w' => w'.cell? ⟨b, o + m * 3, none⟩ = some (.int .i64 p) ∧ w'.cell? ⟨b, o + m * 3 + 1, none⟩ = some (.int .i64 q) ∧ w'.cell? ⟨b, o + m * 3 + 2, none⟩ = some (.int .i64 s) ∧
       w'.cell? ⟨wr.heap.size, 0, none⟩ = some (.int .i64 x) ∧ w'.cell? ⟨wr.heap.size, 1, none⟩ = some (.int .i64 y) ∧ w'.cell? ⟨wr.heap.size, 2, none⟩ = some (.int .i64 z)) (first | (refine ⟨?_, ?_, ?_, ?_, ?_, ?_⟩ <;> (refine keep_cell (by assumption) ?_; simp [*]; done)) | go_keep)
       (first | (go_at_call 49; refine (lcompare_any _ _ _ _ _ _ _).mono ?_; rintro e w' ⟨rfl, hbw⟩))
      go_wp2
      ·
       have hge : 0 ≤ cmpL (p, q, s) (x, y, z) := by assumption
       go_ret; refine ⟨?_, bl_trans ((hB.alloc (by have := hB.size; omega) _).drew) hbw⟩; rw [rightL_false]; rfl; intro h; have h1 := ((rightL_at _).1 ((rightL_iff _).2 h)).2.2 m hmr; rw [Hx.out, Hp.out, ← cmpL_neg] at h1; omega
      ·
       have hge : cmpL (p, q, s) (x, y, z) < 0 := by assumption
       go_roundg (gk - 1)
       case measure => omega
       case rel =>
        refine ⟨m + 1 + 1, by omega, by go_num, bl_trans ((hB.alloc (by have := hB.size; omega) _).drew) hbw, Hend.out, ?_⟩; intro j h hj; by_cases hjm : j + 1 < m + 1
        · exact Hris.out j h hjm
        ·
         obtain rfl : j = m := by omega
         rw [Hx.out, Hp.out, ← cmpL_neg]; exact hge
    ·
     have hno : rightL ls = false := rightL_false fun h => he (by rw [← hx]; exact h.2.1 _ (List.getElem_mem hlt)); have Hx := Lib.hid hx; clear hx; have Hno := Lib.hid hno; clear hno hok hris; unfold OkL at he; simp only at he; go_wp2_with fail; all_goals
      go_ret; exact ⟨by rw [Hno.out]; rfl, hB.alloc (by have := hB.size; omega) _⟩
   ·
    have hkl : k = ls.length := by omega
    have hyes : rightL ls = true := by
     rw [rightL_at]; exact ⟨hg, fun j h => hok j h (by omega), fun j h => hris j h (by omega)⟩
    have Hyes := Lib.hid hyes; clear hyes hok hris hkl; go_wp2_with fail; go_ret; exact ⟨by rw [Hyes.out]; rfl, hB⟩
 ·
  have hno : rightL ls = false := rightL_false fun h => hg h.1
  rw [hno]
  go_enter Tryz.func66, Tryz.ntmps66
  go_wp2_with fail
  all_goals
   go_ret; exact ⟨rfl, bl_refl _⟩
end Go.Proofs.YtagcbnpahgfgmaaGreat
