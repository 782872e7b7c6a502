/- What hangs together: closures, groups of places, groups of links. No program in sight. -/
import Derived.Test.YtagcbnpahgfgmaaCutQ
import Derived.Test.YtagcbnpahgfgmaaLkP
namespace Go.Proofs.Ytagcbnpahgfgmaa

/-! ### all that is come to -/
def closeStep (n : Nat) (bs : Nat → List Nat) (S : List Nat) : List Nat := (List.range n).filter fun j => S.contains j || S.any fun i => (bs i).contains j
def closeN (n : Nat) (bs : Nat → List Nat) (S : List Nat) : Nat → List Nat
  | 0 => S
  | k + 1 => closeStep n bs (closeN n bs S k)
def compC (n : Nat) (bs : Nat → List Nat) (i : Nat) : List Nat := closeN n bs [i] n
theorem mem_closeStep {n : Nat} {bs : Nat → List Nat} {S : List Nat} {j : Nat} : j ∈ closeStep n bs S ↔ j < n ∧ (j ∈ S ∨ ∃ i ∈ S, j ∈ bs i) := by
  unfold closeStep
  simp only [List.mem_filter, List.mem_range, Bool.or_eq_true, List.contains_iff_mem, List.any_eq_true]
theorem closeN_lt {n : Nat} {bs : Nat → List Nat} {i : Nat} (hi : i < n) (k : Nat) : ∀ j ∈ closeN n bs [i] k, j < n := by
  cases k with
  | zero => intro j hj; simp only [closeN, List.mem_cons, List.not_mem_nil, or_false] at hj; omega
  | succ k => intro j hj; exact (mem_closeStep.1 hj).1
theorem closeN_nodup (n : Nat) (bs : Nat → List Nat) (i k : Nat) : (closeN n bs [i] k).Nodup := by
  cases k with
  | zero => simp [closeN]
  | succ k => exact List.nodup_range.filter _
theorem closeN_self {n : Nat} {bs : Nat → List Nat} {i : Nat} (hi : i < n) (k : Nat) : i ∈ closeN n bs [i] k := by
  induction k with
  | zero => simp [closeN]
  | succ k ih => exact mem_closeStep.2 ⟨hi, .inl ih⟩
theorem closeN_sound {n : Nat} {bs : Nat → List Nat} {i : Nat} (hi : i < n) (k : Nat) : ∀ j ∈ closeN n bs [i] k, Con bs (· < n) i j := by
  induction k with
  | zero => intro j hj; simp only [closeN, List.mem_cons, List.not_mem_nil, or_false] at hj; subst hj; exact .refl hi
  | succ k ih =>
    intro j hj
    obtain ⟨h1, h2 | ⟨a, ha, hb⟩⟩ := mem_closeStep.1 hj
    · exact ih j h2
    · exact (ih a ha).step hb h1
theorem closeN_full {n : Nat} {bs : Nat → List Nat} {i : Nat} (hi : i < n) (k : Nat) :
    (∀ a ∈ closeN n bs [i] k, ∀ b ∈ bs a, b < n → b ∈ closeN n bs [i] k) ∨ k + 1 ≤ (closeN n bs [i] k).length := by
  induction k with
  | zero => right; simp [closeN]
  | succ k ih =>
    by_cases hc : ∀ a ∈ closeN n bs [i] k, ∀ b ∈ bs a, b < n → b ∈ closeN n bs [i] k
    · left
      have same : ∀ j, j ∈ closeN n bs [i] (k + 1) ↔ j ∈ closeN n bs [i] k := fun j => by
        constructor
        · intro hj
          obtain ⟨h1, h2 | ⟨a, ha, hb⟩⟩ := mem_closeStep.1 hj
          · exact h2
          · exact hc a ha j hb h1
        · intro hj; exact mem_closeStep.2 ⟨closeN_lt hi k j hj, .inl hj⟩
      intro a ha b hb hbn
      rw [same] at ha ⊢
      exact hc a ha b hb hbn
    · right
      have hlen := ih.resolve_left hc
      have hex : ∃ a ∈ closeN n bs [i] k, ∃ b ∈ bs a, b < n ∧ b ∉ closeN n bs [i] k := Classical.byContradiction fun hno => hc fun a ha b hb hbn => Classical.byContradiction fun hnb => hno ⟨a, ha, b, hb, hbn, hnb⟩
      obtain ⟨a, ha, b, hb, hbn, hnb⟩ := hex
      have h1 : (b :: closeN n bs [i] k).Nodup := List.nodup_cons.2 ⟨hnb, closeN_nodup _ _ _ _⟩
      have h2 := nodup_len_le (m := closeN n bs [i] (k + 1)) h1 fun x hx => by
        rcases List.mem_cons.1 hx with rfl | hx
        · exact mem_closeStep.2 ⟨hbn, .inr ⟨a, ha, hb⟩⟩
        · exact mem_closeStep.2 ⟨closeN_lt hi k x hx, .inl hx⟩
      simp only [List.length_cons] at h2
      omega
theorem mem_compC {n : Nat} {bs : Nat → List Nat} {i : Nat} (hi : i < n) (j : Nat) : j ∈ compC n bs i ↔ Con bs (· < n) i j := by
  constructor
  · exact closeN_sound hi n j
  · intro h
    have hfull : ∀ a ∈ compC n bs i, ∀ b ∈ bs a, b < n → b ∈ compC n bs i := by
      rcases closeN_full (bs := bs) hi n with h1 | h1
      · exact h1
      · exfalso
        have := nodup_len_le (m := List.range n) (closeN_nodup n bs i n) fun x hx => List.mem_range.2 (closeN_lt hi n x hx)
        rw [List.length_range] at this; omega
    exact h.closed (· ∈ compC n bs i) (fun a b ha hb hbn => hfull a ha b hb hbn) (closeN_self hi n)
theorem compC_eq {n : Nat} {bs : Nat → List Nat} (hs : ∀ a b, b ∈ bs a → a ∈ bs b) {i j : Nat} (hi : i < n) (hj : j < n) : compC n bs i = compC n bs j ↔ Con bs (· < n) i j := by
  constructor
  · intro h
    rw [← mem_compC hi, h]; exact closeN_self hj n
  · intro h
    have hm : ∀ a, a ∈ compC n bs i ↔ a ∈ compC n bs j := fun a => by
      rw [mem_compC hi, mem_compC hj]
      exact ⟨fun k => (h.symm hs).trans k, fun k => h.trans k⟩
    obtain ⟨m, rfl⟩ : ∃ m, n = m + 1 := ⟨n - 1, by omega⟩
    unfold compC closeN closeStep at hm ⊢
    refine List.filter_congr fun a ha => ?_
    have := hm a
    simp only [List.mem_filter, ha, true_and] at this
    rw [Bool.eq_iff_iff]; exact this

/-! ### groups of places by what they are given -/
section
variable {α : Type} [DecidableEq α]
def firsts (c : Nat → α) (n : Nat) : List Nat := (List.range n).filter fun i => (List.range i).all fun j => decide (c j ≠ c i)
def ofCol (c : Nat → α) (n : Nat) (x : α) : List Nat := (List.range n).filter fun j => decide (c j = x)
def gIdx (c : Nat → α) (n : Nat) : List (List Nat) := (firsts c n).map fun i => ofCol c n (c i)
theorem mem_firsts {c : Nat → α} {n i : Nat} : i ∈ firsts c n ↔ i < n ∧ ∀ j, j < i → c j ≠ c i := by
  simp [firsts]
theorem mem_ofCol {c : Nat → α} {n j : Nat} {x : α} : j ∈ ofCol c n x ↔ j < n ∧ c j = x := by simp [ofCol]
theorem firsts_succ (c : Nat → α) (n : Nat) : firsts c (n + 1) = firsts c n ++ if (∀ j, j < n → c j ≠ c n) then [n] else [] := by
  unfold firsts
  rw [List.range_succ, List.filter_append]
  congr 1
  by_cases h : ∀ j, j < n → c j ≠ c n
  · rw [if_pos h]; simp; exact h
  · rw [if_neg h]
    simp only [List.filter_cons, List.filter_nil]
    rw [if_neg]
    simpa using h
theorem ofCol_succ (c : Nat → α) (n : Nat) (x : α) : ofCol c (n + 1) x = ofCol c n x ++ if c n = x then [n] else [] := by
  unfold ofCol
  rw [List.range_succ, List.filter_append]
  congr 1
  by_cases h : c n = x <;> simp [h]
theorem firsts_inj {c : Nat → α} {n i j : Nat} (hi : i ∈ firsts c n) (hj : j ∈ firsts c n) (h : c i = c j) : i = j := by
  rw [mem_firsts] at hi hj
  rcases Nat.lt_trichotomy i j with h1 | h1 | h1
  · exact absurd h (hj.2 i h1)
  · exact h1
  · exact absurd h.symm (hi.2 j h1)
theorem firsts_nodup (c : Nat → α) (n : Nat) : (firsts c n).Nodup := List.nodup_range.filter _
/-- a place of a new kind -/
theorem gIdx_new (c : Nat → α) (n : Nat) (h : ∀ j, j < n → c j ≠ c n) : gIdx c (n + 1) = gIdx c n ++ [[n]] := by
  unfold gIdx
  rw [firsts_succ, if_pos h, List.map_append, List.map_cons, List.map_nil]
  congr 1
  · refine List.map_congr_left fun i hi => ?_
    rw [ofCol_succ, if_neg, List.append_nil]
    exact fun e => h i (mem_firsts.1 hi).1 e.symm
  · rw [ofCol_succ, if_pos rfl]
    have : ofCol c n (c n) = [] := by
      rw [List.eq_nil_iff_forall_not_mem]
      intro j hj
      obtain ⟨h1, h2⟩ := mem_ofCol.1 hj
      exact h j h1 h2
    rw [this]; rfl
/-- a place of a kind that there is -/
theorem gIdx_old (c : Nat → α) (n p i : Nat) (hp : (firsts c n)[p]? = some i) (hc : c i = c n) : gIdx c (n + 1) = (gIdx c n).set p (ofCol c n (c n) ++ [n]) := by
  have hi := List.mem_of_getElem? hp
  have hold : ¬ ∀ j, j < n → c j ≠ c n := fun h => h i (mem_firsts.1 hi).1 hc
  unfold gIdx
  rw [firsts_succ, if_neg hold, List.append_nil]
  apply List.ext_getElem?
  intro q
  rw [List.getElem?_set, List.getElem?_map, List.length_map, List.getElem?_map]
  have hpl : p < (firsts c n).length := (List.getElem?_eq_some_iff.1 hp).1
  by_cases e : p = q
  · subst e
    rw [if_pos rfl, if_pos hpl, hp]
    simp only [Option.map_some]
    rw [ofCol_succ, if_pos hc.symm, hc]
  · rw [if_neg e]
    cases hq : (firsts c n)[q]? with
    | none => rfl
    | some j =>
      simp only [Option.map_some]
      rw [ofCol_succ, if_neg, List.append_nil]
      intro e2
      have hji := firsts_inj (List.mem_of_getElem? hq) hi (e2.symm.trans hc.symm)
      subst hji
      exact e ((List.getElem?_inj hpl (firsts_nodup c n)).1 (hp.trans hq.symm))
theorem gIdx_get (c : Nat → α) (n p i : Nat) (hp : (firsts c n)[p]? = some i) : (gIdx c n)[p]? = some (ofCol c n (c i)) := by
  unfold gIdx; rw [List.getElem?_map, hp]; rfl
theorem gIdx_length (c : Nat → α) (n : Nat) : (gIdx c n).length = (firsts c n).length := by simp [gIdx]
theorem firsts_length_le (c : Nat → α) (n : Nat) : (firsts c n).length ≤ n := by
  have := List.length_filter_le (fun i => (List.range i).all fun j => decide (c j ≠ c i)) (List.range n)
  rw [List.length_range] at this; exact this
theorem ofCol_length_le (c : Nat → α) (n : Nat) (x : α) : (ofCol c n x).length ≤ n := by
  have := List.length_filter_le (fun j => decide (c j = x)) (List.range n)
  rw [List.length_range] at this; exact this
end
theorem gIdx_congr {α β : Type} [DecidableEq α] [DecidableEq β] {c : Nat → α} {d : Nat → β} {n : Nat} (h : ∀ i j, i < n → j < n → (c i = c j ↔ d i = d j)) : gIdx c n = gIdx d n := by
  have hf : firsts c n = firsts d n := by
    unfold firsts
    refine List.filter_congr fun i hi => ?_
    rw [List.mem_range] at hi
    rw [Bool.eq_iff_iff]
    simp only [List.all_eq_true, List.mem_range, decide_eq_true_eq]
    exact ⟨fun k j hj e => k j hj ((h j i (by omega) hi).2 e), fun k j hj e => k j hj ((h j i (by omega) hi).1 e)⟩
  unfold gIdx
  rw [hf]
  refine List.map_congr_left fun i hi => ?_
  unfold ofCol
  refine List.filter_congr fun j hj => ?_
  rw [List.mem_range] at hj
  rw [decide_eq_decide]
  exact h j i hj (mem_firsts.1 hi).1

/-! ### links that touch -/
def touchB (wo : List Int) (a b : Lk) : Bool := (!wo.contains a.1 && (a.1 == b.1 || a.1 == b.2.1)) || (!wo.contains a.2.1 && (a.2.1 == b.1 || a.2.1 == b.2.1))
theorem touchB_iff (wo : List Int) (a b : Lk) : touchB wo a b = true ↔ ∃ v, v ∉ wo ∧ (v = a.1 ∨ v = a.2.1) ∧ (v = b.1 ∨ v = b.2.1) := by
  unfold touchB
  simp only [Bool.or_eq_true, Bool.and_eq_true, Bool.not_eq_true', beq_iff_eq]
  have hc : ∀ x : Int, wo.contains x = false ↔ x ∉ wo := fun x => by simp
  rw [hc, hc]
  constructor
  · rintro (⟨h1, h2⟩ | ⟨h1, h2⟩)
    · exact ⟨_, h1, .inl rfl, h2⟩
    · exact ⟨_, h1, .inr rfl, h2⟩
  · rintro ⟨v, h1, rfl | rfl, h3⟩
    · exact .inl ⟨h1, h3⟩
    · exact .inr ⟨h1, h3⟩
theorem touchB_symm {wo : List Int} {a b : Lk} (h : touchB wo a b = true) : touchB wo b a = true := by
  rw [touchB_iff] at h ⊢
  obtain ⟨v, h1, h2, h3⟩ := h
  exact ⟨v, h1, h3, h2⟩
def bsL (ls : List Lk) (wo : List Int) (i : Nat) : List Nat := (List.range ls.length).filter fun j => match ls[i]?, ls[j]? with
  | some a, some b => touchB wo a b
  | _, _ => false
theorem mem_bsL {ls : List Lk} {wo : List Int} {i j : Nat} : j ∈ bsL ls wo i ↔ ∃ a b, ls[i]? = some a ∧ ls[j]? = some b ∧ touchB wo a b = true := by
  unfold bsL
  rw [List.mem_filter, List.mem_range]
  constructor
  · rintro ⟨h1, h2⟩
    split at h2
    · rename_i a b ha hb; exact ⟨a, b, ha, hb, h2⟩
    · cases h2
  · rintro ⟨a, b, ha, hb, h⟩
    exact ⟨(List.getElem?_eq_some_iff.1 hb).1, by rw [ha, hb]; exact h⟩
theorem bsL_symm (ls : List Lk) (wo : List Int) : ∀ a b, b ∈ bsL ls wo a → a ∈ bsL ls wo b := fun a b h => by
  rw [mem_bsL] at h ⊢
  obtain ⟨x, y, h1, h2, h3⟩ := h
  exact ⟨y, x, h2, h1, touchB_symm h3⟩
/-- links i and j hang together -/
def LCon (ls : List Lk) (wo : List Int) (i j : Nat) : Prop := Con (bsL ls wo) (· < ls.length) i j
def pickL (ls : List Lk) (g : List Nat) : List Lk := g.filterMap fun i => ls[i]?
/-- the groups of links beside some vertices -/
def groupsL (ls : List Lk) (wo : List Int) : List (List Lk) := if rightL ls then (gIdx (compC ls.length (bsL ls wo)) ls.length).map (pickL ls) else []
theorem groupsL_by {α : Type} [DecidableEq α] {ls : List Lk} {wo : List Int} (hr : rightL ls = true) {c : Nat → α} (h : ∀ i j, i < ls.length → j < ls.length → (c i = c j ↔ LCon ls wo i j)) :
    groupsL ls wo = (gIdx c ls.length).map (pickL ls) := by
  unfold groupsL
  rw [if_pos hr, gIdx_congr (c := compC ls.length (bsL ls wo)) (d := c)]
  intro i j hi hj
  rw [compC_eq (bsL_symm ls wo) hi hj, h i j hi hj]; rfl

/-! ### vertices that hang together -/
inductive VCon (ls : List Lk) (wo : List Int) (x : Int) : Int → Prop
  | refl : VCon ls wo x x
  | step {y z : Int} {k : Lk} : VCon ls wo x y → k ∈ ls → k.1 ∉ wo → k.2.1 ∉ wo → ((y = k.1 ∧ z = k.2.1) ∨ (y = k.2.1 ∧ z = k.1)) → VCon ls wo x z
namespace VCon
variable {ls ls' : List Lk} {wo : List Int} {x y z : Int}
theorem mono (h : VCon ls wo x y) (hs : ∀ k ∈ ls, k ∈ ls') : VCon ls' wo x y := by
  induction h with
  | refl => exact .refl
  | step _ h1 h2 h3 h4 ih => exact ih.step (hs _ h1) h2 h3 h4
theorem trans (h : VCon ls wo x y) (k : VCon ls wo y z) : VCon ls wo x z := by
  induction k with
  | refl => exact h
  | step _ h1 h2 h3 h4 ih => exact ih.step h1 h2 h3 h4
theorem symm (h : VCon ls wo x y) : VCon ls wo y x := by
  induction h with
  | refl => exact .refl
  | step _ h1 h2 h3 h4 ih => exact (VCon.refl.step h1 h2 h3 (h4.elim (fun e => .inr ⟨e.2, e.1⟩) (fun e => .inl ⟨e.2, e.1⟩))).trans ih
theorem link {k : Lk} (hk : k ∈ ls) (h1 : k.1 ∉ wo) (h2 : k.2.1 ∉ wo) : VCon ls wo k.1 k.2.1 := VCon.refl.step hk h1 h2 (.inl ⟨rfl, rfl⟩)
end VCon
/-- 'root' says which vertices hang together by the links of ls. -/
def RootOf (ls : List Lk) (wo : List Int) (root : Int → Int) : Prop := ∀ x y, root x = root y ↔ VCon ls wo x y
theorem RootOf.start (wo : List Int) : RootOf [] wo (fun x => x) := fun x y => by
  constructor
  · intro h; have : x = y := h; subst this; exact .refl
  · intro h
    induction h with
    | refl => rfl
    | step _ h1 => simp at h1
end Go.Proofs.Ytagcbnpahgfgmaa
