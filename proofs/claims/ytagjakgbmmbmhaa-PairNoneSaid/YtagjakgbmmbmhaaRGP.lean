/- Colouring links group by group, each till nothing touches it. No program in sight. -/
import Derived.Test.YtagjakgbmmbmhaaGrpQ
namespace Go.Proofs.Ytagjakgbmmbmhaa

theorem lcon_symm {ls : List Lk} {wo : List Int} {i j : Nat} (h : LCon ls wo i j) : LCon ls wo j i := Con.symm (bsL_symm ls wo) h
theorem lcon_touch {ls : List Lk} {wo : List Int} {i a b : Nat} (h : LCon ls wo i a) {x y : Lk} (ha : ls[a]? = some x) (hb : ls[b]? = some y) (ht : touchB wo x y = true) : LCon ls wo i b :=
  Con.step h (mem_bsL.2 ⟨x, y, ha, hb, ht⟩) (List.getElem?_eq_some_iff.1 hb).1

/-- the colouring as the outer loop comes to i -/
structure Fl (ls : List Lk) (wo : List Int) (many i : Nat) (c : Nat → Nat) : Prop where
  le : ∀ j, j < ls.length → c j ≤ many
  full : ∀ a b, a < ls.length → b < ls.length → c a ≠ 0 → (c b = c a ↔ LCon ls wo a b)
  done : ∀ j, j < i → c j ≠ 0
  ord : (firsts c i).map c = List.range' 1 many
/-- .. while group m grows from i -/
structure Gr (ls : List Lk) (wo : List Int) (m i : Nat) (c0 c : Nat → Nat) : Prop where
  old : ∀ j, j < ls.length → c0 j ≠ 0 → c j = c0 j
  new : ∀ j, j < ls.length → c0 j = 0 → c j = 0 ∨ (c j = m ∧ LCon ls wo i j)
  self : c i = m

theorem Fl.start (ls : List Lk) (wo : List Int) : Fl ls wo 0 0 (fun _ => 0) where
  le := fun _ _ => Nat.le_refl _
  full := fun _ _ _ _ h => absurd rfl h
  done := fun _ h => absurd h (by omega)
  ord := by simp [firsts]
theorem firsts_congr {c d : Nat → Nat} {i : Nat} (h : ∀ j, j < i → c j = d j) : firsts c i = firsts d i := by
  unfold firsts
  refine List.filter_congr fun a ha => ?_
  rw [List.mem_range] at ha
  rw [Bool.eq_iff_iff]
  simp only [List.all_eq_true, List.mem_range, decide_eq_true_eq]
  constructor
  · intro hh j hj; rw [← h j (by omega), ← h a ha]; exact hh j hj
  · intro hh j hj; rw [h j (by omega), h a ha]; exact hh j hj
theorem Fl.skip {ls : List Lk} {wo : List Int} {many i : Nat} {c : Nat → Nat} (h : Fl ls wo many i c) (hi : i < ls.length) (hc : c i ≠ 0) : Fl ls wo many (i + 1) c where
  le := h.le
  full := h.full
  done := fun j hj => by
    by_cases e : j < i
    · exact h.done j e
    · obtain rfl : j = i := by omega
      exact hc
  ord := by
    have hm : c i ∈ List.range' 1 many := by rw [List.mem_range'_1]; have := h.le i hi; omega
    rw [← h.ord, List.mem_map] at hm
    obtain ⟨j, hj, e⟩ := hm
    rw [firsts_succ, if_neg (fun hall => hall j (mem_firsts.1 hj).1 e), List.append_nil]
    exact h.ord
theorem Gr.start {ls : List Lk} {wo : List Int} {m i : Nat} {c0 : Nat → Nat} (hi : i < ls.length) (hc : c0 i = 0) : Gr ls wo m i c0 (upd c0 i m) where
  old := fun j _ h => by
    have : j ≠ i := fun e => h (by rw [e]; exact hc)
    simp [upd, this]
  new := fun j _ h => by
    by_cases e : j = i
    · right; subst e; exact ⟨by simp [upd], .refl hi⟩
    · left; simp [upd, e, h]
  self := by simp [upd]
theorem Gr.lcon {ls : List Lk} {wo : List Int} {many i : Nat} {c0 c : Nat → Nat} (hF : Fl ls wo many i c0) (h : Gr ls wo (many + 1) i c0 c) {a : Nat} (ha : a < ls.length) (hc : c a = many + 1) : c0 a = 0 ∧ LCon ls wo i a := by
  have h0 : c0 a = 0 := Classical.byContradiction fun hn => by
    have := h.old a ha hn
    have := hF.le a ha
    omega
  rcases h.new a ha h0 with e | ⟨_, e⟩
  · omega
  · exact ⟨h0, e⟩
theorem Gr.step {ls : List Lk} {wo : List Int} {many i : Nat} {c0 c : Nat → Nat} (hF : Fl ls wo many i c0) (h : Gr ls wo (many + 1) i c0 c) {a b : Nat} {x y : Lk} (ha : ls[a]? = some x) (hb : ls[b]? = some y)
    (hca : c a = many + 1) (hcb : c b = 0) (ht : touchB wo x y = true) : Gr ls wo (many + 1) i c0 (upd c b (many + 1)) where
  old := fun j hj hn => by
    have e : j ≠ b := fun e => by subst e; rw [h.old j hj hn] at hcb; exact hn hcb
    simp only [upd, e, if_false]
    exact h.old j hj hn
  new := fun j hj hn => by
    by_cases e : j = b
    · right; subst e
      exact ⟨by simp [upd], lcon_touch (h.lcon hF (List.getElem?_eq_some_iff.1 ha).1 hca).2 ha hb ht⟩
    · simp only [upd, e, if_false]
      exact h.new j hj hn
  self := by
    have e : i ≠ b := fun e => by subst e; have := h.self; omega
    simp only [upd, e, if_false]
    exact h.self
theorem Gr.close {ls : List Lk} {wo : List Int} {many i : Nat} {c0 c : Nat → Nat} (hF : Fl ls wo many i c0) (hi : i < ls.length) (h0 : c0 i = 0) (h : Gr ls wo (many + 1) i c0 c)
    (hcl : ∀ a b x y, ls[a]? = some x → ls[b]? = some y → ¬ (c a = many + 1 ∧ c b = 0 ∧ touchB wo x y = true)) : Fl ls wo (many + 1) (i + 1) c where
  le := fun j hj => by
    by_cases e : c0 j = 0
    · rcases h.new j hj e with e | ⟨e, _⟩ <;> omega
    · rw [h.old j hj e]; have := hF.le j hj; omega
  full := fun a b ha hb hca => by
    by_cases e : c0 a = 0
    · rcases h.new a ha e with e1 | ⟨e1, hia⟩
      · exact absurd e1 hca
      · rw [e1]
        constructor
        · intro hb1
          exact (lcon_symm hia).trans (h.lcon hF hb hb1).2
        · intro hab
          refine Con.closed (fun t => c t = many + 1) ?_ e1 hab
          intro p q hp hq hql
          obtain ⟨x, y, hx, hy, ht⟩ := mem_bsL.1 hq
          have hpl := (List.getElem?_eq_some_iff.1 hx).1
          have hcq : c q ≠ 0 := fun e2 => hcl p q x y hx hy ⟨hp, e2, ht⟩
          by_cases e3 : c0 q = 0
          · rcases h.new q hql e3 with e4 | ⟨e4, _⟩
            · exact absurd e4 hcq
            · exact e4
          · have hqp : LCon ls wo q p := Con.step (.refl hql) (bsL_symm ls wo _ _ hq) hpl
            have := (hF.full q p hql hpl e3).2 hqp
            have := (h.lcon hF hpl hp).1
            omega
    · rw [h.old a ha e]
      have hfa := hF.full a b ha hb e
      have hla := hF.le a ha
      by_cases e2 : c0 b = 0
      · constructor
        · intro hb1
          rcases h.new b hb e2 with e3 | ⟨e3, _⟩ <;> omega
        · intro hab; have := hfa.2 hab; omega
      · rw [h.old b hb e2]; exact hfa
  done := fun j hj => by
    by_cases e : j < i
    · have hn := hF.done j e
      rw [h.old j (by omega) hn]; exact hn
    · obtain rfl : j = i := by omega
      rw [h.self]; omega
  ord := by
    have hc : ∀ j, j < i → c j = c0 j := fun j hj => h.old j (by omega) (hF.done j hj)
    have hall : ∀ j, j < i → c j ≠ c i := fun j hj => by
      rw [hc j hj, h.self]; have := hF.le j (by omega); omega
    rw [firsts_succ, if_pos hall, List.map_append, firsts_congr hc]
    have hm : (firsts c0 i).map c = (firsts c0 i).map c0 := List.map_congr_left fun j hj => hc j (mem_firsts.1 hj).1
    rw [hm, hF.ord]
    simp only [List.map_cons, List.map_nil, h.self]
    rw [List.range'_concat]
    simp [Nat.add_comm]
theorem Fl.groups {ls : List Lk} {wo : List Int} {many : Nat} {c : Nat → Nat} (hr : rightL ls = true) (h : Fl ls wo many ls.length c) : groupsL ls wo = (List.range' 1 many).map fun g => pickL ls (ofCol c ls.length g) := by
  rw [groupsL_by hr (c := c) (fun i j hi hj => by rw [← h.full i j hi hj (h.done i hi)]; exact eq_comm), ← h.ord]
  unfold gIdx
  rw [List.map_map, List.map_map]
  rfl
theorem Fl.many_le {ls : List Lk} {wo : List Int} {many i : Nat} {c : Nat → Nat} (h : Fl ls wo many i c) : many ≤ i := by
  have h1 := congrArg List.length h.ord
  rw [List.length_map, List.length_range'] at h1
  have := firsts_length_le c i
  omega
/-! ### how many have no colour yet -/
def zerosC (c : Nat → Nat) (n : Nat) : Nat := ((List.range n).filter fun j => decide (c j = 0)).length
theorem zerosC_succ (c : Nat → Nat) (n : Nat) : zerosC c (n + 1) = zerosC c n + if c n = 0 then 1 else 0 := by
  unfold zerosC
  rw [List.range_succ, List.filter_append, List.length_append]
  congr 1
  by_cases h : c n = 0 <;> simp [h]
theorem zerosC_same {c d : Nat → Nat} {n : Nat} (h : ∀ j, j < n → c j = d j) : zerosC c n = zerosC d n := by
  unfold zerosC
  congr 1
  refine List.filter_congr fun a ha => ?_
  rw [List.mem_range] at ha
  rw [h a ha]
theorem zerosC_upd {c : Nat → Nat} {n b m : Nat} (hb : b < n) (hc : c b = 0) (hm : m ≠ 0) : zerosC (upd c b m) n + 1 = zerosC c n := by
  induction n with
  | zero => omega
  | succ n ih =>
    rw [zerosC_succ, zerosC_succ]
    by_cases e : b = n
    · subst e
      rw [zerosC_same (c := upd c b m) (d := c) (fun j hj => by simp [upd, show j ≠ b by omega])]
      simp [upd, hc, hm]
    · have := ih (by omega)
      simp only [upd, show n ≠ b from fun x => e x.symm, if_false]
      unfold upd at this
      omega
end Go.Proofs.Ytagjakgbmmbmhaa
