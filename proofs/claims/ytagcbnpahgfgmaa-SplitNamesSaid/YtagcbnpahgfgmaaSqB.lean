/- What links are split into is like a tree. No program in sight. -/
import Derived.Test.YtagcbnpahgfgmaaSqA
namespace Go.Proofs.Ytagcbnpahgfgmaa

theorem right_sort {l : List Lk} (hn : l.Nodup) (ho : ∀ k ∈ l, OkL k) (hl : l.length ≤ 1000) : RightL (sortL l) ∧ (sortL l).Perm l := by
  have hp : (sortL l).Perm l := by have := sortL_perm l; rwa [map_swapL ho] at this
  refine ⟨⟨by rw [hp.length_eq]; exact hl, fun k hk => ho k (hp.mem_iff.1 hk), ?_⟩, hp⟩
  have h1 := sortL_sorted l
  have h2 : (sortL l).Pairwise (· ≠ ·) := hp.nodup_iff.2 hn
  exact (h1.and h2).imp fun {x y} ⟨a, b⟩ => Classical.byContradiction fun hno => b (LtL.total _ _ hno a)
theorem io_perm (f t : Nat) (G : List (List Lk)) : ∀ i, i ≤ G.length → (inS f t G i ++ outS f t G i).Perm (G.take i).flatten := by
  intro i
  induction i with
  | zero => intro _; simp [inS, outS]
  | succ i ih =>
    intro h
    rw [inS_succ f t G i (by omega), outS_succ f t G i (by omega), List.take_succ_eq_append_getElem (by omega), List.flatten_append]
    have i1 := ih (by omega)
    simp only [List.flatten_cons, List.flatten_nil, List.append_nil]
    by_cases hc : f ≤ i ∧ i < t
    · rw [if_pos hc, if_pos hc, List.append_nil]
      refine List.Perm.trans ?_ (i1.append_right _)
      rw [List.append_assoc, List.append_assoc]
      exact List.Perm.append_left _ List.perm_append_comm
    · rw [if_neg hc, if_neg hc, List.append_nil, ← List.append_assoc]
      exact i1.append_right _
/-- the two sides are the links, and the number twice -/
theorem sides_perm {ls : List Lk} {a b num : Int} (hR : RightL ls) (ha : 0 ≤ a) (hab : a < b) (hb : b < 1048576) (hn : 0 < num ∧ num ≤ 1048576) :
    ∃ X Y : List Lk, ls.Perm (X ++ Y) ∧ (sidesL ls a b num).1.Perm ((a, b, num) :: X) ∧ (sidesL ls a b num).2.Perm ((a, b, num) :: Y) := by
  have hok : OkL (a, b, num) := by unfold OkL; simp only; omega
  obtain ⟨G, hG⟩ : ∃ G, G = groupsL ls [a, b] := ⟨_, rfl⟩
  have hp : (groupsL ls [a, b]).flatten.Perm ls := grp_perm hR
  have hio := io_perm (fromTo ls.length G).1 (fromTo ls.length G).2 G G.length (Nat.le_refl _)
  rw [List.take_length] at hio
  rw [← hG] at hp
  have hm : ∀ k, k ∈ inS (fromTo ls.length G).1 (fromTo ls.length G).2 G G.length ++ outS (fromTo ls.length G).1 (fromTo ls.length G).2 G G.length → OkL k := fun k hk => hR.2.1 k ((hio.trans hp).mem_iff.1 hk)
  refine ⟨_, _, (hio.trans hp).symm, ?_, ?_⟩
  · unfold sidesL
    simp only
    rw [← hG]
    have := sortL_perm ((a, b, num) :: inS (fromTo ls.length G).1 (fromTo ls.length G).2 G G.length)
    rwa [map_swapL] at this
    intro k hk
    rcases List.mem_cons.1 hk with rfl | hk
    · exact hok
    · exact hm k (by simp [hk])
  · unfold sidesL
    simp only
    rw [← hG]
    have := sortL_perm ((a, b, num) :: outS (fromTo ls.length G).1 (fromTo ls.length G).2 G G.length)
    rwa [map_swapL] at this
    intro k hk
    rcases List.mem_cons.1 hk with rfl | hk
    · exact hok
    · exact hm k (by simp [hk])
theorem sides_sorted (ls : List Lk) (a b num : Int) : (sidesL ls a b num).1.Pairwise LeL ∧ (sidesL ls a b num).2.Pairwise LeL := by
  unfold sidesL
  exact ⟨sortL_sorted _, sortL_sorted _⟩
theorem right_of {l m : List Lk} (hp : l.Perm m) (hs : l.Pairwise LeL) (hn : l.Nodup) (ho : ∀ k ∈ m, OkL k) (hl : m.length ≤ 1000) : RightL l := by
  refine ⟨by rw [hp.length_eq]; exact hl, fun k hk => ho k (hp.mem_iff.1 hk), ?_⟩
  have h2 : l.Pairwise (· ≠ ·) := hn
  exact (hs.and h2).imp fun {x y} ⟨a, b⟩ => Classical.byContradiction fun hno => b (LtL.total _ _ hno a)

/-- what stays true while links without numbers are split -/
structure SpI (ls : List Lk) (s : SpS) : Prop where
  tree : ∃ D, TreeP (s.todo ++ s.out) D ∧ (∀ d ∈ D, 1 ≤ d.2.2 ∧ d.2.2 < s.next) ∧ (D.length : Int) + 1 = s.next
  right : ∀ t ∈ s.todo ++ s.out, RightL t
  three : ∀ t ∈ s.todo ++ s.out, 3 ≤ t.length
  rels : (relL (s.todo ++ s.out)).Perm ls
  hi : s.next + fmL s.todo ≤ 1 + (ls.length - 3 : Nat)
theorem rel_self {ls : List Lk} (hv : ∀ k ∈ ls, k.2.2 = 0) : relL [ls] = ls := by
  simp only [relL, List.flatMap_cons, List.flatMap_nil, List.append_nil]
  exact List.filter_eq_self.2 fun k hk => by simp [hv k hk]
theorem SpI.start {ls : List Lk} (hR : RightL ls) (hv : ∀ k ∈ ls, k.2.2 = 0) (h3 : 3 ≤ ls.length) : SpI ls ⟨[ls], [], 1⟩ := by
  have hn : ls.Nodup := right_nodup hR
  refine ⟨⟨[], by simpa using TreeP.single hn hv, by simp, by simp⟩, fun t ht => by simp at ht; subst ht; exact hR, fun t ht => by simp at ht; subst ht; exact h3, ?_, by simp [fmL]⟩
  simp only [List.append_nil]
  rw [rel_self hv]
theorem SpI.step {ls : List Lk} {s : SpS} (hl : ls.length ≤ 1000) (h : SpI ls s) : SpI ls s.step := by
  unfold SpS.step
  cases ht : s.todo.getLast? with
  | none => exact h
  | some top =>
    have hsp := getLast_split ht
    have hp1 : (s.todo ++ s.out).Perm (top :: (s.todo.dropLast ++ s.out)) := by
      conv => lhs; rw [hsp]
      rw [List.append_assoc]
      exact List.perm_middle
    have htop := h.right top (hp1.mem_iff.2 (by simp))
    have hhi := h.hi
    have hfm : fmL s.todo = fmL s.todo.dropLast + (top.length - 3) := by
      have := congrArg fmL hsp
      rw [fm_append] at this
      rw [this]; simp [fmL]
    obtain ⟨D, hD, hDv, hDl⟩ := h.tree
    simp only
    cases hc : (firstC top).2.2.1 with
    | false =>
      simp only [Bool.false_eq_true, if_false]
      have hp2 : (s.todo ++ s.out).Perm (s.todo.dropLast ++ (s.out ++ [top])) := by
        refine hp1.trans ?_
        rw [← List.append_assoc]
        exact (List.perm_append_singleton top _).symm
      exact ⟨⟨D, hD.perm hp2, hDv, hDl⟩, fun t ht => h.right t (hp2.mem_iff.2 ht), fun t ht => h.three t (hp2.mem_iff.2 ht), (relL_perm hp2).symm.trans h.rels, by simp only; omega⟩
    | true =>
      simp only [if_true]
      have hfc : firstC top = ((firstC top).1, (firstC top).2.1, true, (firstC top).2.2.2) := by rw [← hc]
      obtain ⟨p, hpe⟩ : ∃ p, p = (firstC top).1 := ⟨_, rfl⟩
      obtain ⟨q, hqe⟩ : ∃ q, q = (firstC top).2.1 := ⟨_, rfl⟩
      rw [← hpe, ← hqe] at hfc ⊢
      obtain ⟨t2, hpm, hqm, hpq, hpr, _⟩ := firstC_true hfc
      obtain ⟨f1, f2, f3, f4⟩ := fm_sides (num := s.next) hfc
      obtain ⟨l1, l2, l3⟩ := sides_len (num := s.next) t2 hpr
      have hpo : 0 ≤ p := by
        obtain ⟨x, hx, e⟩ := (mem_vertsL top p).1 hpm
        have := htop.2.1 x hx
        unfold OkL at this
        rcases e with rfl | rfl <;> omega
      have hqo : q < 1048576 := by
        obtain ⟨x, hx, e⟩ := (mem_vertsL top q).1 hqm
        have := htop.2.1 x hx
        unfold OkL at this
        rcases e with rfl | rfl <;> omega
      obtain ⟨X, Y, hXY, hS1, hS2⟩ := sides_perm (num := s.next) htop hpo hpq hqo (by omega)
      obtain ⟨hs1, hs2⟩ := sides_sorted top p q s.next
      obtain ⟨S1, hS1e⟩ : ∃ S1, S1 = (sidesL top p q s.next).1 := ⟨_, rfl⟩
      obtain ⟨S2, hS2e⟩ : ∃ S2, S2 = (sidesL top p q s.next).2 := ⟨_, rfl⟩
      rw [← hS1e] at hS1 hs1 l1 l3 f1 f3 ⊢
      rw [← hS2e] at hS2 hs2 l2 l3 f1 f4 ⊢
      have hT := TreeP.split (hD.perm hp1) hXY (e := (p, q, s.next)) (by simp only; omega) (fun d hd => by have := hDv d hd; simp only; omega) hS1 hS2
      have hp3 : (S1 :: S2 :: (s.todo.dropLast ++ s.out)).Perm (s.todo.dropLast ++ [S2, S1] ++ s.out) := by
        rw [List.append_assoc]
        refine List.Perm.trans ?_ List.perm_append_comm
        rw [List.append_assoc]
        refine (List.Perm.swap _ _ _).trans ?_
        simp only [List.cons_append, List.nil_append]
        exact ((List.perm_append_comm).cons _).cons _
      have hokm : ∀ k ∈ (p, q, s.next) :: (X ++ Y), OkL k := fun k hk => by
        rcases List.mem_cons.1 hk with rfl | hk
        · unfold OkL; simp only; omega
        · exact htop.2.1 k (hXY.mem_iff.2 hk)
      have htl := htop.1
      have r1 : RightL S1 := right_of hS1 hs1 (hT.nd _ (by simp)) (fun k hk => hokm k ((List.mem_cons.1 hk).elim (fun e => List.mem_cons.2 (.inl e)) fun hk => List.mem_cons_of_mem _ (List.mem_append_left _ hk))) (by rw [← hS1.length_eq]; omega)
      have r2 : RightL S2 := right_of hS2 hs2 (hT.nd _ (by simp)) (fun k hk => hokm k ((List.mem_cons.1 hk).elim (fun e => List.mem_cons.2 (.inl e)) fun hk => List.mem_cons_of_mem _ (List.mem_append_right _ hk))) (by rw [← hS2.length_eq]; omega)
      refine ⟨⟨_, hT.perm hp3, fun d hd => ?_, by simp; omega⟩, fun t ht => ?_, fun t ht => ?_, ?_, ?_⟩
      · rcases List.mem_cons.1 hd with rfl | hd
        · simp only; omega
        · have := hDv d hd; simp only; omega
      · rcases List.mem_cons.1 (hp3.mem_iff.2 ht) with rfl | hm
        · exact r1
        · rcases List.mem_cons.1 hm with rfl | hm
          · exact r2
          · exact h.right t (hp1.mem_iff.2 (by simp only [List.mem_cons]; exact .inr hm))
      · rcases List.mem_cons.1 (hp3.mem_iff.2 ht) with rfl | hm
        · exact l1
        · rcases List.mem_cons.1 hm with rfl | hm
          · exact l2
          · exact h.three t (hp1.mem_iff.2 (by simp only [List.mem_cons]; exact .inr hm))
      · refine (relL_perm hp3).symm.trans (List.Perm.trans ?_ h.rels)
        refine List.Perm.trans ?_ (relL_perm hp1).symm
        rw [relL_cons, relL_cons, relL_cons, ← List.append_assoc]
        refine List.Perm.append_right _ ?_
        have hre : ∀ Z : List Lk, realL ((p, q, s.next) :: Z) = realL Z := fun Z => by unfold realL; rw [List.filter_cons, if_neg (by simp; omega)]
        have a1 := realL_perm hS1
        have a2 := realL_perm hS2
        rw [hre] at a1 a2
        have a3 := realL_perm hXY
        rw [realL_append] at a3
        exact (a1.append a2).trans a3.symm
      · simp only
        rw [fm_append]
        omega
theorem SpI.steps {ls : List Lk} (hl : ls.length ≤ 1000) : ∀ (k : Nat) (s : SpS), SpI ls s → SpI ls (SpS.steps k s) := by
  intro k
  induction k with
  | zero => intro s h; exact h
  | succ k ih => intro s h; rw [SpS.steps]; exact ih _ (h.step hl)
/-- What is so of the pieces. -/
structure PiecesOk (ls : List Lk) (out : List (List Lk)) (n : Int) : Prop where
  tree : ∃ D, TreeP out D ∧ (∀ d ∈ D, 1 ≤ d.2.2 ∧ d.2.2 < n) ∧ (D.length : Int) + 1 = n
  right : ∀ t ∈ out, RightL t
  three : ∀ t ∈ out, 3 ≤ t.length
  rels : (relL out).Perm ls
  hi : n ≤ 1 + (ls.length - 3 : Nat)
theorem SplitTo.ok {ls : List Lk} {out : List (List Lk)} {n : Int} (h : SplitTo ls 1 out n) (hR : RightL ls) (hv : ∀ k ∈ ls, k.2.2 = 0) (h3 : 3 ≤ ls.length) : PiecesOk ls out n := by
  obtain ⟨k, hk⟩ := h
  have h1 := SpI.steps hR.1 k _ (SpI.start hR hv h3)
  rw [hk] at h1
  exact ⟨by simpa using h1.tree, by simpa using h1.right, by simpa using h1.three, by simpa using h1.rels, by have := h1.hi; simpa [fmL] using this⟩
end Go.Proofs.Ytagcbnpahgfgmaa
