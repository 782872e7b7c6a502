/- Parts of the same kind that have a number in common are joined: in whatever order, to the same. No program in sight. -/
import Derived.Test.YtagcbnpahgfgmaaSqB
namespace Go.Proofs.Ytagcbnpahgfgmaa

/-- a part: its kind, its links -/
abbrev Pt := Int × List Lk
def dropV (v : Int) (x : List Lk) : List Lk := x.filter fun k => k.2.2 != v
def joinL (x y : List Lk) (v : Int) : List Lk := sortL (dropV v x ++ dropV v y)
theorem mem_dropV {v : Int} {x : List Lk} {k : Lk} : k ∈ dropV v x ↔ k ∈ x ∧ k.2.2 ≠ v := by simp [dropV]
theorem dropV_perm {v : Int} {x y : List Lk} (h : x.Perm y) : (dropV v x).Perm (dropV v y) := h.filter _
theorem dropV_append (v : Int) (x y : List Lk) : dropV v (x ++ y) = dropV v x ++ dropV v y := by unfold dropV; rw [List.filter_append]
theorem dropV_comm (v w : Int) (x : List Lk) : dropV v (dropV w x) = dropV w (dropV v x) := by
  unfold dropV
  rw [List.filter_filter, List.filter_filter]
  congr 1
  funext k
  exact Bool.and_comm _ _
theorem dropV_self {v : Int} {x : List Lk} (h : ∀ k ∈ x, k.2.2 ≠ v) : dropV v x = x := List.filter_eq_self.2 fun k hk => by simp [h k hk]
theorem dropV_erase {x : List Lk} (hn : x.Nodup) {e : Lk} (he : e ∈ x) (hu : ∀ k ∈ x, k.2.2 = e.2.2 → k = e) : dropV e.2.2 x = x.erase e := by
  rw [hn.erase_eq_filter]
  unfold dropV
  refine List.filter_congr fun k hk => ?_
  by_cases h : k = e
  · subst h; simp
  · have h1 : k.2.2 ≠ e.2.2 := fun h2 => h (hu k hk h2)
    have h2 : (k.2.2 != e.2.2) = true := bne_iff_ne.2 h1
    have h3 : (k != e) = true := bne_iff_ne.2 h
    show (k.2.2 != e.2.2) = (k != e)
    rw [h2, h3]
theorem joinL_comm (x y : List Lk) (v : Int) : joinL x y v = joinL y x v := sortL_congr (List.perm_append_comm.map _)
/-- What stays true of parts. -/
structure QI (ls : List Lk) (Q : List Pt) : Prop where
  tree : ∃ D, TreeP (Q.map fun q => q.2) D ∧ (∀ d ∈ D, 1 ≤ d.2.2 ∧ d.2.2 ≤ 998)
  right : ∀ q ∈ Q, RightL q.2
  three : ∀ q ∈ Q, 3 ≤ q.2.length
  rels : (relL (Q.map fun q => q.2)).Perm ls
namespace QI
variable {ls : List Lk} {Q Q' : List Pt}
theorem perm (h : QI ls Q) (hp : Q.Perm Q') : QI ls Q' := by
  obtain ⟨D, h1, h2⟩ := h.tree
  exact ⟨⟨D, h1.perm (hp.map _), h2⟩, fun q hq => h.right q (hp.mem_iff.2 hq), fun q hq => h.three q (hp.mem_iff.2 hq), (relL_perm (hp.map _)).symm.trans h.rels⟩
theorem share (h : QI ls Q) {x y : Pt} {R : List Pt} (hp : Q.Perm (x :: y :: R)) {e f : Lk} (hex : e ∈ virtL x.2) (hey : e ∈ virtL y.2) (hfx : f ∈ virtL x.2) (hfy : f ∈ virtL y.2) : e = f := by
  obtain ⟨D, h1, _⟩ := h.tree
  exact h1.share_one (R := R.map fun q => q.2) (by simpa using hp.map fun q => q.2) hex hey hfx hfy
/-- a number stands in two parts alone -/
theorem only (h : QI ls Q) {x y : Pt} {R : List Pt} (hp : Q.Perm (x :: y :: R)) {e : Lk} (hex : e ∈ virtL x.2) (hey : e ∈ virtL y.2) : ∀ z ∈ R, ∀ k ∈ z.2, k.2.2 ≠ e.2.2 := by
  intro z hz k hk hv
  obtain ⟨D, h1, _⟩ := h.tree
  have hp2 : (Q.map fun q => q.2).Perm (x.2 :: y.2 :: R.map fun q => q.2) := by simpa using hp.map fun q => q.2
  have hev := (mem_virtL.1 hex).2
  have hke : k = e := h1.same_num (mem_occL.2 ⟨z.2, hp2.mem_iff.2 (by simp only [List.mem_cons]; exact .inr (.inr (List.mem_map_of_mem hz))), hk, by rw [hv]; exact hev⟩) (mem_occL.2 ⟨x.2, hp2.mem_iff.2 (by simp), (mem_virtL.1 hex).1, hev⟩) hv
  subst hke
  have c2 := h1.count2 (e := k) (h1.memD.2 (mem_occL.2 ⟨x.2, hp2.mem_iff.2 (by simp), (mem_virtL.1 hex).1, hev⟩))
  rw [(occL_perm hp2).count_eq, occL_cons, occL_cons, List.count_append, List.count_append] at c2
  have a1 := List.count_pos_iff.2 hex
  have a2 := List.count_pos_iff.2 hey
  have a3 : 0 < (occL (R.map fun q => q.2)).count k := List.count_pos_iff.2 (mem_occL.2 ⟨z.2, List.mem_map_of_mem hz, hk, hev⟩)
  omega
theorem uniq (h : QI ls Q) {x : Pt} (hx : x ∈ Q) {e : Lk} (he : e ∈ virtL x.2) : ∀ k ∈ x.2, k.2.2 = e.2.2 → k = e := by
  intro k hk hv
  obtain ⟨D, h1, _⟩ := h.tree
  have hev := (mem_virtL.1 he).2
  exact h1.same_num (mem_occL.2 ⟨x.2, List.mem_map_of_mem hx, hk, by rw [hv]; exact hev⟩) (mem_occL.2 ⟨x.2, List.mem_map_of_mem hx, (mem_virtL.1 he).1, hev⟩) hv
theorem sum_len (P : List (List Lk)) : (occL P).length + (relL P).length = (P.map List.length).sum := by
  induction P with
  | nil => rfl
  | cons x P ih =>
    rw [occL_cons, relL_cons, List.map_cons, List.sum_cons, List.length_append, List.length_append]
    have := virt_len x
    omega
theorem sum_three (P : List (List Lk)) (h : ∀ x ∈ P, 3 ≤ x.length) : 3 * P.length ≤ (P.map List.length).sum := by
  induction P with
  | nil => simp
  | cons x P ih =>
    rw [List.map_cons, List.sum_cons, List.length_cons]
    have := ih fun y hy => h y (by simp [hy])
    have := h x (by simp)
    omega
/-- no part is more than the links -/
theorem small {P : List (List Lk)} {D : List Lk} (h : TreeP P D) {z : List Lk} {R : List (List Lk)} (hp : P.Perm (z :: R)) (h3 : ∀ x ∈ R, 3 ≤ x.length) : z.length + R.length ≤ (relL P).length := by
  have h1 := sum_len P
  rw [h.occ.length_eq, List.length_append, (hp.map List.length).sum_nat, List.map_cons, List.sum_cons] at h1
  have h2 := sum_three R h3
  have h4 := h.len
  have h5 := hp.length_eq
  simp at h5
  omega
/-- two parts joined -/
theorem join (h : QI ls Q) (hl : ls.length ≤ 1000) {x y : Pt} {R : List Pt} (hp : Q.Perm (x :: y :: R)) {e : Lk} (hex : e ∈ virtL x.2) (hey : e ∈ virtL y.2) (k : Int) : QI ls ((k, joinL x.2 y.2 e.2.2) :: R) := by
  have hxQ : x ∈ Q := hp.mem_iff.2 (by simp)
  have hyQ : y ∈ Q := hp.mem_iff.2 (by simp)
  obtain ⟨D, h1, h2⟩ := h.tree
  have hp2 : (Q.map fun q => q.2).Perm (x.2 :: y.2 :: R.map fun q => q.2) := by simpa using hp.map fun q => q.2
  have rx := h.right x hxQ
  have ry := h.right y hyQ
  have ex := dropV_erase (right_nodup rx) (mem_virtL.1 hex).1 (h.uniq hxQ hex)
  have ey := dropV_erase (right_nodup ry) (mem_virtL.1 hey).1 (h.uniq hyQ hey)
  have hok : ∀ k ∈ dropV e.2.2 x.2 ++ dropV e.2.2 y.2, OkL k := fun k hk => by
    rcases List.mem_append.1 hk with hk | hk
    · exact rx.2.1 k (mem_dropV.1 hk).1
    · exact ry.2.1 k (mem_dropV.1 hk).1
  have hz : (joinL x.2 y.2 e.2.2).Perm (x.2.erase e ++ y.2.erase e) := by
    have := sortL_perm (dropV e.2.2 x.2 ++ dropV e.2.2 y.2)
    rw [map_swapL hok] at this
    rw [← ex, ← ey]; exact this
  have hT := (h1.perm hp2).join hex hey hz
  have l1 := List.length_erase_of_mem (mem_virtL.1 hex).1
  have l2 := List.length_erase_of_mem (mem_virtL.1 hey).1
  have t1 := h.three x hxQ
  have t2 := h.three y hyQ
  have hzl := hz.length_eq
  rw [List.length_append] at hzl
  have hrel : (relL (joinL x.2 y.2 e.2.2 :: R.map fun q => q.2)).Perm (relL (Q.map fun q => q.2)) := by
    refine List.Perm.trans ?_ (relL_perm hp2).symm
    rw [relL_cons, relL_cons, relL_cons, ← List.append_assoc]
    refine List.Perm.append_right _ ?_
    have hev := (mem_virtL.1 hex).2
    have hre : ∀ Z : List Lk, realL (e :: Z) = realL Z := fun Z => by unfold realL; rw [List.filter_cons, if_neg (by simpa using hev)]
    have a1 := realL_perm (List.perm_cons_erase (mem_virtL.1 hex).1)
    have a2 := realL_perm (List.perm_cons_erase (mem_virtL.1 hey).1)
    rw [hre] at a1 a2
    have a3 := realL_perm hz
    rw [realL_append] at a3
    exact a3.trans (a1.symm.append a2.symm)
  have hlen : (joinL x.2 y.2 e.2.2).length ≤ 1000 := by
    have s1 := small hT (.refl _) (fun u hu => by obtain ⟨q, hq, rfl⟩ := List.mem_map.1 hu; exact h.three q (hp.mem_iff.2 (by simp [hq])))
    have s2 := hrel.length_eq
    have s3 := h.rels.length_eq
    omega
  refine ⟨⟨_, hT, fun d hd => h2 d (List.mem_of_mem_erase hd)⟩, fun q hq => ?_, fun q hq => ?_, ?_⟩
  · rcases List.mem_cons.1 hq with rfl | hq
    · refine right_of hz (sortL_sorted _) (hT.nd _ (by simp)) (fun k hk => ?_) (by rw [← hz.length_eq]; exact hlen)
      rw [← ex, ← ey] at hk
      exact hok k hk
    · exact h.right q (hp.mem_iff.2 (by simp [hq]))
  · rcases List.mem_cons.1 hq with rfl | hq
    · simp only; omega
    · exact h.three q (hp.mem_iff.2 (by simp [hq]))
  · rw [List.map_cons]
    exact hrel.trans h.rels
end QI
/-- One joining. -/
def MStep (e : Lk) (Q Q' : List Pt) : Prop := ∃ x y R, Q.Perm (x :: y :: R) ∧ e ∈ virtL x.2 ∧ e ∈ virtL y.2 ∧ x.1 = y.1 ∧ x.1 ≠ 3 ∧ Q'.Perm ((x.1, joinL x.2 y.2 e.2.2) :: R)
theorem MStep.perm {e : Lk} {Q Q' Q1 Q2 : List Pt} (h : MStep e Q Q') (h1 : Q.Perm Q1) (h2 : Q'.Perm Q2) : MStep e Q1 Q2 := by
  obtain ⟨x, y, R, a, b, c, d, f, g⟩ := h
  exact ⟨x, y, R, h1.symm.trans a, b, c, d, f, h2.symm.trans g⟩
theorem MStep.qi {ls : List Lk} (hl : ls.length ≤ 1000) {e : Lk} {Q Q' : List Pt} (h : QI ls Q) (hs : MStep e Q Q') : QI ls Q' := by
  obtain ⟨x, y, R, a, b, c, d, f, g⟩ := hs
  exact (h.join hl a b c _).perm g.symm
theorem MStep.len {e : Lk} {Q Q' : List Pt} (hs : MStep e Q Q') : Q'.length + 1 = Q.length := by
  obtain ⟨x, y, R, a, b, c, d, f, g⟩ := hs
  rw [a.length_eq, g.length_eq]; simp
def MNormal (Q : List Pt) : Prop := ∀ e Q', ¬ MStep e Q Q'
theorem MNormal.perm {Q Q' : List Pt} (h : MNormal Q) (hp : Q.Perm Q') : MNormal Q' := fun e Q1 hs => h e Q1 (hs.perm hp.symm (.refl _))
inductive MTo : List Pt → List Pt → Prop
  | done {Q Q' : List Pt} : Q.Perm Q' → MTo Q Q'
  | step {Q Q1 Q' : List Pt} {e : Lk} : MStep e Q Q1 → MTo Q1 Q' → MTo Q Q'
theorem MTo.permL {Q Q1 Q' : List Pt} (h : MTo Q Q') (hp : Q.Perm Q1) : MTo Q1 Q' := by
  cases h with
  | done h => exact .done (hp.symm.trans h)
  | step h k => exact .step (h.perm hp (.refl _)) k
theorem MTo.permR {Q Q1 Q' : List Pt} (h : MTo Q Q') (hp : Q'.Perm Q1) : MTo Q Q1 := by
  induction h with
  | done h => exact .done (h.trans hp)
  | step h _ ih => exact .step h (ih hp)
theorem MTo.snoc {Q Q1 Q2 : List Pt} {e : Lk} (h : MTo Q Q1) (k : MStep e Q1 Q2) : MTo Q Q2 := by
  induction h with
  | done h => exact .step (k.perm h.symm (.refl _)) (.done (.refl _))
  | step h _ ih => exact .step h (ih k)
theorem MTo.qi {ls : List Lk} (hl : ls.length ≤ 1000) {Q Q' : List Pt} (hs : MTo Q Q') : QI ls Q → QI ls Q' := by
  induction hs with
  | done h => exact fun k => k.perm h
  | step h _ ih => exact fun k => ih (h.qi hl k)
theorem mto_ex : ∀ (n : Nat) (Q : List Pt), Q.length = n → ∃ N, MTo Q N ∧ MNormal N := by
  intro n
  induction n with
  | zero =>
    intro Q hQ
    refine ⟨Q, .done (.refl _), fun e Q' hs => ?_⟩
    have := hs.len
    omega
  | succ n ih =>
    intro Q hQ
    by_cases h : MNormal Q
    · exact ⟨Q, .done (.refl _), h⟩
    · have : ∃ e Q', MStep e Q Q' := Classical.byContradiction fun hno => h fun e Q' hs => hno ⟨e, Q', hs⟩
      obtain ⟨e, Q', hs⟩ := this
      obtain ⟨N, h1, h2⟩ := ih Q' (by have := hs.len; omega)
      exact ⟨N, .step hs h1, h2⟩
/-- by one number one thing comes out -/
theorem MStep.same {ls : List Lk} {e : Lk} {Q Q1 Q2 : List Pt} (h : QI ls Q) (h1 : MStep e Q Q1) (h2 : MStep e Q Q2) : Q1.Perm Q2 := by
  obtain ⟨x, y, R, a, b, c, d, f, g⟩ := h1
  obtain ⟨x', y', R', a', b', c', d', f', g'⟩ := h2
  have only := h.only a b c
  have hnR : ∀ z ∈ R, e ∉ virtL z.2 := fun z hz hm => only z hz e (mem_virtL.1 hm).1 rfl
  have hp := a'.symm.trans a
  have key : ∀ {u v : Pt}, (x' :: y' :: R').Perm (u :: v :: R) → x' = u → y' = v ∧ R'.Perm R := fun {u v} hp hx => by
    subst hx
    have h1 := hp.cons_inv
    have hy := h1.mem_iff.1 (List.mem_cons_self ..)
    rcases List.mem_cons.1 hy with rfl | hy
    · exact ⟨rfl, h1.cons_inv⟩
    · exact absurd c' (hnR _ hy)
  have hx := hp.mem_iff.1 (List.mem_cons_self ..)
  rcases List.mem_cons.1 hx with e1 | hx
  · obtain ⟨rfl, hR⟩ := key hp e1
    subst e1
    exact g.trans ((hR.symm.cons _).trans g'.symm)
  · rcases List.mem_cons.1 hx with e1 | hx
    · obtain ⟨rfl, hR⟩ := key (hp.trans (.swap ..)) e1
      subst e1
      rw [d', joinL_comm] at g'
      exact g.trans ((hR.symm.cons _).trans g'.symm)
    · exact absurd b' (hnR _ hx)
/-- where two joinings lie -/
theorem two_steps {ls : List Lk} {e f : Lk} {Q : List Pt} (h : QI ls Q) (hne : e ≠ f) {x y x' y' : Pt} {R R' : List Pt} (a : Q.Perm (x :: y :: R)) (b : e ∈ virtL x.2) (c : e ∈ virtL y.2) (a' : Q.Perm (x' :: y' :: R')) (b' : f ∈ virtL x'.2) (c' : f ∈ virtL y'.2) :
    (∃ R1, R.Perm (x' :: y' :: R1) ∧ R'.Perm (x :: y :: R1)) ∨
    (∃ p q r R1, ((x = p ∧ y = q) ∨ (x = q ∧ y = p)) ∧ R.Perm (r :: R1) ∧ ((x' = p ∧ y' = r) ∨ (x' = r ∧ y' = p)) ∧ R'.Perm (q :: R1)) := by
  have hp := a.symm.trans a'
  -- where x' and y' are among x, y and the rest
  have hx' : x' ∈ x :: y :: R := hp.mem_iff.2 (List.mem_cons_self ..)
  have one : ∀ {p q u v : Pt} {S : List Pt}, (p :: q :: R).Perm (u :: v :: S) → e ∈ virtL p.2 → e ∈ virtL q.2 → f ∈ virtL u.2 → f ∈ virtL v.2 → Q.Perm (p :: q :: R) → u = p → ∃ R1, R.Perm (v :: R1) ∧ S.Perm (q :: R1) := fun {p q u v S} hp e1 e2 f1 f2 hQ hu => by
    subst hu
    have h1 := hp.cons_inv
    have hv := h1.mem_iff.2 (List.mem_cons_self ..)
    rcases List.mem_cons.1 hv with rfl | hv
    · exact absurd (h.share hQ e1 e2 f1 f2) hne
    · obtain ⟨R1, hR1⟩ := perm_head hv
      refine ⟨R1, hR1, ?_⟩
      have h2 : (v :: q :: R1).Perm (v :: S) := (((List.Perm.swap _ _ _).trans (hR1.symm.cons q))).trans h1
      exact h2.cons_inv.symm
  rcases List.mem_cons.1 hx' with e1 | hx'
  · obtain ⟨R1, r1, r2⟩ := one hp b c b' c' a e1
    exact .inr ⟨x, y, y', R1, .inl ⟨rfl, rfl⟩, r1, .inl ⟨e1, rfl⟩, r2⟩
  rcases List.mem_cons.1 hx' with e1 | hx'
  · obtain ⟨R1, r1, r2⟩ := one ((List.Perm.swap ..).trans hp) c b b' c' (a.trans (.swap ..)) e1
    exact .inr ⟨y, x, y', R1, .inr ⟨rfl, rfl⟩, r1, .inl ⟨e1, rfl⟩, r2⟩
  have hy' : y' ∈ x :: y :: R := hp.mem_iff.2 (by simp)
  rcases List.mem_cons.1 hy' with e1 | hy'
  · obtain ⟨R1, r1, r2⟩ := one (hp.trans (.swap ..)) b c c' b' a e1
    exact .inr ⟨x, y, x', R1, .inl ⟨rfl, rfl⟩, r1, .inr ⟨rfl, e1⟩, r2⟩
  rcases List.mem_cons.1 hy' with e1 | hy'
  · obtain ⟨R1, r1, r2⟩ := one ((List.Perm.swap ..).trans (hp.trans (.swap ..))) c b c' b' (a.trans (.swap ..)) e1
    exact .inr ⟨y, x, x', R1, .inr ⟨rfl, rfl⟩, r1, .inr ⟨rfl, e1⟩, r2⟩
  · left
    obtain ⟨R1, h1⟩ := perm_head hx'
    have h2 : (x' :: x :: y :: R1).Perm (x' :: y' :: R') := by
      refine List.Perm.trans ?_ hp
      refine (List.Perm.swap _ _ _).trans ?_
      refine List.Perm.cons _ ?_
      exact (List.Perm.swap _ _ _).trans (h1.symm.cons y)
    have h3 := h2.cons_inv
    -- y' stands in R1, too: else x' and y' are one
    have hy2 : y' ∈ x :: y :: R1 := h3.mem_iff.2 (List.mem_cons_self ..)
    have hno : ∀ z ∈ [x, y], y' ≠ z := fun z hz he => by
      simp at hz
      have := h.only a b c y' hy' e
      rcases hz with rfl | rfl
      · exact this (by rw [he]; exact (mem_virtL.1 b).1) rfl
      · exact this (by rw [he]; exact (mem_virtL.1 c).1) rfl
    rcases List.mem_cons.1 hy2 with e1 | hy2
    · exact absurd e1 (hno x (by simp))
    rcases List.mem_cons.1 hy2 with e1 | hy2
    · exact absurd e1 (hno y (by simp))
    obtain ⟨R2, h4⟩ := perm_head hy2
    refine ⟨R2, h1.trans (h4.cons _), ?_⟩
    have h5 : (y' :: x :: y :: R2).Perm (y' :: R') := by
      refine List.Perm.trans ?_ h3
      refine (List.Perm.swap _ _ _).trans ?_
      refine List.Perm.cons _ ?_
      exact (List.Perm.swap _ _ _).trans (h4.symm.cons y)
    exact h5.cons_inv.symm
theorem join_join {x y z : List Lk} {v w : Int} (hok : ∀ k ∈ x ++ y ++ z, OkL k) (hz : ∀ k ∈ z, k.2.2 ≠ v) (hy : ∀ k ∈ y, k.2.2 ≠ w) : joinL (joinL x y v) z w = joinL (joinL x z w) y v := by
  have sp : ∀ a : List Lk, (∀ k ∈ a, OkL k) → (sortL a).Perm a := fun a ha => by have := sortL_perm a; rwa [map_swapL ha] at this
  have hx : ∀ k ∈ x, OkL k := fun k hk => hok k (by simp [hk])
  have hyo : ∀ k ∈ y, OkL k := fun k hk => hok k (by simp [hk])
  have hzo : ∀ k ∈ z, OkL k := fun k hk => hok k (by simp [hk])
  have o1 : ∀ (a b : List Lk) (u : Int), (∀ k ∈ a, OkL k) → (∀ k ∈ b, OkL k) → ∀ k ∈ dropV u a ++ dropV u b, OkL k := fun a b u ha hb k hk => by
    rcases List.mem_append.1 hk with hk | hk
    · exact ha k (mem_dropV.1 hk).1
    · exact hb k (mem_dropV.1 hk).1
  have p1 : (joinL x y v).Perm (dropV v x ++ y.filter fun k => k.2.2 != v) := sp _ (o1 x y v hx hyo)
  have p2 : (joinL x z w).Perm (dropV w x ++ z.filter fun k => k.2.2 != w) := sp _ (o1 x z w hx hzo)
  have ez : dropV v z = z := dropV_self hz
  have ey : dropV w y = y := dropV_self hy
  refine sortL_congr (List.Perm.map _ ?_)
  have q1 := (dropV_perm (v := w) p1).append_right (dropV w z)
  have q2 := (dropV_perm (v := v) p2).append_right (dropV v y)
  refine q1.trans (List.Perm.trans ?_ q2.symm)
  rw [dropV_append, dropV_append]
  change (dropV w (dropV v x) ++ dropV w (dropV v y) ++ dropV w z).Perm (dropV v (dropV w x) ++ dropV v (dropV w z) ++ dropV v y)
  rw [dropV_comm v w x, dropV_comm w v y, ey, dropV_comm v w z, ez, List.append_assoc, List.append_assoc]
  exact List.Perm.append_left _ List.perm_append_comm
theorem MStep.cross {ls : List Lk} (hl : ls.length ≤ 1000) {e f : Lk} {Q Q1 Q2 : List Pt} (h : QI ls Q) (hne : e ≠ f) (h1 : MStep e Q Q1) (h2 : MStep f Q Q2) : ∃ Q3, MStep f Q1 Q3 ∧ MStep e Q2 Q3 := by
  obtain ⟨x, y, R, a, b, c, d, k, g⟩ := h1
  obtain ⟨x', y', R', a', b', c', d', k', g'⟩ := h2
  have hjok : ∀ {p q : Pt} {v : Int} {i : Lk}, p ∈ Q → q ∈ Q → (i ∈ virtL (joinL p.2 q.2 v) ↔ (i ∈ virtL p.2 ∨ i ∈ virtL q.2) ∧ i.2.2 ≠ v) := fun {p q v i} hp hq => by
    have hok : ∀ k ∈ dropV v p.2 ++ dropV v q.2, OkL k := fun k hk => by
      rcases List.mem_append.1 hk with hk | hk
      · exact (h.right p hp).2.1 k (mem_dropV.1 hk).1
      · exact (h.right q hq).2.1 k (mem_dropV.1 hk).1
    have hpp := sortL_perm (dropV v p.2 ++ dropV v q.2)
    rw [map_swapL hok] at hpp
    rw [mem_virtL, mem_virtL, mem_virtL]
    unfold joinL
    rw [hpp.mem_iff, List.mem_append, mem_dropV, mem_dropV]
    constructor
    · rintro ⟨h1 | h1, h2⟩
      · exact ⟨.inl ⟨h1.1, h2⟩, h1.2⟩
      · exact ⟨.inr ⟨h1.1, h2⟩, h1.2⟩
    · rintro ⟨h1 | h1, h2⟩
      · exact ⟨.inl ⟨h1.1, h2⟩, h1.2⟩
      · exact ⟨.inr ⟨h1.1, h2⟩, h1.2⟩
  rcases two_steps h hne a b c a' b' c' with ⟨R1, r1, r2⟩ | ⟨p, q, r, R1, hxy, r1, hxy', r2⟩
  · refine ⟨(x.1, joinL x.2 y.2 e.2.2) :: (x'.1, joinL x'.2 y'.2 f.2.2) :: R1, ?_, ?_⟩
    · refine ⟨x', y', (x.1, joinL x.2 y.2 e.2.2) :: R1, g.trans ((r1.cons _).trans ?_), b', c', d', k', .swap ..⟩
      refine (List.Perm.swap _ _ _).trans (List.Perm.cons _ ?_)
      exact .swap ..
    · refine ⟨x, y, (x'.1, joinL x'.2 y'.2 f.2.2) :: R1, g'.trans ((r2.cons _).trans ?_), b, c, d, k, .refl _⟩
      refine (List.Perm.swap _ _ _).trans (List.Perm.cons _ ?_)
      exact .swap ..
  · -- three parts, p in the middle
    have main : ∀ {p q r : Pt} {R1 : List Pt}, Q.Perm (p :: q :: r :: R1) → e ∈ virtL p.2 → e ∈ virtL q.2 → f ∈ virtL p.2 → f ∈ virtL r.2 → p.1 = q.1 → p.1 = r.1 → p.1 ≠ 3 →
        MStep f ((p.1, joinL p.2 q.2 e.2.2) :: r :: R1) ((p.1, joinL (joinL p.2 q.2 e.2.2) r.2 f.2.2) :: R1) ∧ MStep e ((p.1, joinL p.2 r.2 f.2.2) :: q :: R1) ((p.1, joinL (joinL p.2 q.2 e.2.2) r.2 f.2.2) :: R1) := fun {p q r R1} hQ e1 e2 f1 f2 k1 k2 k3 => by
      have mp : p ∈ Q := hQ.mem_iff.2 (by simp)
      have mq : q ∈ Q := hQ.mem_iff.2 (by simp)
      have mr : r ∈ Q := hQ.mem_iff.2 (by simp)
      have hvne : f.2.2 ≠ e.2.2 := fun hv => hne (h.uniq mp f1 e (mem_virtL.1 e1).1 hv.symm)
      have hr := h.only hQ e1 e2 r (by simp)
      have hq := h.only (hQ.trans ((List.Perm.swap _ _ _).cons _)) f1 f2 q (by simp)
      have hok : ∀ k ∈ p.2 ++ q.2 ++ r.2, OkL k := fun k hk => by
        rcases List.mem_append.1 hk with hk | hk
        · rcases List.mem_append.1 hk with hk | hk
          · exact (h.right p mp).2.1 k hk
          · exact (h.right q mq).2.1 k hk
        · exact (h.right r mr).2.1 k hk
      refine ⟨⟨_, r, R1, .refl _, (hjok mp mq).2 ⟨.inl f1, hvne⟩, f2, k2, k3, .refl _⟩, ⟨_, q, R1, .refl _, (hjok mp mr).2 ⟨.inl e1, fun hv => hvne hv.symm⟩, e2, k1, k3, ?_⟩⟩
      rw [join_join hok hr hq]
    have hQ : Q.Perm (p :: q :: r :: R1) := by
      rcases hxy with ⟨rfl, rfl⟩ | ⟨rfl, rfl⟩
      · exact a.trans ((r1.cons _).cons _)
      · exact a.trans ((List.Perm.swap _ _ _).trans ((r1.cons _).cons _))
    have hep : e ∈ virtL p.2 ∧ e ∈ virtL q.2 := by rcases hxy with ⟨rfl, rfl⟩ | ⟨rfl, rfl⟩ <;> exact ⟨by assumption, by assumption⟩
    have hfp : f ∈ virtL p.2 ∧ f ∈ virtL r.2 := by rcases hxy' with ⟨rfl, rfl⟩ | ⟨rfl, rfl⟩ <;> exact ⟨by assumption, by assumption⟩
    have hk1 : p.1 = q.1 ∧ p.1 ≠ 3 := by
      rcases hxy with ⟨rfl, rfl⟩ | ⟨rfl, rfl⟩
      · exact ⟨d, k⟩
      · exact ⟨d.symm, by rw [← d]; exact k⟩
    have hk2 : p.1 = r.1 := by
      rcases hxy' with ⟨rfl, rfl⟩ | ⟨rfl, rfl⟩
      · exact d'
      · exact d'.symm
    obtain ⟨m1, m2⟩ := main hQ hep.1 hep.2 hfp.1 hfp.2 hk1.1 hk2 hk1.2
    refine ⟨_, m1.perm ?_ (.refl _), m2.perm ?_ (.refl _)⟩
    · refine List.Perm.trans ?_ g.symm
      have : (p.1, joinL p.2 q.2 e.2.2) = (x.1, joinL x.2 y.2 e.2.2) := by
        rcases hxy with ⟨rfl, rfl⟩ | ⟨rfl, rfl⟩
        · rfl
        · rw [joinL_comm, d]
      rw [this]
      exact r1.symm.cons _
    · refine List.Perm.trans ?_ g'.symm
      have : (p.1, joinL p.2 r.2 f.2.2) = (x'.1, joinL x'.2 y'.2 f.2.2) := by
        rcases hxy' with ⟨rfl, rfl⟩ | ⟨rfl, rfl⟩
        · rfl
        · rw [joinL_comm, d']
      rw [this]
      exact r2.symm.cons _
/-- in whatever order they are joined, it is the same -/
theorem MTo.one {ls : List Lk} (hl : ls.length ≤ 1000) : ∀ (n : Nat) (Q N1 N2 : List Pt), Q.length = n → QI ls Q → MTo Q N1 → MTo Q N2 → MNormal N1 → MNormal N2 → N1.Perm N2 := by
  intro n
  induction n with
  | zero =>
    intro Q N1 N2 hQ _ h1 h2 _ _
    cases h1 with
    | step s _ => have := s.len; omega
    | done p1 =>
      cases h2 with
      | step s _ => have := s.len; omega
      | done p2 => exact p1.symm.trans p2
  | succ n ih =>
    intro Q N1 N2 hQ hqi h1 h2 n1 n2
    cases h1 with
    | done p1 =>
      cases h2 with
      | done p2 => exact p1.symm.trans p2
      | step s _ => exact absurd (s.perm p1 (.refl _)) (n1 _ _)
    | step s1 t1 =>
      cases h2 with
      | done p2 => exact absurd (s1.perm p2 (.refl _)) (n2 _ _)
      | step s2 t2 =>
        rename_i Q1 e Q2 f
        have l1 := s1.len
        have l2 := s2.len
        by_cases hef : e = f
        · subst hef
          exact ih Q1 N1 N2 (by omega) (s1.qi hl hqi) t1 (t2.permL (s2.same hqi s1)) n1 n2
        · obtain ⟨Q3, s3, s4⟩ := s1.cross hl hqi hef s2
          obtain ⟨N3, t3, n3⟩ := mto_ex Q3.length Q3 rfl
          exact (ih Q1 N1 N3 (by omega) (s1.qi hl hqi) t1 (.step s3 t3) n1 n3).trans (ih Q2 N2 N3 (by omega) (s2.qi hl hqi) t2 (.step s4 t3) n2 n3).symm
end Go.Proofs.Ytagcbnpahgfgmaa
