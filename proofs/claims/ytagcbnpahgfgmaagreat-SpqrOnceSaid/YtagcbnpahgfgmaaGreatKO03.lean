/- Facts that the claim rests on, part 4. -/
import Derived.Test.YtagcbnpahgfgmaaGreatKO02
namespace Go.Proofs.YtagcbnpahgfgmaaGreat
def cmpLs : List Lk → List Lk → Int
 | [], [] => 0
 | [], _ :: _ => -1
 | _ :: _, [] => 1
 | a :: x, b :: y => if cmpL a b = 0 then cmpLs x y else cmpL a b
theorem cmpL_zero {a b : Lk} : cmpL a b = 0 ↔ a = b := by
 constructor
 ·
  intro h
  refine LtL.total a b (fun hl => ?_) (fun hl => ?_)
  · have := (cmpL_neg a b).2 hl; omega
  ·
   have := (cmpL_neg b a).2 hl; unfold cmpL orI cmpI at h this; repeat' split at h
   all_goals (repeat' split at this) <;> omega
 ·
  intro h
  subst h
  unfold cmpL orI cmpI
  simp
theorem cmpL_swap (a b : Lk) : cmpL b a = - cmpL a b := by
 have e : ∀ x y : Int, cmpI y x = - cmpI x y := fun x y => by
  unfold cmpI
  repeat' split
  all_goals omega
 unfold cmpL
 rw [e a.1 b.1, e a.2.1 b.2.1, e a.2.2 b.2.2]
 unfold orI
 repeat' split
 all_goals omega
theorem cmpLs_self (a : List Lk) : cmpLs a a = 0 := by
 induction a with
 | nil => rfl
 | cons x a ih => unfold cmpLs; rw [if_pos (cmpL_zero.2 rfl)]; exact ih
theorem cmpLs_zero : ∀ {a b : List Lk}, cmpLs a b = 0 ↔ a = b
 | [], [] => by simp [cmpLs]
 | [], _ :: _ => by simp [cmpLs]
 | _ :: _, [] => by simp [cmpLs]
 | x :: a, y :: b => by
  unfold cmpLs
  split
  ·
   rename_i h
   rw [cmpL_zero] at h
   subst h
   rw [cmpLs_zero]; simp
  ·
   rename_i h
   constructor
   · exact fun k => absurd k h
   ·
    intro k
    cases k
    exact absurd (cmpL_zero.2 rfl) h
theorem cmpLs_swap : ∀ (a b : List Lk), cmpLs b a = - cmpLs a b
 | [], [] => rfl
 | [], _ :: _ => rfl
 | _ :: _, [] => rfl
 | x :: a, y :: b => by
  unfold cmpLs
  rw [cmpL_swap x y]
  by_cases h : cmpL x y = 0
  · rw [if_pos (by omega), if_pos h]; exact cmpLs_swap a b
  · rw [if_neg (by omega), if_neg h]
theorem cmpLs_lt_trans : ∀ {a b c : List Lk}, cmpLs a b ≤ 0 → cmpLs b c ≤ 0 → cmpLs a c ≤ 0
 | [], [], c => fun _ h => h
 | [], _ :: _, [] => fun _ h => by simp [cmpLs]
 | [], _ :: _, _ :: _ => fun _ _ => by simp [cmpLs]
 | _ :: _, [], _ => fun h _ => by simp [cmpLs] at h
 | _ :: _, _ :: _, [] => fun _ h => by simp [cmpLs] at h
 | x :: a, y :: b, z :: c => by
  unfold cmpLs
  intro h k
  by_cases h1 : cmpL x y = 0
  ·
   rw [if_pos h1] at h
   rw [cmpL_zero] at h1
   subst h1
   by_cases h2 : cmpL x z = 0
   ·
    rw [if_pos h2] at k ⊢
    exact cmpLs_lt_trans h k
   ·
    rw [if_neg h2] at k ⊢
    exact k
  ·
   rw [if_neg h1] at h
   have l1 : LtL x y := (cmpL_neg x y).1 (by omega)
   by_cases h2 : cmpL y z = 0
   ·
    rw [cmpL_zero] at h2
    subst h2
    rw [if_neg h1]; exact h
   ·
    rw [if_neg h2] at k
    have l2 : LtL y z := (cmpL_neg y z).1 (by omega)
    have l3 := (cmpL_neg x z).2 (l1.trans l2)
    rw [if_neg (by omega)]
    omega
def LeP (a b : Pt) : Prop := cmpLs a.2 b.2 ≤ 0
theorem LeP.trans {a b c : Pt} (h : LeP a b) (k : LeP b c) : LeP a c := cmpLs_lt_trans h k
theorem QI.distinct {ls : List Lk} {Q : List Pt} (h : QI ls Q) : ∀ {x y : Pt} {R : List Pt}, Q.Perm (x :: y :: R) → x.2 ≠ y.2 := by
 intro x y R hp he
 have hx := h.three x (hp.mem_iff.2 (by simp))
 have hn := right_nodup (h.right x (hp.mem_iff.2 (by simp)))
 obtain ⟨D, h1, _⟩ := h.tree
 have hp2 : (Q.map fun q => q.2).Perm (x.2 :: y.2 :: R.map fun q => q.2) := by simpa using hp.map fun q => q.2
 have hrel := (relL_perm hp2).nodup_iff.1 h1.rel
 rw [relL_cons, relL_cons] at hrel
 have hv : ∀ k ∈ x.2, k ∈ virtL x.2 ∧ k ∈ virtL y.2 := fun k hk => by
  have h0 : k.2.2 ≠ 0 := fun h0 => by
   rw [List.nodup_append] at hrel; exact hrel.2.2 k (mem_realL.2 ⟨hk, h0⟩) k (by rw [List.mem_append]; exact .inl (mem_realL.2 ⟨by rw [← he]; exact hk, h0⟩)) rfl
  exact ⟨mem_virtL.2 ⟨hk, h0⟩, mem_virtL.2 ⟨by rw [← he]; exact hk, h0⟩⟩
 match hl : x.2, hx, hn with
 | [], hx, _ => simp at hx
 | [_], hx, _ => simp at hx
 | a :: b :: l, _, hn =>
  have ha := hv a (by rw [hl]; simp)
  have hb := hv b (by rw [hl]; simp)
  have := h.share hp ha.1 ha.2 hb.1 hb.2
  subst this
  simp at hn
theorem QI.sorted_one {ls : List Lk} {Q T1 T2 : List Pt} (h : QI ls Q) (h1 : Q.Perm T1) (h2 : Q.Perm T2) (s1 : T1.Pairwise LeP) (s2 : T2.Pairwise LeP) : T1 = T2 := by
 refine (h1.symm.trans h2).eq_of_pairwise (fun x y hx hy a b => ?_) s1 s2
 have he : x.2 = y.2 := by
  have := cmpLs_swap x.2 y.2
  unfold LeP at a b
  exact cmpLs_zero.1 (by omega)
 refine Classical.byContradiction fun hne => ?_
 obtain ⟨R, hR⟩ := perm_head hx
 have hy2 : y ∈ T1 := (h1.symm.trans h2).mem_iff.2 hy
 have hy3 := hR.mem_iff.1 hy2
 rcases List.mem_cons.1 hy3 with rfl | hy3
 · exact hne rfl
 ·
  obtain ⟨R', hR'⟩ := perm_head hy3
  exact h.distinct (h1.trans (hR.trans (hR'.cons x))) he
def TreeTo (K : List Lk → Int) (ls : List Lk) (T : List Pt) : Prop :=
 ∃ out n Q, SplitTo ls 1 out n ∧ MTo (out.map fun p => (K p, p)) Q ∧ MNormal Q ∧ Q.Perm T ∧ T.Pairwise LeP
theorem PiecesOk.qi {ls : List Lk} {out : List (List Lk)} {n : Int} (h : PiecesOk ls out n) (hl : ls.length ≤ 1000) (K : List Lk → Int) : QI ls (out.map fun p => (K p, p)) := by
 have e : (out.map fun p => (K p, p)).map (fun q : Pt => q.2) = out := by
  rw [List.map_map]; exact List.map_id _
 obtain ⟨D, h1, h2, h3⟩ := h.tree
 refine ⟨⟨D, by rw [e]; exact h1, fun d hd => by have := h2 d hd; have := h.hi; omega⟩, fun q hq => ?_, fun q hq => ?_, by rw [e]; exact h.rels⟩
 ·
  obtain ⟨p, hp, rfl⟩ := List.mem_map.1 hq
  exact h.right p hp
 ·
  obtain ⟨p, hp, rfl⟩ := List.mem_map.1 hq
  exact h.three p hp
theorem TreeTo.qi {K : List Lk → Int} {ls : List Lk} {T : List Pt} (h : TreeTo K ls T) (hR : RightL ls) (hv : ∀ k ∈ ls, k.2.2 = 0) (h3 : 3 ≤ ls.length) : QI ls T := by
 obtain ⟨out, n, Q, h1, h2, h4, h5, h6⟩ := h
 exact (h2.qi hR.1 ((h1.ok hR hv h3).qi hR.1 K)).perm h5
theorem TreeTo.one {K : List Lk → Int} {ls : List Lk} {T1 T2 : List Pt} (h : TreeTo K ls T1) (k : TreeTo K ls T2) (hR : RightL ls) (hv : ∀ k ∈ ls, k.2.2 = 0) (h3 : 3 ≤ ls.length) : T1 = T2 := by
 obtain ⟨out, n, Q, h1, h2, h4, h5, h6⟩ := h
 obtain ⟨out', n', Q', k1, k2, k4, k5, k6⟩ := k
 obtain ⟨rfl, rfl⟩ := h1.one k1
 have hq := (h1.ok hR hv h3).qi hR.1 K
 have hQ : Q.Perm Q' := MTo.one hR.1 _ _ _ _ rfl hq h2 k2 h4 k4
 exact (h2.qi hR.1 hq).sorted_one h5 (hQ.trans k5) h6 k6
end Go.Proofs.YtagcbnpahgfgmaaGreat
namespace Go.Proofs.YtagcbnpahgfgmaaGreat
def degN (ls : List Lk) (v : Int) : Nat := (ls.filter fun k => decide (k.1 = v ∨ k.2.1 = v)).length
def cntN (ls : List Lk) (v : Int) : Nat := (endsL ls).count v
def allTwoL (ls : List Lk) : Bool := (vertsL ls).all fun v => cntN ls v == 2
def kindL (ls : List Lk) : Int :=
 if decide (ls.length < 3) || !joinedL ls then 0
 else if (vertsL ls).length = 2 then 2
 else if allTwoL ls then 1
 else if (vertsL ls).length < 4 then 0
 else if decide ((firstC ls).2.2.2 ≠ 0) || (firstC ls).2.2.1 then 0 else 3
def kindR (ls : List Lk) : Int :=
 if !rightL ls || decide (ls.length < 3) then 0
 else if (vertsL ls).length = 2 then 2
 else if joinedL ls && (vertsL ls).all (fun v => degN ls v == 2) then 1
 else if decide ((vertsL ls).length < 4) || !twoL ls then 0
 else if (firstC ls).2.2.1 then 0 else 3
theorem joinedR {ls : List Lk} (h : joinedL ls = true) : RightL ls := by
 refine Classical.byContradiction fun hno => ?_
 unfold joinedL groupsL at h
 rw [rightL_false hno] at h
 simp at h
theorem two_joined {ls : List Lk} (h : twoL ls = true) : joinedL ls = true := by
 unfold twoL at h
 simp only [Bool.and_eq_true] at h
 exact h.1
theorem cnt_deg {ls : List Lk} (h : ∀ k ∈ ls, OkL k) (v : Int) : cntN ls v = degN ls v := by
 unfold cntN degN
 induction ls with
 | nil => rfl
 | cons k ls ih =>
  have hk := h k (by simp)
  unfold OkL at hk
  have i1 := ih fun x hx => h x (by simp [hx])
  unfold endsL at i1 ⊢
  rw [List.flatMap_cons, List.count_append, i1, List.filter_cons]
  obtain ⟨a, b, c⟩ := k
  simp only at hk ⊢
  by_cases h1 : a = v
  ·
   subst h1; have h2 : ¬ b = a := by omega
   simp [h2]; omega
  ·
   by_cases h2 : b = v
   ·
    subst h2; simp [h1]; omega
   · simp [h1, h2]
theorem all_deg {ls : List Lk} (h : RightL ls) : allTwoL ls = (vertsL ls).all (fun v => degN ls v == 2) := by
 unfold allTwoL
 refine List.all_congr rfl fun v => ?_
 rw [cnt_deg h.2.1]
theorem first_err {ls : List Lk} (h : twoL ls = true) : (firstC ls).2.2.2 = 0 := by
 unfold firstC
 rw [h]
 simp only [if_true]
 split <;> rfl
theorem first_err2 {ls : List Lk} (h : twoL ls = false) : (firstC ls).2.2.2 = 130 := by
 unfold firstC
 rw [h]; rfl
theorem kind_same (ls : List Lk) : kindR ls = kindL ls := by
 unfold kindR kindL
 cases hr : rightL ls with
 | false =>
  have : joinedL ls = false := by
   cases hj : joinedL ls with
   | false => rfl
   | true => rw [(rightL_iff ls).2 (joinedR hj)] at hr; cases hr
  rw [this]; simp
 | true =>
  have hR := (rightL_iff ls).1 hr
  by_cases h3 : ls.length < 3
  · rw [decide_eq_true h3]; simp
  rw [decide_eq_false h3]
  have hne : ls ≠ [] := fun e => by subst e; simp at h3
  by_cases h2 : (vertsL ls).length = 2
  ·
   have := two_joined (two_few hr hne (by omega)); rw [this]; simp [h2]
  simp only [Bool.not_true, Bool.or_false, if_neg h2, Bool.false_eq_true, if_false, Bool.false_or]
  cases hj : joinedL ls with
  | false =>
   have ht : twoL ls = false := by unfold twoL; rw [hj]; rfl
   rw [ht]; simp
  | true =>
   simp only [Bool.not_true, Bool.true_and, Bool.false_eq_true, if_false]; rw [← all_deg hR]; cases ha : allTwoL ls with
   | true => simp
   | false =>
    simp only [Bool.false_eq_true, if_false]; by_cases h4 : (vertsL ls).length < 4
    · rw [decide_eq_true h4]; simp [h4]
    ·
     rw [decide_eq_false h4]; simp only [Bool.false_or, if_neg h4]; cases ht : twoL ls with
     | false => rw [first_err2 ht]; simp
     | true => rw [first_err ht]; simp
end Go.Proofs.YtagcbnpahgfgmaaGreat
namespace Go.Proofs.YtagcbnpahgfgmaaGreat
theorem bits_of : ∀ (n : Nat) (P : Nat → Bool), ∃ way, way < 2 ^ n ∧ ∀ i, i < n → way.testBit i = P i := by
 intro n
 induction n with
 | zero => exact fun P => ⟨0, by simp, fun i hi => absurd hi (by omega)⟩
 | succ n ih =>
  intro P
  obtain ⟨w, hw, hb⟩ := ih fun i => P (i + 1)
  refine ⟨2 * w + (if P 0 then 1 else 0), by rw [Nat.pow_succ]; split <;> omega, fun i hi => ?_⟩
  cases i with
  | zero =>
   rw [Nat.testBit_zero]; cases P 0 with
   | true => simp
   | false => simp
  | succ i =>
   rw [Nat.testBit_succ, show (2 * w + (if P 0 then 1 else 0)) / 2 = w by split <;> omega]; exact hb i (by omega)
def pkX (ls : List Lk) (way n : Nat) : List Lk := pickL ls ((List.range n).filter fun i => way.testBit i)
def pkY (ls : List Lk) (way n : Nat) : List Lk := pickL ls ((List.range n).filter fun i => !way.testBit i)
theorem pkX_succ (ls : List Lk) (way n : Nat) (h : n < ls.length) : pkX ls way (n + 1) = pkX ls way n ++ if way.testBit n then [ls[n]] else [] := by
 unfold pkX
 rw [List.range_succ, List.filter_append, pickL_append]
 congr 1
 cases hb : way.testBit n <;> simp [hb, pickL, h]
theorem pkY_succ (ls : List Lk) (way n : Nat) (h : n < ls.length) : pkY ls way (n + 1) = pkY ls way n ++ if way.testBit n then [] else [ls[n]] := by
 unfold pkY
 rw [List.range_succ, List.filter_append, pickL_append]
 congr 1
 cases hb : way.testBit n <;> simp [hb, pickL, h]
theorem pk_len (ls : List Lk) (way : Nat) : ∀ n, n ≤ ls.length → (pkX ls way n).length + (pkY ls way n).length = n := by
 intro n
 induction n with
 | zero => intro _; simp [pkX, pkY, pickL]
 | succ n ih =>
  intro h
  rw [pkX_succ ls way n (by omega), pkY_succ ls way n (by omega), List.length_append, List.length_append]
  have := ih (by omega)
  split <;> simp <;> omega
theorem mem_pkX {ls : List Lk} {way : Nat} {e : Lk} : e ∈ pkX ls way ls.length ↔ ∃ i, ls[i]? = some e ∧ way.testBit i = true := by
 unfold pkX pickL
 rw [List.mem_filterMap]
 constructor
 ·
  rintro ⟨i, hi, he⟩
  exact ⟨i, he, by simpa using (List.mem_filter.1 hi).2⟩
 ·
  rintro ⟨i, he, hb⟩
  exact ⟨i, List.mem_filter.2 ⟨List.mem_range.2 (List.getElem?_eq_some_iff.1 he).1, by simpa using hb⟩, he⟩
theorem mem_pkY {ls : List Lk} {way : Nat} {e : Lk} : e ∈ pkY ls way ls.length ↔ ∃ i, ls[i]? = some e ∧ way.testBit i = false := by
 unfold pkY pickL
 rw [List.mem_filterMap]
 constructor
 ·
  rintro ⟨i, hi, he⟩
  exact ⟨i, he, by simpa using (List.mem_filter.1 hi).2⟩
 ·
  rintro ⟨i, he, hb⟩
  exact ⟨i, List.mem_filter.2 ⟨List.mem_range.2 (List.getElem?_eq_some_iff.1 he).1, by simp [hb]⟩, he⟩
theorem pkX_sub (ls : List Lk) (way : Nat) : (pkX ls way ls.length).Sublist ls := pick_sub
theorem pkY_sub (ls : List Lk) (way : Nat) : (pkY ls way ls.length).Sublist ls := pick_sub
def shr (v : Int) (ys : List Int) : List Int := ys.filter fun w => v == w
def sharedL (xs ys : List Int) : List Int := xs.flatMap fun v => shr v ys
theorem mem_shared {xs ys : List Int} {v : Int} : v ∈ sharedL xs ys ↔ v ∈ xs ∧ v ∈ ys := by
 unfold sharedL shr
 rw [List.mem_flatMap]
 constructor
 ·
  rintro ⟨x, hx, hv⟩
  rw [List.mem_filter, beq_iff_eq] at hv
  obtain ⟨h1, rfl⟩ := hv
  exact ⟨hx, h1⟩
 ·
  rintro ⟨h1, h2⟩
  exact ⟨v, h1, List.mem_filter.2 ⟨h2, by simp⟩⟩
def onlyAB (a b : Int) (l : List Int) : Bool := l.all fun v => v == a || v == b
def wantAt (ls : List Lk) (a b : Int) (way : Nat) : Bool :=
 decide (2 ≤ (pkX ls way ls.length).length) && decide (2 ≤ (pkY ls way ls.length).length) && onlyAB a b (sharedL (vertsL (pkX ls way ls.length)) (vertsL (pkY ls way ls.length)))
theorem wantAt_iff {ls : List Lk} {a b : Int} {way : Nat} : wantAt ls a b way = true ↔ 2 ≤ (pkX ls way ls.length).length ∧ 2 ≤ (pkY ls way ls.length).length ∧
  ∀ e ∈ pkX ls way ls.length, ∀ f ∈ pkY ls way ls.length, ∀ v, (v = e.1 ∨ v = e.2.1) → (v = f.1 ∨ v = f.2.1) → v ∈ [a, b] := by
 unfold wantAt onlyAB
 simp only [Bool.and_eq_true, decide_eq_true_eq, List.all_eq_true, Bool.or_eq_true, beq_iff_eq, and_assoc]
 refine and_congr_right fun _ => and_congr_right fun _ => ?_
 constructor
 ·
  intro h e he f hf v hve hvf
  have := h v (mem_shared.2 ⟨(mem_vertsL _ v).2 ⟨e, he, hve⟩, (mem_vertsL _ v).2 ⟨f, hf, hvf⟩⟩)
  simpa using this
 ·
  intro h v hv
  obtain ⟨h1, h2⟩ := mem_shared.1 hv
  obtain ⟨e, he, hve⟩ := (mem_vertsL _ v).1 h1
  obtain ⟨f, hf, hvf⟩ := (mem_vertsL _ v).1 h2
  simpa using h e he f hf v hve hvf
theorem len_of_mem {l m : List Lk} (hl : l.Nodup) (hm : m.Nodup) (h : ∀ e, e ∈ l ↔ e ∈ m) : l.length = m.length := ((List.perm_ext_iff_of_nodup hl hm).2 h).length_eq
theorem ways {ls : List Lk} {a b : Int} (h : twoL ls = true) : pairP ls a b = true ↔ ∃ way, way < 2 ^ ls.length ∧ wantAt ls a b way = true := by
 have hR := two_right h
 have hr := (rightL_iff ls).2 hR
 have hnd := right_nodup hR
 have hat : ∀ p, p < (groupsL ls [a, b]).length → ∃ r i, (groupsL ls [a, b])[p]? = some r ∧ (firsts (compC ls.length (bsL ls [a, b])) ls.length)[p]? = some i ∧ GrpAt ls [a, b] r i := fun p hp => by
  obtain ⟨i, hi, G⟩ := grp_at hr (List.getElem?_eq_getElem hp)
  exact ⟨_, i, List.getElem?_eq_getElem hp, hi, G⟩
 have hlen : (lensL (groupsL ls [a, b])).length = (groupsL ls [a, b]).length := by simp [lensL]
 constructor
 ·
  intro hp
  have h1 := (parts_ref _ (lens_pos hR)).1 hp
  rw [lens_sum hR] at h1
  obtain ⟨i, k, hik, hk, hs1, hs2⟩ := h1
  rw [hlen] at hk
  obtain ⟨r, i1, hr1, hf1, G1⟩ := hat i (by omega)
  obtain ⟨s, i2, hr2, hf2, G2⟩ := hat k hk
  have hsz : szN (lensL (groupsL ls [a, b])) i k = r.length + if i < k then s.length else 0 := by
   unfold szN; simp only [List.getD, lens_at hr1, lens_at hr2, Option.getD_some]
  rw [hsz] at hs1 hs2
  obtain ⟨way, hway, hbits⟩ := bits_of ls.length fun j => match ls[j]? with | some e => decide (e ∈ r) || decide (e ∈ s) | none => false
  refine ⟨way, hway, wantAt_iff.2 ?_⟩
  have hX : ∀ e, e ∈ pkX ls way ls.length ↔ e ∈ r ∨ e ∈ s := fun e => by
   rw [mem_pkX]; constructor
   ·
    rintro ⟨j, hj, hb⟩; rw [hbits j (List.getElem?_eq_some_iff.1 hj).1, hj] at hb; simpa using hb
   ·
    intro he; have hel : e ∈ ls := he.elim (fun x => G1.sub.subset x) (fun x => G2.sub.subset x); obtain ⟨j, hj⟩ := List.getElem?_of_mem hel; refine ⟨j, hj, ?_⟩; rw [hbits j (List.getElem?_eq_some_iff.1 hj).1, hj]; simpa using he
  have hXl : (pkX ls way ls.length).length = r.length + if i < k then s.length else 0 := by
   have hxn : (pkX ls way ls.length).Nodup := hnd.sublist (pkX_sub ls way); by_cases hlt : i < k
   ·
    rw [if_pos hlt, ← List.length_append]; refine len_of_mem hxn ?_ fun e => by rw [hX, List.mem_append]
    refine List.nodup_append.2 ⟨hnd.sublist G1.sub, hnd.sublist G2.sub, fun x hx y hy e => ?_⟩; subst e; obtain ⟨j, hj, hc⟩ := (G1.mem x).1 hx; exact grp_differ hf1 hf2 (by omega) (Con.trans hc (LCon.symm ((G2.con hR hj).1 hy)))
   ·
    rw [if_neg hlt, Nat.add_zero]; obtain rfl : i = k := by omega
    rw [hr1] at hr2; cases hr2; exact len_of_mem hxn (hnd.sublist G1.sub) fun e => by rw [hX, or_self]
  have hpl := pk_len ls way ls.length (Nat.le_refl _)
  refine ⟨by omega, by omega, fun e he f hf v hve hvf => ?_⟩
  refine Classical.byContradiction fun hv => ?_
  obtain ⟨j, hj, hb⟩ := mem_pkY.1 hf
  have ht : touchB [a, b] e f = true := (touchB_iff _ _ _).2 ⟨v, hv, hve, hvf⟩
  have hfr : f ∈ r ∨ f ∈ s := by
   rcases (hX e).1 he with he | he
   ·
    obtain ⟨m, hm, hc⟩ := (G1.mem e).1 he; exact .inl ((G1.mem f).2 ⟨j, hj, Con.step hc (mem_bsL.2 ⟨e, f, hm, hj, ht⟩) (List.getElem?_eq_some_iff.1 hj).1⟩)
   ·
    obtain ⟨m, hm, hc⟩ := (G2.mem e).1 he; exact .inr ((G2.mem f).2 ⟨j, hj, Con.step hc (mem_bsL.2 ⟨e, f, hm, hj, ht⟩) (List.getElem?_eq_some_iff.1 hj).1⟩)
  obtain ⟨j', hj', hb'⟩ := mem_pkX.1 ((hX f).2 hfr)
  rw [nodup_idx hnd hj hj', hb'] at hb
  cases hb
 ·
  rintro ⟨way, _, hw⟩
  obtain ⟨hx2, hy2, hsh⟩ := wantAt_iff.1 hw
  have hpl := pk_len ls way ls.length (Nat.le_refl _)
  have hside : ∀ j j', LCon ls [a, b] j j' → way.testBit j = way.testBit j' := by
   intro j j' hc; refine (Con.closed (fun t => way.testBit j = way.testBit t) (fun p q hp hq _ => ?_) rfl hc); obtain ⟨x, y, hx, hy, ht⟩ := mem_bsL.1 hq; obtain ⟨v, hv, hvx, hvy⟩ := (touchB_iff _ _ _).1 ht; rw [hp]; cases h1 : way.testBit p with
   | true =>
    cases h2 : way.testBit q with
    | true => rfl
    | false => exact absurd (hsh x (mem_pkX.2 ⟨p, hx, h1⟩) y (mem_pkY.2 ⟨q, hy, h2⟩) v hvx hvy) hv
   | false =>
    cases h2 : way.testBit q with
    | false => rfl
    | true => exact absurd (hsh y (mem_pkX.2 ⟨q, hy, h2⟩) x (mem_pkY.2 ⟨p, hx, h1⟩) v hvy hvx) hv
  obtain ⟨e, he⟩ := List.exists_mem_of_length_pos (show 0 < (pkX ls way ls.length).length by omega)
  obtain ⟨f, hf⟩ := List.exists_mem_of_length_pos (show 0 < (pkY ls way ls.length).length by omega)
  obtain ⟨je, hje, hbe⟩ := mem_pkX.1 he
  obtain ⟨jf, hjf, hbf⟩ := mem_pkY.1 hf
  obtain ⟨p, r, hp, her⟩ := grp_all (wo := [a, b]) hR hje
  obtain ⟨q, s, hq, hfs⟩ := grp_all (wo := [a, b]) hR hjf
  obtain ⟨i1, hf1, G1⟩ := grp_at hr hp
  obtain ⟨i2, hf2, G2⟩ := grp_at hr hq
  have hpq : p ≠ q := fun e2 => by
   subst e2; rw [hp] at hq; cases hq; have h1 := (G1.con hR hje).1 her; have h2 := (G1.con hR hjf).1 hfs; have := hside je jf (Con.trans (LCon.symm h1) h2); rw [hbe, hbf] at this; cases this
  have hpl1 := (List.getElem?_eq_some_iff.1 hp).1
  have hql1 := (List.getElem?_eq_some_iff.1 hq).1
  unfold pairP partsN
  rw [hlen, if_neg (by omega)]
  by_cases l2 : (groupsL ls [a, b]).length = 2
  ·
   rw [if_pos l2, beq_iff_eq]; have hX : ∀ g, g ∈ pkX ls way ls.length ↔ g ∈ r := fun g => by
    constructor
    ·
     intro hg; obtain ⟨j, hj, hb⟩ := mem_pkX.1 hg; obtain ⟨t, u, ht, hgu⟩ := grp_all (wo := [a, b]) hR hj; have htl := (List.getElem?_eq_some_iff.1 ht).1; have : t = p ∨ t = q := by omega
     rcases this with rfl | rfl
     · rw [hp] at ht; cases ht; exact hgu
     ·
      rw [hq] at ht; cases ht; have := hside j jf (Con.trans (LCon.symm ((G2.con hR hj).1 hgu)) ((G2.con hR hjf).1 hfs)); rw [hb, hbf] at this; cases this
    ·
     intro hg; obtain ⟨j, hj⟩ := List.getElem?_of_mem (G1.sub.subset hg); refine mem_pkX.2 ⟨j, hj, ?_⟩; rw [← hbe]; exact (hside je j (Con.trans (LCon.symm ((G1.con hR hje).1 her)) ((G1.con hR hj).1 hg))).symm
   have hY : ∀ g, g ∈ pkY ls way ls.length ↔ g ∈ s := fun g => by
    constructor
    ·
     intro hg; obtain ⟨j, hj, hb⟩ := mem_pkY.1 hg; obtain ⟨t, u, ht, hgu⟩ := grp_all (wo := [a, b]) hR hj; have htl := (List.getElem?_eq_some_iff.1 ht).1; have : t = p ∨ t = q := by omega
     rcases this with rfl | rfl
     ·
      rw [hp] at ht; cases ht; have := hside j je (Con.trans (LCon.symm ((G1.con hR hj).1 hgu)) ((G1.con hR hje).1 her)); rw [hb, hbe] at this; cases this
     · rw [hq] at ht; cases ht; exact hgu
    ·
     intro hg; obtain ⟨j, hj⟩ := List.getElem?_of_mem (G2.sub.subset hg); refine mem_pkY.2 ⟨j, hj, ?_⟩; rw [← hbf]; exact (hside jf j (Con.trans (LCon.symm ((G2.con hR hjf).1 hfs)) ((G2.con hR hj).1 hg))).symm
   have hXl := len_of_mem (hnd.sublist (pkX_sub ls way)) (hnd.sublist G1.sub) hX; have hYl := len_of_mem (hnd.sublist (pkY_sub ls way)) (hnd.sublist G2.sub) hY; have hL : ∀ x ∈ lensL (groupsL ls [a, b]), x ≠ 1 := fun x hx => by
    obtain ⟨m, hm⟩ := List.getElem?_of_mem hx; have hml := (List.getElem?_eq_some_iff.1 hm).1; rw [hlen] at hml; have : m = p ∨ m = q := by omega
    rcases this with rfl | rfl
    · rw [lens_at hp] at hm; cases hm; omega
    · rw [lens_at hq] at hm; cases hm; omega
   unfold onesN; rw [List.length_eq_zero_iff, List.filter_eq_nil_iff]; exact fun x hx => by simpa using hL x hx
  ·
   rw [if_neg l2]; by_cases l3 : (groupsL ls [a, b]).length = 3
   ·
    rw [if_pos l3, decide_eq_true_eq]; refine Classical.byContradiction fun hno => ?_; have hle := ones_le (lensL (groupsL ls [a, b])); have hall : ∀ x ∈ lensL (groupsL ls [a, b]), x = 1 := fun x hx => by
     obtain ⟨m, hm⟩ := List.getElem?_of_mem hx; refine Classical.byContradiction fun hx1 => ?_; have := ones_lt hm hx1; omega
    have hs := lens_sum (wo := [a, b]) hR; have hL : ∀ M : List Nat, (∀ x ∈ M, x = 1) → M.sum = M.length := fun M => by
     induction M with
     | nil => intro _; rfl
     | cons a M ih =>
      intro h; have i1 := ih fun x hx => h x (by simp [hx]); have ha := h a (by simp); simp [ha, i1]; omega
    rw [hL _ hall] at hs; omega
   · rw [if_neg l3]
end Go.Proofs.YtagcbnpahgfgmaaGreat
namespace Go.Proofs.YtagcbnpahgfgmaaGreat
theorem grp_share {ls : List Lk} {a b : Int} (hR : RightL ls) {r s : List Lk} {i j : Nat} (G : GrpAt ls [a, b] r i) (H : GrpAt ls [a, b] s j) (hn : ¬ LCon ls [a, b] i j) : ∀ v, v ∈ sharedL (vertsL r) (vertsL s) → v = a ∨ v = b := by
 intro v hv
 obtain ⟨h1, h2⟩ := mem_shared.1 hv
 obtain ⟨e, he, hve⟩ := (mem_vertsL _ v).1 h1
 obtain ⟨f, hf, hvf⟩ := (mem_vertsL _ v).1 h2
 refine Classical.byContradiction fun hno => ?_
 have ht : touchB [a, b] e f = true := (touchB_iff _ _ _).2 ⟨v, by simpa using hno, hve, hvf⟩
 rw [grp_touch hR G H hn he hf] at ht; cases ht
end Go.Proofs.YtagcbnpahgfgmaaGreat
namespace Go.Proofs.YtagcbnpahgfgmaaGreat
theorem least {P : Nat → Prop} {n : Nat} (h : P n) : ∃ m, P m ∧ m ≤ n ∧ ∀ k, k < m → ¬ P k := by
 induction n using Nat.strongRecOn with
 | _ n ih =>
  by_cases hk : ∃ k, k < n ∧ P k
  ·
   obtain ⟨k, hk, hp⟩ := hk; obtain ⟨m, h1, h2, h3⟩ := ih k hk hp; exact ⟨m, h1, by omega, h3⟩
  · exact ⟨n, h, Nat.le_refl _, fun k hkn hp => hk ⟨k, hkn, hp⟩⟩
theorem first_ex {B : Nat → Nat → Bool} {n i k : Nat} (hik : i < k) (hk : k < n) (hb : B i k = true) : ∃ i' k', FirstAt B n i' k' := by
 obtain ⟨i', ⟨k1, h1, h2, h3⟩, _, hmin⟩ := least (P := fun i => ∃ k, i < k ∧ k < n ∧ B i k = true) ⟨k, hik, hk, hb⟩
 obtain ⟨k', ⟨h4, h5, h6⟩, _, hmin2⟩ := least (P := fun k => i' < k ∧ k < n ∧ B i' k = true) ⟨h1, h2, h3⟩
 refine ⟨i', k', h4, h5, h6, fun k2 a1 a2 => ?_, fun i2 k2 a1 a2 a3 => ?_⟩
 ·
  cases h : B i' k2 with
  | false => rfl
  | true => exact absurd ⟨a1, by omega, h⟩ (hmin2 k2 a2)
 ·
  cases h : B i2 k2 with
  | false => rfl
  | true => exact absurd ⟨k2, a2, a3, h⟩ (hmin i2 a1)
noncomputable def noneP (ls : List Lk) : Bool := !(firstL ls).2.2.1 && (firstL ls).2.2.2 == 0
theorem noneP_iff {ls : List Lk} (h : twoL ls = true) : noneP ls = true ↔ ∀ i k, i < k → k < (vertsL ls).length → pairAt ls i k = false := by
 unfold noneP
 constructor
 ·
  intro hn i k hik hk
  cases hb : pairAt ls i k with
  | false => rfl
  | true =>
   obtain ⟨i', k', hf⟩ := first_ex hik hk hb; rw [first_at h hf] at hn; simp at hn
 ·
  intro hn
  rw [first_none h hn]; rfl
theorem noneP_v {ls : List Lk} (h : twoL ls = true) : noneP ls = true ↔ ∀ x y, x ∈ vertsL ls → y ∈ vertsL ls → x < y → pairP ls x y = false := by
 rw [noneP_iff h]
 have hs := vertsL_sorted ls
 constructor
 ·
  intro hn x y hx hy hxy
  obtain ⟨i, hi, rfl⟩ := List.getElem_of_mem hx
  obtain ⟨k, hk, rfl⟩ := List.getElem_of_mem hy
  have hik : i < k := by
   rcases Nat.lt_trichotomy i k with e | e | e
   · exact e
   · subst e; omega
   · have := List.pairwise_iff_getElem.1 hs k i hk hi e; omega
  have := hn i k hik hk
  unfold pairAt at this
  simpa [List.getD, hi, hk] using this
 ·
  intro hn i k hik hk
  unfold pairAt
  have hi : i < (vertsL ls).length := by omega
  have := hn _ _ (List.getElem_mem hi) (List.getElem_mem hk) (List.pairwise_iff_getElem.1 hs i k hi hk hik)
  simpa [List.getD, hi, hk] using this
theorem none_few {ls : List Lk} (h : twoL ls = true) (h3 : ls.length ≤ 3) : noneP ls = true := by
 rw [noneP_v h]
 intro x y _ _ _
 have hR := two_right h
 cases hb : pairP ls x y with
 | false => rfl
 | true =>
  obtain ⟨i, k, _, _, h1, h2⟩ := (parts_ref _ (lens_pos hR)).1 hb
  rw [lens_sum hR] at h2; omega
theorem pairP_false {ls : List Lk} {a b : Int} (h : twoL ls = true) (h3 : 3 ≤ (vertsL ls).length) : pairP ls a b = false ↔ ¬ SplitV ls a b ∧ (dirsL ls a b).length ≤ 1 := by
 have := pair_iff (a := a) (b := b) h h3
 constructor
 ·
  intro hf
  rw [hf] at this
  have hn : SplitV ls a b ∨ 2 ≤ (dirsL ls a b).length → False := fun e => by have := this.2 e; simp at this
  exact ⟨fun e => hn (.inl e), Nat.le_of_not_lt fun e => hn (.inr e)⟩
 ·
  rintro ⟨h1, h2⟩
  cases hb : pairP ls a b with
  | false => rfl
  | true =>
   rcases this.1 hb with e | e
   · exact absurd e h1
   · omega
theorem tri_sum {v0 v1 v2 : Int} (h01 : v0 ≠ v1) (h02 : v0 ≠ v2) (h12 : v1 ≠ v2) : ∀ ls : List Lk, (∀ k ∈ ls, k.1 ∈ [v0, v1, v2] ∧ k.2.1 ∈ [v0, v1, v2] ∧ k.1 ≠ k.2.1) →
  ls.length = (dirsL ls v0 v1).length + (dirsL ls v0 v2).length + (dirsL ls v1 v2).length := by
 intro ls
 induction ls with
 | nil => intro _; rfl
 | cons k ls ih =>
  intro hk
  have ih' := ih fun k hk' => hk k (by simp [hk'])
  obtain ⟨k1, k2, k3⟩ := hk k (by simp)
  have hc : ∀ a b, (dirsL (k :: ls) a b).length = (if DirL a b k then 1 else 0) + (dirsL ls a b).length := fun a b => by
   unfold dirsL; rw [List.filter_cons]; by_cases h : DirL a b k <;> simp [h]; omega
  rw [hc, hc, hc, List.length_cons]
  have hone : (if DirL v0 v1 k then 1 else 0) + (if DirL v0 v2 k then 1 else 0) + (if DirL v1 v2 k then 1 else 0) = 1 := by
   unfold DirL; simp only [List.mem_cons, List.not_mem_nil, or_false] at k1 k2 ⊢; obtain ⟨p, q, z⟩ := k; simp only at k1 k2 k3 ⊢; rcases k1 with rfl | rfl | rfl <;> rcases k2 with rfl | rfl | rfl <;> first | exact absurd rfl k3 | (simp [h01, h02, h12, h01.symm, h02.symm, h12.symm])
  omega
theorem none_three {ls : List Lk} (h : twoL ls = true) (h3 : (vertsL ls).length = 3) : noneP ls = true ↔ ls.length = 3 := by
 have hR := two_right h
 have hs := vertsL_sorted ls
 match hv : vertsL ls, h3 with
 | [v0, v1, v2], _ =>
  rw [hv] at hs
  simp at hs
  have hm := fun z => mem_vertsL ls z
  rw [hv] at hm
  have hsum := tri_sum (v0 := v0) (v1 := v1) (v2 := v2) (by omega) (by omega) (by omega) ls fun k hk => ⟨(hm _).2 ⟨k, hk, .inl rfl⟩, (hm _).2 ⟨k, hk, .inr rfl⟩, by have := (hR.2.1 k hk).2.1; omega⟩
  have hin : ∀ z, z ∈ [v0, v1, v2] → z ∈ vertsL ls := fun z hz => by rw [hv]; exact hz
  have hge : ∀ x y z, x ∈ [v0, v1, v2] → y ∈ [v0, v1, v2] → z ∈ [v0, v1, v2] → x ≠ y → x ≠ z → y ≠ z → (∀ t, t ∈ [v0, v1, v2] → t ≠ z → t ∈ [x, y]) → 1 ≤ (dirsL ls x y).length := by
   intro x y z hx hy hz hxy hxz hyz hrest; have hc := two_con1 h (by rw [hv]; simp) (hin z hz) (hin x hx) (hin y hy) hxz hyz; cases hc with
   | refl => exact absurd rfl hxy
   | step _c0 h1 h2 h3 h4 =>
    rename_i k; have e1 := hrest k.1 ((hm _).2 ⟨k, h1, .inl rfl⟩) (by simpa using h2); have e2 := hrest k.2.1 ((hm _).2 ⟨k, h1, .inr rfl⟩) (by simpa using h3); exact List.length_pos_of_mem (List.mem_filter.2 ⟨h1, by simpa [DirL] using ⟨by simpa using e1, by simpa using e2⟩⟩)
  have g01 := hge v0 v1 v2 (by simp) (by simp) (by simp) (by omega) (by omega) (by omega) (by intro t ht hn; simp at ht ⊢; omega)
  have g02 := hge v0 v2 v1 (by simp) (by simp) (by simp) (by omega) (by omega) (by omega) (by intro t ht hn; simp at ht ⊢; omega)
  have g12 := hge v1 v2 v0 (by simp) (by simp) (by simp) (by omega) (by omega) (by omega) (by intro t ht hn; simp at ht ⊢; omega)
  have hns : ∀ x y z, x ∈ [v0, v1, v2] → y ∈ [v0, v1, v2] → (∀ t, t ∈ [v0, v1, v2] → t ∉ [x, y] → t = z) → ¬ SplitV ls x y := by
   rintro x y z hx hy hrest ⟨s, t, hs', ht', hsn, htn, hc⟩; rw [hv] at hs' ht'; have e1 := hrest s hs' hsn; have e2 := hrest t ht' htn; rw [e1, e2] at hc; exact hc .refl
  have n01 := hns v0 v1 v2 (by simp) (by simp) (by intro t ht hn; simp at ht hn; omega)
  have n02 := hns v0 v2 v1 (by simp) (by simp) (by intro t ht hn; simp at ht hn; omega)
  have n12 := hns v1 v2 v0 (by simp) (by simp) (by intro t ht hn; simp at ht hn; omega)
  have h3' : 3 ≤ (vertsL ls).length := by rw [hv]; simp
  rw [noneP_v h]
  constructor
  ·
   intro hn; have d01 := ((pairP_false h h3').1 (hn v0 v1 (hin _ (by simp)) (hin _ (by simp)) (by omega))).2; have d02 := ((pairP_false h h3').1 (hn v0 v2 (hin _ (by simp)) (hin _ (by simp)) (by omega))).2; have d12 := ((pairP_false h h3').1 (hn v1 v2 (hin _ (by simp)) (hin _ (by simp)) (by omega))).2; omega
  ·
   intro hl x y hx hy hxy; rw [hv] at hx hy; rw [pairP_false h h3']; simp only [List.mem_cons, List.not_mem_nil, or_false] at hx hy; rcases hx with rfl | rfl | rfl <;> rcases hy with rfl | rfl | rfl <;> first | omega | exact ⟨by assumption, by omega⟩
def leftL (ls : List Lk) (x y : Int) : List Lk := ls.filter fun e => decide (e.1 ≠ x) && decide (e.1 ≠ y) && decide (e.2.1 ≠ x) && decide (e.2.1 ≠ y)
theorem mem_left {ls : List Lk} {x y : Int} {e : Lk} : e ∈ leftL ls x y ↔ e ∈ ls ∧ e.1 ∉ [x, y] ∧ e.2.1 ∉ [x, y] := by
 unfold leftL
 rw [List.mem_filter]
 simp [and_assoc]
def okP (ls : List Lk) (x y : Int) : Bool := ((vertsL ls).length == 4 && (leftL ls x y).length == 1) || (((vertsL (leftL ls x y)).length == (vertsL ls).length - 2) && joinedL (leftL ls x y))
theorem joined_iff {l : List Lk} (hR : RightL l) (hne : l ≠ []) : joinedL l = true ↔ ∀ u v, u ∈ vertsL l → v ∈ vertsL l → VCon l [] u v := by
 unfold joinedL
 rw [beq_iff_eq, groups_one_v ((rightL_iff l).2 hR) hne (by simp)]
 simp
theorem joined_ne {l : List Lk} (h : joinedL l = true) : l ≠ [] := fun e => by subst e; exact absurd h (by decide)
theorem len_sub2 {vs : List Int} (hn : vs.Nodup) {x y : Int} (hx : x ∈ vs) (hy : y ∈ vs) (hxy : x ≠ y) : ((vs.filter fun z => decide (z ∉ [x, y])).length + 2) = vs.length := by
 have h1 : (vs.filter fun z => decide (z ∉ [x, y])).length + (vs.filter fun z => !decide (z ∉ [x, y])).length = vs.length := by
  clear hn hx hy
  induction vs with
  | nil => rfl
  | cons v vs ih =>
   rw [List.filter_cons, List.filter_cons, List.length_cons]; by_cases h : v ∉ [x, y]
   · simp only [h, not_false_eq_true, decide_true, if_true, Bool.not_true, Bool.false_eq_true, if_false, List.length_cons]; omega
   · simp only [h, decide_false, Bool.false_eq_true, if_false, Bool.not_false, if_true, List.length_cons]; omega
 have h2 : (vs.filter fun z => !decide (z ∉ [x, y])).length = 2 := by
  have hl : (vs.filter fun z => !decide (z ∉ [x, y])).Nodup := hn.filter _
  have e1 := nodup_len_leZ (m := [x, y]) hl fun z hz => by
   have := (List.mem_filter.1 hz).2; simpa using this
  have e2 := nodup_len_leZ (l := [x, y]) (m := vs.filter fun z => !decide (z ∉ [x, y])) (by simpa using hxy) fun z hz => by
   rw [List.mem_filter]; refine ⟨?_, by simpa using hz⟩; simp at hz; rcases hz with rfl | rfl <;> assumption
  have e3 : [x, y].length = 2 := rfl
  omega
 omega
theorem ok_iff {ls : List Lk} (h : twoL ls = true) (h4 : 4 ≤ (vertsL ls).length) {x y : Int} (hx : x ∈ vertsL ls) (hy : y ∈ vertsL ls) (hxy : x ≠ y) : okP ls x y = true ↔ ¬ SplitV ls x y := by
 have hR := two_right h
 have hlR : RightL (leftL ls x y) := right_sub hR List.filter_sublist
 have hfl := len_sub2 (verts_nodup ls) hx hy hxy
 obtain ⟨F, hF⟩ : ∃ F, F = (vertsL ls).filter fun z => decide (z ∉ [x, y]) := ⟨_, rfl⟩
 rw [← hF] at hfl
 have hFn : F.Nodup := by rw [hF]; exact (verts_nodup ls).filter _
 have hFm : ∀ z, z ∈ F ↔ z ∈ vertsL ls ∧ z ∉ [x, y] := fun z => by rw [hF, List.mem_filter]; simp
 have hsub : ∀ z, z ∈ vertsL (leftL ls x y) → z ∈ F := fun z hz => by
  obtain ⟨e, he, hze⟩ := (mem_vertsL _ z).1 hz
  obtain ⟨h1, h2, h3⟩ := mem_left.1 he
  refine (hFm z).2 ⟨(mem_vertsL _ z).2 ⟨e, h1, hze⟩, ?_⟩
  rcases hze with rfl | rfl <;> assumption
 constructor
 ·
  rintro hok ⟨s, t, hs, ht, hsn, htn, hc⟩
  have hsF := (hFm s).2 ⟨hs, hsn⟩
  have htF := (hFm t).2 ⟨ht, htn⟩
  unfold okP at hok
  rw [Bool.or_eq_true, Bool.and_eq_true, Bool.and_eq_true, beq_iff_eq, beq_iff_eq, beq_iff_eq] at hok
  rcases hok with ⟨e4, e1⟩ | ⟨e1, e2⟩
  ·
   obtain ⟨e, he⟩ := List.length_eq_one_iff.1 e1; have hem : e ∈ leftL ls x y := by rw [he]; simp
   obtain ⟨h1, h2, h3⟩ := mem_left.1 hem; have hlt := (hR.2.1 e h1).2.1; have a1 := (hFm e.1).2 ⟨(mem_vertsL _ _).2 ⟨e, h1, .inl rfl⟩, h2⟩; have a2 := (hFm e.2.1).2 ⟨(mem_vertsL _ _).2 ⟨e, h1, .inr rfl⟩, h3⟩; have hall : ∀ z, z ∈ F → z = e.1 ∨ z = e.2.1 := fun z hz => by
    refine Classical.byContradiction fun hno => ?_
    have := nodup_len_leZ (l := [e.1, e.2.1, z]) (m := F) (by
     simp
     refine ⟨⟨by omega, fun e => hno (.inl e.symm)⟩, fun e => hno (.inr e.symm)⟩) fun w hw => by
      simp at hw; rcases hw with rfl | rfl | rfl <;> assumption
    simp at this; omega
   have hlk := VCon.link h1 h2 h3; rcases hall s hsF with rfl | rfl <;> rcases hall t htF with rfl | rfl
   · exact hc .refl
   · exact hc hlk
   · exact hc hlk.symm
   · exact hc .refl
  ·
   have hback : ∀ z, z ∈ F → z ∈ vertsL (leftL ls x y) := fun z hz => by
    refine Classical.byContradiction fun hno => ?_; have := nodup_len_leZ (l := z :: vertsL (leftL ls x y)) (m := F) (List.nodup_cons.2 ⟨hno, verts_nodup _⟩) fun w hw => by
     rcases List.mem_cons.1 hw with rfl | hw
     · exact hz
     · exact hsub w hw
    simp at this; omega
   have hj := (joined_iff hlR (joined_ne e2)).1 e2 s t (hback s hsF) (hback t htF); refine hc ?_; have conv : ∀ w, VCon (leftL ls x y) [] s w → VCon ls [x, y] s w := fun w hw => by
    induction hw with
    | refl => exact .refl
    | step _c0 h1 h2 h3 h4 ih =>
     obtain ⟨b1, b2, b3⟩ := mem_left.1 h1; exact ih.step b1 b2 b3 h4
   exact conv t hj
 ·
  intro hns
  have hcon : ∀ s t, s ∈ F → t ∈ F → VCon ls [x, y] s t := fun s t hs ht => Classical.byContradiction fun hc => hns ⟨s, t, ((hFm s).1 hs).1, ((hFm t).1 ht).1, ((hFm s).1 hs).2, ((hFm t).1 ht).2, hc⟩
  have hback : ∀ z, z ∈ F → z ∈ vertsL (leftL ls x y) := fun z hz => by
   have hex : ∃ w ∈ F, w ≠ z := by
    refine Classical.byContradiction fun hno => ?_; have := nodup_len_leZ (l := F) (m := [z]) hFn fun w hw => by
     simp; exact Classical.byContradiction fun e => hno ⟨w, hw, e⟩
    simp at this; omega
   obtain ⟨w, hw, hwz⟩ := hex; have := hcon w z hw hz; cases this with
   | refl => exact absurd rfl hwz
   | step _c0 h1 h2 h3 h4 =>
    rename_i k; refine (mem_vertsL _ z).2 ⟨k, mem_left.2 ⟨h1, h2, h3⟩, ?_⟩; rcases h4 with ⟨_, e⟩ | ⟨_, e⟩ <;> first | exact .inr e | exact .inl e
  have e1 : (vertsL (leftL ls x y)).length + 2 = (vertsL ls).length := by
   have a1 := nodup_len_leZ (verts_nodup (leftL ls x y)) hsub; have a2 := nodup_len_leZ hFn hback; omega
  have hne : leftL ls x y ≠ [] := fun e => by
   rw [e, show (vertsL []).length = 0 from rfl] at e1; omega
  have e2 : joinedL (leftL ls x y) = true := (joined_iff hlR hne).2 fun u v hu hv => by
   have hc := hcon u v (hsub u hu) (hsub v hv); have conv : ∀ w, VCon ls [x, y] u w → VCon (leftL ls x y) [] u w := fun w hw => by
    induction hw with
    | refl => exact .refl
    | step _c0 h1 h2 h3 h4 ih => exact ih.step (mem_left.2 ⟨h1, h2, h3⟩) (by simp) (by simp) h4
   exact conv v hc
  unfold okP
  rw [e2]
  have : (vertsL (leftL ls x y)).length = (vertsL ls).length - 2 := by omega
  simp [this]
def sameB (ls : List Lk) (i k : Nat) : Bool := match ls[i]?, ls[k]? with
 | some e, some f => e.1 == f.1 && e.2.1 == f.2.1
 | _, _ => false
def sideB (ls : List Lk) : Bool := (List.range ls.length).any fun i => (List.range i).any fun k => sameB ls i k
theorem side_iff {ls : List Lk} (h : twoL ls = true) : sideB ls = false ↔ ∀ x y, x ∈ vertsL ls → y ∈ vertsL ls → x < y → (dirsL ls x y).length ≤ 1 := by
 have hR := two_right h
 have hnd := right_nodup hR
 constructor
 ·
  intro hs x y hx hy hxy
  refine Nat.le_of_not_lt fun h2 => ?_
  obtain ⟨e, f, he, hf, hfe, hde, hdf⟩ := dirs_two h2 hnd
  obtain ⟨i, hi⟩ := List.getElem?_of_mem he
  obtain ⟨k, hk⟩ := List.getElem?_of_mem hf
  have l1 := (hR.2.1 e he).2.1
  have l2 := (hR.2.1 f hf).2.1
  unfold DirL at hde hdf
  simp only [List.mem_cons, List.not_mem_nil, or_false] at hde hdf
  have q1 : e.1 = f.1 ∧ e.2.1 = f.2.1 := by omega
  have hne : i ≠ k := fun e2 => by subst e2; rw [hi] at hk; exact hfe (Option.some.inj hk).symm
  have hil := (List.getElem?_eq_some_iff.1 hi).1
  have hkl := (List.getElem?_eq_some_iff.1 hk).1
  have hany : ∀ a b, a < ls.length → b < a → sameB ls a b = true → sideB ls = true := fun a b ha hb hab => by
   unfold sideB; exact List.any_eq_true.2 ⟨a, List.mem_range.2 ha, List.any_eq_true.2 ⟨b, List.mem_range.2 hb, hab⟩⟩
  rcases Nat.lt_or_gt_of_ne hne with hlt | hlt
  · rw [hany k i hkl hlt (by unfold sameB; rw [hi, hk]; simp [q1.1, q1.2])] at hs; cases hs
  · rw [hany i k hil hlt (by unfold sameB; rw [hi, hk]; simp [q1.1, q1.2])] at hs; cases hs
 ·
  intro hd
  cases hs : sideB ls with
  | false => rfl
  | true =>
   unfold sideB at hs; obtain ⟨i, hi, hs⟩ := List.any_eq_true.1 hs; obtain ⟨k, hk, hs⟩ := List.any_eq_true.1 hs; rw [List.mem_range] at hi hk; have hei : ls[i]? = some ls[i] := List.getElem?_eq_getElem hi; have hek : ls[k]? = some (ls[k]'(by omega)) := List.getElem?_eq_getElem (by omega); unfold sameB at hs; rw [hei, hek] at hs; simp at hs; have hm := List.getElem_mem hi; have hm2 : ls[k]'(by omega) ∈ ls := List.getElem_mem _; have l1 := (hR.2.1 _ hm).2.1; have := hd ls[i].1 ls[i].2.1 ((mem_vertsL _ _).2 ⟨_, hm, .inl rfl⟩) ((mem_vertsL _ _).2 ⟨_, hm, .inr rfl⟩) l1
   have h2 := dirs_of (a := ls[i].1) (b := ls[i].2.1) hm hm2 (fun e => by
    have := nodup_idx hnd hek (by rw [hei, e])
    omega) (by unfold DirL; simp) (by unfold DirL; rw [← hs.1, ← hs.2]; simp)
   omega
def rigidB (ls : List Lk) : Bool := decide (4 ≤ (vertsL ls).length) && !sideB ls && (vertsL ls).all fun x => (vertsL ls).all fun y => decide (y ≤ x) || okP ls x y
theorem rigid_iff {ls : List Lk} (h : twoL ls = true) (h4 : 4 ≤ (vertsL ls).length) : rigidB ls = true ↔ noneP ls = true := by
 have h3 : 3 ≤ (vertsL ls).length := by omega
 rw [noneP_v h]
 unfold rigidB
 simp only [Bool.and_eq_true, decide_eq_true_eq, Bool.not_eq_true', List.all_eq_true, Bool.or_eq_true]
 rw [side_iff h]
 constructor
 ·
  rintro ⟨⟨_, hs⟩, hr⟩ x y hx hy hxy
  rw [pairP_false h h3]
  exact ⟨(ok_iff h h4 hx hy (by omega)).1 ((hr x hx y hy).resolve_left (by omega)), hs x y hx hy hxy⟩
 ·
  intro hn
  refine ⟨⟨h4, fun x y hx hy hxy => ((pairP_false h h3).1 (hn x y hx hy hxy)).2⟩, fun x hx y hy => ?_⟩
  by_cases hxy : y ≤ x
  · exact .inl hxy
  · exact .inr ((ok_iff h h4 hx hy (by omega)).2 ((pairP_false h h3).1 (hn x y hx hy (by omega))).1)
def wantN (ls : List Lk) : Bool := decide (ls.length ≤ 2) || (((vertsL ls).length == 2) && (ls.length == 3)) || (((vertsL ls).length == 3) && (ls.length == 3)) || rigidB ls
theorem want_none {ls : List Lk} (h : twoL ls = true) : noneP ls = wantN ls := by
 rw [Bool.eq_iff_iff]
 unfold wantN
 have hv := two_verts h
 by_cases h2 : ls.length ≤ 2
 ·
  simp only [h2, decide_true, Bool.true_or, iff_true]
  exact none_few h (by omega)
 ·
  simp only [h2, decide_false, Bool.false_or]
  by_cases v2 : (vertsL ls).length = 2
  ·
   have hr : rigidB ls = false := by unfold rigidB; simp; omega
   simp only [v2, beq_self_eq_true, Bool.true_and, hr, Bool.or_false, show ((2 : Nat) == 3) = false from rfl, Bool.false_and, beq_iff_eq]; rw [noneP_iff h]; constructor
   ·
    intro hn; have := hn 0 1 (by omega) (by omega); rw [pair_small (two_right h) v2] at this; simp at this; omega
   ·
    intro hl i k hik hk; obtain rfl : k = 1 := by omega
    obtain rfl : i = 0 := by omega
    rw [pair_small (two_right h) v2]; simp; omega
  ·
   by_cases v3 : (vertsL ls).length = 3
   ·
    have hr : rigidB ls = false := by unfold rigidB; simp; omega
    simp only [v3, hr, Bool.or_false, show ((3 : Nat) == 2) = false from rfl, Bool.false_and, Bool.false_or, beq_self_eq_true, Bool.true_and, beq_iff_eq]; exact none_three h v3
   ·
    have e2 : ((vertsL ls).length == 2) = false := by simpa using v2
    have e3 : ((vertsL ls).length == 3) = false := by simpa using v3
    simp only [e2, e3, Bool.false_and, Bool.false_or]; exact (rigid_iff h (by omega)).symm
end Go.Proofs.YtagcbnpahgfgmaaGreat
namespace Go.Proofs.YtagcbnpahgfgmaaGreat
def AtL (e : Lk) (v : Int) : Prop := v = e.1 ∨ v = e.2.1
def bdL (p : List Lk) (Y : Lk → Prop) (v : Int) : Prop := (∃ e ∈ p, Y e ∧ AtL e v) ∧ ∃ f ∈ p, ¬ Y f ∧ AtL f v
def ConL (p : List Lk) : Prop := ∀ Y : Lk → Prop, (∃ e ∈ p, Y e) → (∃ f ∈ p, ¬ Y f) → ∀ a, ∃ v, v ≠ a ∧ bdL p Y v
theorem AtL.vert {p : List Lk} {e : Lk} {v : Int} (he : e ∈ p) (h : AtL e v) : v ∈ vertsL p := (mem_vertsL p v).2 ⟨e, he, h⟩
theorem vcon_bd {p : List Lk} {wo : List Int} {u w : Int} {Y : Lk → Prop} (h : VCon p wo u w) (hn : ∀ v, bdL p Y v → v ∈ wo) (hu : u ∉ wo) (hu2 : ∃ e ∈ p, Y e ∧ AtL e u) : w ∉ wo ∧ ∃ e ∈ p, Y e ∧ AtL e w := by
 induction h with
 | refl => exact ⟨hu, hu2⟩
 | @step y z k _ hk h1 h2 h3 ih =>
  obtain ⟨hy, e, he, hYe, hey⟩ := ih
  have hyk : AtL k y := by
   rcases h3 with ⟨e1, _⟩ | ⟨e1, _⟩
   · exact .inl e1
   · exact .inr e1
  have hzk : AtL k z ∧ z ∉ wo := by
   rcases h3 with ⟨_, e1⟩ | ⟨_, e1⟩
   · exact ⟨.inr e1, e1 ▸ h2⟩
   · exact ⟨.inl e1, e1 ▸ h1⟩
  have hYk : Y k := Classical.byContradiction fun hno => hy (hn y ⟨⟨e, he, hYe, hey⟩, k, hk, hno, hyk⟩)
  exact ⟨hzk.2, k, hk, hYk, hzk.1⟩
theorem con_two {p : List Lk} (h : twoL p = true) : ConL p := by
 intro Y ⟨e, he, hYe⟩ ⟨f, hf, hYf⟩ a
 refine Classical.byContradiction fun hno => ?_
 have hn : ∀ v, bdL p Y v → v = a := fun v hv => Classical.byContradiction fun hne => hno ⟨v, hne, hv⟩
 have hR := two_right h
 have ends : ∀ k ∈ p, ∃ u, u ≠ a ∧ AtL k u ∧ u ∈ vertsL p := fun k hk => by
  have ok := (hR.2.1 k hk).2.1
  by_cases h1 : k.1 = a
  ·
   have : AtL k k.2.1 := .inr rfl; exact ⟨k.2.1, by omega, this, this.vert hk⟩
  ·
   have : AtL k k.1 := .inl rfl; exact ⟨k.1, h1, this, this.vert hk⟩
 obtain ⟨u, u1, u2, u3⟩ := ends e he
 obtain ⟨w, w1, w2, w3⟩ := ends f hf
 have fin : (∃ k ∈ p, Y k ∧ AtL k w) → False := fun hw => w1 (hn w ⟨hw, f, hf, hYf, w2⟩)
 by_cases ha : a ∈ vertsL p
 ·
  by_cases h3 : 3 ≤ (vertsL p).length
  · exact fin (vcon_bd (two_con1 h h3 ha u3 w3 u1 w1) (fun v hv => by simp [hn v hv]) (by simpa using u1) ⟨e, he, hYe, u2⟩).2
  ·
   have : u = w := Classical.byContradiction fun hne => by
    have := nodup_len_leZ (l := [a, u, w]) (m := vertsL p) (by
     have := fun e : a = u => u1 e.symm; have := fun e : a = w => w1 e.symm
     simp; exact ⟨⟨by assumption, by assumption⟩, hne⟩) (fun x hx => by
     simp only [List.mem_cons, List.not_mem_nil, or_false] at hx
     rcases hx with rfl | rfl | rfl <;> assumption)
    simp only [List.length_cons, List.length_nil] at this; omega
   exact fin ⟨e, he, hYe, this ▸ u2⟩
 ·
  exact fin (vcon_bd (two_con0 h u3 w3) (fun v hv => absurd (hn v hv) fun e1 => ha (by
   obtain ⟨⟨k, hk, _, hkv⟩, _⟩ := hv
   rw [← e1]; exact hkv.vert hk)) (by simp) ⟨e, he, hYe, u2⟩).2
theorem same_end {p : List Lk} {wo : List Int} {k : Lk} (hk : k ∈ p) {x y : Int} (hx : AtL k x) (hy : AtL k y) (h1 : x ∉ wo) (h2 : y ∉ wo) : VCon p wo x y := by
 rcases hx with rfl | rfl <;> rcases hy with rfl | rfl
 · exact .refl
 · exact VCon.link hk h1 h2
 · exact (VCon.link hk h2 h1).symm
 · exact .refl
theorem con_vc {p : List Lk} (h : ConL p) {wo : List Int} {a : Int} (hwo : ∀ x ∈ wo, x = a) {u w : Int} (hu : u ∈ vertsL p) (hw : w ∈ vertsL p) (hu1 : u ∉ wo) (hw1 : w ∉ wo) : VCon p wo u w := by
 refine Classical.byContradiction fun hno => ?_
 obtain ⟨k, hk, hku⟩ := (mem_vertsL p u).1 hu
 obtain ⟨m, hm, hmw⟩ := (mem_vertsL p w).1 hw
 obtain ⟨v, hva, ⟨e, he, ⟨z, z1, z2, z3⟩, hev⟩, f, hf, hYf, hfv⟩ := h (fun k => ∃ z, AtL k z ∧ z ∉ wo ∧ VCon p wo u z) ⟨k, hk, u, hku, hu1, .refl⟩
  ⟨m, hm, fun ⟨z, z1, z2, z3⟩ => hno (z3.trans (same_end hm z1 hmw z2 hw1))⟩ a
 have hvw : v ∉ wo := fun hv => hva (hwo v hv)
 exact hYf ⟨v, hfv, hvw, z3.trans (same_end he z1 hev z2 hvw)⟩
theorem two_con {p : List Lk} (hR : RightL p) (hne : p ≠ []) (h : ConL p) : twoL p = true := by
 have hr := (rightL_iff p).2 hR
 unfold twoL joinedL
 simp only [Bool.and_eq_true, beq_iff_eq, Bool.or_eq_true, List.all_eq_true]
 refine ⟨(groups_one_v hr hne (by simp)).2 fun u v hu hv h1 h2 => con_vc h (a := 0) (by simp) hu hv h1 h2, .inr fun v _ => ?_⟩
 exact (groups_one_v hr hne (by simp)).2 fun u w hu hw h1 h2 => con_vc h (a := v) (by simp) hu hw h1 h2
abbrev Al (ls : List Lk) := {k : Lk // k ∈ ls}
def grL (ls : List Lk) : Uq.Gr (Al ls) := ⟨vertsL ls, fun k v => AtL k.1 v⟩
theorem ok_grL {ls : List Lk} (h : twoL ls = true) : Uq.Ok (grL ls) := by
 refine ⟨verts_nodup ls, fun k v hk => AtL.vert k.2 hk, fun X ⟨k, hk⟩ ⟨m, hm⟩ => ?_⟩
 have hc := con_two h (fun k => ∃ hk : k ∈ ls, X ⟨k, hk⟩) ⟨k.1, k.2, k.2, hk⟩ ⟨m.1, m.2, fun ⟨_, hx⟩ => hm hx⟩
 obtain ⟨v, _, hv⟩ := hc 0
 obtain ⟨w, hwv, hw⟩ := hc v
 have tr : ∀ v, bdL ls (fun k => ∃ hk : k ∈ ls, X ⟨k, hk⟩) v → v ∈ (grL ls).VS.filter fun v => @decide (Uq.bd (grL ls) X v) (Classical.propDecidable _) := fun v hv => by
  obtain ⟨⟨e, he, ⟨he', hX⟩, hev⟩, f, hf, hnf, hfv⟩ := hv
  rw [List.mem_filter]
  refine ⟨AtL.vert he hev, ?_⟩
  simp only [decide_eq_true_eq]
  exact ⟨⟨⟨e, he⟩, hX, hev⟩, ⟨f, hf⟩, fun hx => hnf ⟨hf, hx⟩, hfv⟩
 have := nodup_len_leZ (l := [w, v]) (by simpa using hwv) (fun x hx => by
  simp only [List.mem_cons, List.not_mem_nil, or_false] at hx
  rcases hx with rfl | rfl
  · exact tr _ hw
  · exact tr _ hv)
 simpa [Uq.lam] using this
structure DPart (ls : List Lk) (p : List Lk) (β : Lk → Al ls → Prop) : Prop where
 ne : ∀ e ∈ p, ∃ m, β e m
 cover : ∀ m, ∃ e ∈ p, β e m
 disj : ∀ e ∈ p, ∀ f ∈ p, ∀ m, β e m → β f m → e = f
 nd : p.Nodup
 three : 3 ≤ p.length
 ends : ∀ e ∈ p, ∀ v, Uq.bd (grL ls) (β e) v ↔ AtL e v
 ok : ∀ e ∈ p, e.1 ≠ e.2.1
 real : ∀ e ∈ p, e.2.2 = 0 → ∀ m, β e m ↔ m.1 = e
 big : ∀ e ∈ p, e.2.2 ≠ 0 → Uq.Big (β e)
def upB {ls : List Lk} (p : List Lk) (β : Lk → Al ls → Prop) (Y : Lk → Prop) : Al ls → Prop := fun m => ∃ e ∈ p, Y e ∧ β e m
namespace DPart
variable {ls p q : List Lk} {β γ : Lk → Al ls → Prop}
theorem perm (h : DPart ls p β) (hp : p.Perm q) : DPart ls q β :=
 ⟨fun e he => h.ne e (hp.mem_iff.2 he), fun m => by obtain ⟨e, he, hm⟩ := h.cover m; exact ⟨e, hp.mem_iff.1 he, hm⟩, fun e he f hf => h.disj e (hp.mem_iff.2 he) f (hp.mem_iff.2 hf),
  hp.nodup_iff.1 h.nd, by rw [← hp.length_eq]; exact h.three, fun e he => h.ends e (hp.mem_iff.2 he), fun e he => h.ok e (hp.mem_iff.2 he), fun e he => h.real e (hp.mem_iff.2 he), fun e he => h.big e (hp.mem_iff.2 he)⟩
theorem up_iff (h : DPart ls p β) {Y : Lk → Prop} {f : Lk} (hf : f ∈ p) {m : Al ls} (hm : β f m) : upB p β Y m ↔ Y f := by
 constructor
 ·
  rintro ⟨e, he, hY, hem⟩
  rw [← h.disj e he f hf m hem hm]; exact hY
 · exact fun hY => ⟨f, hf, hY, hm⟩
theorem up_bd (h : DPart ls p β) (Y : Lk → Prop) (v : Int) : Uq.bd (grL ls) (upB p β Y) v ↔ bdL p Y v := by
 constructor
 ·
  rintro ⟨⟨k, hk, hkv⟩, m, hm, hmv⟩
  obtain ⟨e, he, hek⟩ := h.cover k
  obtain ⟨f, hf, hfm⟩ := h.cover m
  rw [h.up_iff he hek] at hk
  rw [h.up_iff hf hfm] at hm
  have hne : e ≠ f := fun e1 => hm (e1 ▸ hk)
  refine ⟨⟨e, he, hk, (h.ends e he v).1 ⟨⟨k, hek, hkv⟩, m, fun hx => hne (h.disj e he f hf m hx hfm), hmv⟩⟩, f, hf, hm, (h.ends f hf v).1 ⟨⟨m, hfm, hmv⟩, k, fun hx => hne (h.disj e he f hf k hek hx), hkv⟩⟩
 ·
  rintro ⟨⟨e, he, hY, hev⟩, f, hf, hn, hfv⟩
  obtain ⟨⟨k, hk, hkv⟩, _⟩ := (h.ends e he v).2 hev
  obtain ⟨⟨m, hm, hmv⟩, _⟩ := (h.ends f hf v).2 hfv
  exact ⟨⟨k, (h.up_iff he hk).2 hY, hkv⟩, m, fun hx => hn ((h.up_iff hf hm).1 hx), hmv⟩
theorem con (h : DPart ls p β) (hG : Uq.Ok (grL ls)) : ConL p := by
 intro Y ⟨e, he, hY⟩ ⟨f, hf, hn⟩ a
 obtain ⟨k, hk⟩ := h.ne e he
 obtain ⟨m, hm⟩ := h.ne f hf
 obtain ⟨v, hv, hb⟩ := hG.ge (X := upB p β Y) ⟨k, (h.up_iff he hk).2 hY⟩ ⟨m, fun hx => hn ((h.up_iff hf hm).1 hx)⟩ a
 exact ⟨v, hv, (h.up_bd Y v).1 hb⟩
theorem nil (h : DPart ls p β) : p ≠ [] := fun e => by have := h.three; rw [e] at this; simp at this
theorem two (h : DPart ls p β) (hG : Uq.Ok (grL ls)) (hR : RightL p) : twoL p = true := two_con hR h.nil (h.con hG)
theorem inj (h : DPart ls p β) {e f : Lk} (he : e ∈ p) (hf : f ∈ p) (hb : ∀ m, β e m → β f m) : e = f := by
 obtain ⟨m, hm⟩ := h.ne e he
 exact h.disj e he f hf m hm (hb m hm)
theorem isPart (h : DPart ls p β) : Uq.IsPart (grL ls) (p.map β) := by
 refine ⟨fun X hX => ?_, fun m => ?_, fun X hX Y hY m h1 h2 => ?_, ?_, by simpa using h.three, fun X hX => ?_⟩
 · obtain ⟨e, he, rfl⟩ := List.mem_map.1 hX; exact h.ne e he
 · obtain ⟨e, he, hm⟩ := h.cover m; exact ⟨_, List.mem_map_of_mem he, hm⟩
 ·
  obtain ⟨e, he, rfl⟩ := List.mem_map.1 hX
  obtain ⟨f, hf, rfl⟩ := List.mem_map.1 hY
  rw [h.disj e he f hf m h1 h2]
 ·
  rw [List.Nodup, List.pairwise_map]
  exact h.nd.imp_of_mem fun {a b} ha hb hne e1 => hne (h.inj ha hb fun m hm => e1 ▸ hm)
 ·
  obtain ⟨e, he, rfl⟩ := List.mem_map.1 hX
  exact ⟨e.1, e.2.1, h.ok e he, h.ends e he⟩
theorem up_compl (h : DPart ls p β) {X Y : List Lk} (hp : p.Perm (X ++ Y)) (m : Al ls) : upB p β (· ∈ X) m ↔ ¬ upB p β (· ∈ Y) m := by
 obtain ⟨e, he, hm⟩ := h.cover m
 rw [h.up_iff he hm, h.up_iff he hm]
 have h1 := List.mem_append.1 (hp.mem_iff.1 he)
 have hn := List.nodup_append.1 (hp.nodup_iff.1 h.nd)
 exact ⟨fun hx hy => hn.2.2 e hx e hy rfl, fun hy => h1.resolve_right hy⟩
theorem half (h : DPart ls p β) (hG : Uq.Ok (grL ls)) {X Y : List Lk} (hp : p.Perm (X ++ Y)) (hX : 2 ≤ X.length) (hY : 2 ≤ Y.length) {a b n : Int} (hab : a ≠ b)
  (hsh : ∀ e ∈ X, ∀ f ∈ Y, ∀ v, AtL e v → AtL f v → v = a ∨ v = b) (hn : n ≠ 0) (hf : ∀ k ∈ p, k.2.2 ≠ n) :
  DPart ls ((a, b, n) :: X) (fun k => if k = (a, b, n) then upB p β (· ∈ Y) else β k) := by
 have mX : ∀ k ∈ X, k ∈ p := fun k hk => hp.mem_iff.2 (List.mem_append_left _ hk)
 have mY : ∀ k ∈ Y, k ∈ p := fun k hk => hp.mem_iff.2 (List.mem_append_right _ hk)
 have eX : ∀ k ∈ X, k ≠ (a, b, n) := fun k hk e => hf k (mX k hk) (by rw [e])
 have hnd := List.nodup_append.1 (hp.nodup_iff.1 h.nd)
 have xy : ∀ k ∈ X, k ∉ Y := fun k h1 h2 => hnd.2.2 k h1 k h2 rfl
 have bX : ∀ k ∈ X, (fun k => if k = (a, b, n) then upB p β (· ∈ Y) else β k) k = β k := fun k hk => if_neg (eX k hk)
 have bE : (fun k => if k = (a, b, n) then upB p β (· ∈ Y) else β k) (a, b, n) = upB p β (· ∈ Y) := if_pos rfl
 obtain ⟨y0, y1, hy0, hy1, hyy⟩ : ∃ y0 y1, y0 ∈ Y ∧ y1 ∈ Y ∧ y0 ≠ y1 := by
  match Y, hY, hnd.2.1 with
  | y0 :: y1 :: l, _, hn => exact ⟨y0, y1, by simp, by simp, fun e => by subst e; simp at hn⟩
 obtain ⟨x0, hx0⟩ : ∃ x0, x0 ∈ X := by
  match X, hX with
  | x0 :: l, _ => exact ⟨x0, by simp⟩
 generalize hB : (fun k => if k = (a, b, n) then upB p β (· ∈ Y) else β k) = B at bX bE ⊢
 have hbd : ∀ v, bdL p (· ∈ Y) v ↔ v = a ∨ v = b := by
  have h1 : ∀ v, bdL p (· ∈ Y) v → v = a ∨ v = b := fun v ⟨⟨f, _, hfY, hfv⟩, e, he, hne, hev⟩ =>
   hsh e ((List.mem_append.1 (hp.mem_iff.1 he)).resolve_right hne) f hfY v hev hfv
  have hc := h.con hG (· ∈ Y) ⟨y0, mY _ hy0, hy0⟩ ⟨x0, mX _ hx0, xy _ hx0⟩
  refine fun v => ⟨h1 v, fun hv => ?_⟩
  rcases hv with rfl | rfl
  ·
   obtain ⟨w, hw, hb⟩ := hc b; rcases h1 w hb with rfl | rfl
   · exact hb
   · exact absurd rfl hw
  ·
   obtain ⟨w, hw, hb⟩ := hc a; rcases h1 w hb with rfl | rfl
   · exact absurd rfl hw
   · exact hb
 refine ⟨fun e he => ?_, fun m => ?_, fun e he f hf' m h1 h2 => ?_, ?_, by simp only [List.length_cons]; omega, fun e he v => ?_, fun e he => ?_, fun e he h0 => ?_, fun e he h0 => ?_⟩
 ·
  rcases List.mem_cons.1 he with rfl | he
  ·
   obtain ⟨m, hm⟩ := h.ne y0 (mY _ hy0); exact ⟨m, by rw [bE]; exact ⟨y0, mY _ hy0, hy0, hm⟩⟩
  · rw [bX e he]; exact h.ne e (mX _ he)
 ·
  obtain ⟨f, hfp, hm⟩ := h.cover m
  rcases List.mem_append.1 (hp.mem_iff.1 hfp) with hx | hy
  · exact ⟨f, List.mem_cons_of_mem _ hx, by rw [bX f hx]; exact hm⟩
  · exact ⟨_, List.mem_cons_self .., by rw [bE]; exact ⟨f, hfp, hy, hm⟩⟩
 ·
  rcases List.mem_cons.1 he with rfl | he <;> rcases List.mem_cons.1 hf' with rfl | hf'
  · rfl
  ·
   rw [bE] at h1; rw [bX f hf'] at h2; exact absurd ((h.up_iff (mX f hf') h2).1 h1) (xy f hf')
  ·
   rw [bE] at h2; rw [bX e he] at h1; exact absurd ((h.up_iff (mX e he) h1).1 h2) (xy e he)
  ·
   rw [bX e he] at h1; rw [bX f hf'] at h2; exact h.disj e (mX e he) f (mX f hf') m h1 h2
 · exact List.nodup_cons.2 ⟨fun hm => eX _ hm rfl, hnd.1⟩
 ·
  rcases List.mem_cons.1 he with rfl | he
  · rw [bE, h.up_bd, hbd]; rfl
  · rw [bX e he]; exact h.ends e (mX e he) v
 ·
  rcases List.mem_cons.1 he with rfl | he
  · exact hab
  · exact h.ok e (mX e he)
 ·
  rcases List.mem_cons.1 he with rfl | he
  · exact absurd h0 hn
  · rw [bX e he]; exact h.real e (mX e he) h0
 ·
  rcases List.mem_cons.1 he with rfl | he
  ·
   rw [bE]; obtain ⟨m, hm⟩ := h.ne y0 (mY _ hy0); obtain ⟨k, hk⟩ := h.ne y1 (mY _ hy1); exact ⟨m, k, fun e => hyy (h.disj y0 (mY _ hy0) y1 (mY _ hy1) k (e ▸ hm) hk), ⟨y0, mY _ hy0, hy0, hm⟩, y1, mY _ hy1, hy1, hk⟩
  · rw [bX e he]; exact h.big e (mX e he) h0
theorem join {x y z : List Lk} (h : DPart ls x β) (k : DPart ls y γ) {e : Lk} (hex : e ∈ x) (hey : e ∈ y) (hc : ∀ m, γ e m ↔ ¬ β e m) (hz : z.Perm (x.erase e ++ y.erase e)) (hd : ∀ f ∈ x, f ∈ y → f = e) :
  DPart ls z (fun k => open Classical in if k ∈ x then β k else γ k) := by
 have bX : ∀ k ∈ x, (fun k => open Classical in if k ∈ x then β k else γ k) k = β k := fun k hk => if_pos hk
 have bY : ∀ k ∈ y, k ≠ e → (fun k => open Classical in if k ∈ x then β k else γ k) k = γ k := fun k hk hne => if_neg fun hx => hne (hd k hx hk)
 generalize (fun k => open Classical in if k ∈ x then β k else γ k) = B at bX bY ⊢
 have mz : ∀ f, f ∈ z ↔ (f ∈ x ∧ f ≠ e) ∨ (f ∈ y ∧ f ≠ e) := fun f => by
  rw [hz.mem_iff, List.mem_append, h.nd.mem_erase_iff, k.nd.mem_erase_iff]
  constructor
  ·
   rintro (⟨a, b⟩ | ⟨a, b⟩)
   · exact .inl ⟨b, a⟩
   · exact .inr ⟨b, a⟩
  ·
   rintro (⟨a, b⟩ | ⟨a, b⟩)
   · exact .inl ⟨b, a⟩
   · exact .inr ⟨b, a⟩
 have nx : ∀ f ∈ x, f ≠ e → ∀ m, β f m → ¬ β e m := fun f hf hne m h1 h2 => hne (h.disj f hf e hex m h1 h2)
 have ny : ∀ f ∈ y, f ≠ e → ∀ m, γ f m → β e m := fun f hf hne m h1 => Classical.byContradiction fun h2 => hne (k.disj f hf e hey m h1 ((hc m).2 h2))
 refine ⟨fun f hf => ?_, fun m => ?_, fun f hf g hg m h1 h2 => ?_, ?_, ?_, fun f hf v => ?_, fun f hf => ?_, fun f hf h0 => ?_, fun f hf h0 => ?_⟩
 ·
  rcases (mz f).1 hf with ⟨a, b⟩ | ⟨a, b⟩
  · rw [bX f a]; exact h.ne f a
  · rw [bY f a b]; exact k.ne f a
 ·
  by_cases hm : β e m
  ·
   obtain ⟨f, hf, hfm⟩ := k.cover m; have hne : f ≠ e := fun e1 => by rw [e1] at hfm; exact (hc m).1 hfm hm
   exact ⟨f, (mz f).2 (.inr ⟨hf, hne⟩), by rw [bY f hf hne]; exact hfm⟩
  ·
   obtain ⟨f, hf, hfm⟩ := h.cover m; have hne : f ≠ e := fun e1 => by rw [e1] at hfm; exact hm hfm
   exact ⟨f, (mz f).2 (.inl ⟨hf, hne⟩), by rw [bX f hf]; exact hfm⟩
 ·
  rcases (mz f).1 hf with ⟨a, b⟩ | ⟨a, b⟩ <;> rcases (mz g).1 hg with ⟨c, d⟩ | ⟨c, d⟩
  ·
   rw [bX f a] at h1; rw [bX g c] at h2; exact h.disj f a g c m h1 h2
  ·
   rw [bX f a] at h1; rw [bY g c d] at h2; exact absurd (ny g c d m h2) (nx f a b m h1)
  ·
   rw [bY f a b] at h1; rw [bX g c] at h2; exact absurd (ny f a b m h1) (nx g c d m h2)
  ·
   rw [bY f a b] at h1; rw [bY g c d] at h2; exact k.disj f a g c m h1 h2
 ·
  rw [hz.nodup_iff, List.nodup_append]
  refine ⟨h.nd.erase _, k.nd.erase _, fun f hf g hg e1 => ?_⟩
  subst e1
  rw [h.nd.mem_erase_iff] at hf
  rw [k.nd.mem_erase_iff] at hg
  exact hf.1 (hd f hf.2 hg.2)
 ·
  have h1 := h.three
  have h2 := k.three
  rw [hz.length_eq, List.length_append, List.length_erase_of_mem hex, List.length_erase_of_mem hey]
  omega
 ·
  rcases (mz f).1 hf with ⟨a, b⟩ | ⟨a, b⟩
  · rw [bX f a]; exact h.ends f a v
  · rw [bY f a b]; exact k.ends f a v
 ·
  rcases (mz f).1 hf with ⟨a, b⟩ | ⟨a, b⟩
  · exact h.ok f a
  · exact k.ok f a
 ·
  rcases (mz f).1 hf with ⟨a, b⟩ | ⟨a, b⟩
  · rw [bX f a]; exact h.real f a h0
  · rw [bY f a b]; exact k.real f a h0
 ·
  rcases (mz f).1 hf with ⟨a, b⟩ | ⟨a, b⟩
  · rw [bX f a]; exact h.big f a h0
  · rw [bY f a b]; exact k.big f a h0
end DPart
end Go.Proofs.YtagcbnpahgfgmaaGreat
namespace Go.Proofs.YtagcbnpahgfgmaaGreat
abbrev DT (ls : List Lk) := List Lk × (Lk → Al ls → Prop)
def NestD {ls : List Lk} (d d' : DT ls) : Prop := ∃ e ∈ d.1, ∃ f ∈ d'.1, ∀ m, d.2 e m ∨ d'.2 f m
theorem NestD.symm {ls : List Lk} {d d' : DT ls} (h : NestD d d') : NestD d' d := by
 obtain ⟨e, he, f, hf, hm⟩ := h
 exact ⟨f, hf, e, he, fun m => (hm m).symm⟩
structure Dec (ls : List Lk) (T : List (DT ls)) : Prop where
 part : ∀ d ∈ T, DPart ls d.1 d.2
 virt : ∀ d ∈ T, ∀ e ∈ d.1, e.2.2 ≠ 0 → ∃ d' ∈ T, e ∈ d'.1 ∧ ∀ m, d'.2 e m ↔ ¬ d.2 e m
 nest : T.Pairwise NestD
theorem DPart.third {ls p : List Lk} {β : Lk → Al ls → Prop} (h : DPart ls p β) (e f : Lk) : ∃ g ∈ p, g ≠ e ∧ g ≠ f ∧ ∃ m, β g m := by
 obtain ⟨g, hg, h1, h2⟩ := Uq.third h.nd h.three e f
 exact ⟨g, hg, h1, h2, h.ne g hg⟩
theorem DPart.gap {ls p : List Lk} {β : Lk → Al ls → Prop} (h : DPart ls p β) {e f : Lk} (he : e ∈ p) (hf : f ∈ p) : ∃ m, ¬ β e m ∧ ¬ β f m := by
 obtain ⟨g, hg, h1, h2, m, hm⟩ := h.third e f
 exact ⟨m, fun hx => h1 (h.disj g hg e he m hm hx), fun hx => h2 (h.disj g hg f hf m hm hx)⟩
theorem NestD.ne {ls : List Lk} {d d' : DT ls} (h : NestD d d') (hd : DPart ls d.1 d.2) (hd' : DPart ls d'.1 d'.2) {e f : Lk} (he : e ∈ d.1) (hf : f ∈ d'.1) : ¬ ∀ m, d.2 e m ↔ d'.2 f m := by
 intro hb
 obtain ⟨a, ha, c, hc, hm⟩ := h
 by_cases h1 : a = e
 ·
  subst h1
  obtain ⟨m, h2, h3⟩ := hd'.gap hf hc
  exact (hm m).elim (fun hx => h2 ((hb m).1 hx)) h3
 ·
  by_cases h2 : c = f
  ·
   subst h2; obtain ⟨m, h2, h3⟩ := hd.gap he ha; exact (hm m).elim h3 (fun hx => h2 ((hb m).2 hx))
  ·
   obtain ⟨m, hem⟩ := hd.ne e he; rcases hm m with hx | hx
   · exact h1 (hd.disj a ha e he m hx hem)
   · exact h2 (hd'.disj c hc f hf m hx ((hb m).1 hem))
namespace Dec
variable {ls : List Lk} {T T' : List (DT ls)}
theorem perm (h : Dec ls T) (hp : T.Perm T') : Dec ls T' :=
 ⟨fun d hd => h.part d (hp.mem_iff.2 hd), fun d hd e he hv => by
  obtain ⟨d', hd', h1⟩ := h.virt d (hp.mem_iff.2 hd) e he hv
  exact ⟨d', hp.mem_iff.1 hd', h1⟩, hp.pairwise h.nest fun h => h.symm⟩
theorem start (h2 : twoL ls = true) (hv : ∀ k ∈ ls, k.2.2 = 0) (h3 : 3 ≤ ls.length) : Dec ls [(ls, fun k m => m.1 = k)] := by
 have hR := two_right h2
 refine ⟨fun d hd => ?_, fun d hd e he h0 => ?_, by simp⟩
 ·
  simp only [List.mem_cons, List.not_mem_nil, or_false] at hd
  subst hd
  refine ⟨fun e he => ⟨⟨e, he⟩, rfl⟩, fun m => ⟨m.1, m.2, rfl⟩, fun e he f hf m h1 h2 => h1.symm.trans h2, right_nodup hR, h3, fun e he v => ?_, fun e he => by have := (hR.2.1 e he).2.1; omega, fun e he _ m => .rfl, fun e he h0 => absurd (hv e he) h0⟩
  constructor
  ·
   rintro ⟨⟨k, hk, hkv⟩, _⟩; have : k.1 = e := hk; exact this ▸ hkv
  ·
   intro hev; obtain ⟨f, hf, hfe⟩ : ∃ f ∈ ls, f ≠ e := by
    obtain ⟨f, hf, h1, _⟩ := Uq.third (right_nodup hR) h3 e e; exact ⟨f, hf, h1⟩
   have hc := con_two h2 (fun k => k = e) ⟨e, he, rfl⟩ ⟨f, hf, hfe⟩; have fin : ∀ w, bdL ls (fun k => k = e) w → w = v → Uq.bd (grL ls) (fun m => m.1 = e) v := fun w ⟨⟨k, hk, hke, hkw⟩, g, hg, hge, hgw⟩ hw => by
    subst hw; have : k = e := hke; subst this; exact ⟨⟨⟨k, hk⟩, rfl, hkw⟩, ⟨g, hg⟩, hge, hgw⟩
   have mem : ∀ w, bdL ls (fun k => k = e) w → AtL e w := fun w ⟨⟨k, hk, hke, hkw⟩, _⟩ => by
    have : k = e := hke; exact this ▸ hkw
   rcases hev with h1 | h1
   ·
    obtain ⟨w, hw, hb⟩ := hc e.2.1; exact fin w hb (((mem w hb).resolve_right hw).trans h1.symm)
   ·
    obtain ⟨w, hw, hb⟩ := hc e.1; exact fin w hb (((mem w hb).resolve_left hw).trans h1.symm)
 ·
  simp only [List.mem_cons, List.not_mem_nil, or_false] at hd
  subst hd
  exact absurd (hv e he) h0
theorem split (hG : Uq.Ok (grL ls)) {d : DT ls} {R : List (DT ls)} (h : Dec ls (d :: R)) {X Y : List Lk} (hp : d.1.Perm (X ++ Y)) (hX : 2 ≤ X.length) (hY : 2 ≤ Y.length) {a b n : Int} (hab : a ≠ b)
  (hsh : ∀ e ∈ X, ∀ f ∈ Y, ∀ v, AtL e v → AtL f v → v = a ∨ v = b) (hn : n ≠ 0) (hf : ∀ d' ∈ d :: R, ∀ k ∈ d'.1, k.2.2 ≠ n) :
  ∃ B1 B2, Dec ls (((a, b, n) :: X, B1) :: ((a, b, n) :: Y, B2) :: R) := by
 have hd := h.part d (List.mem_cons_self ..)
 have hfd := hf d (List.mem_cons_self ..)
 have p1 := hd.half hG hp hX hY hab hsh hn hfd
 have p2 := hd.half hG (hp.trans List.perm_append_comm) hY hX hab (fun e he f hf v h1 h2 => hsh f hf e he v h2 h1) hn hfd
 have mX : ∀ k ∈ X, k ∈ d.1 := fun k hk => hp.mem_iff.2 (List.mem_append_left _ hk)
 have mY : ∀ k ∈ Y, k ∈ d.1 := fun k hk => hp.mem_iff.2 (List.mem_append_right _ hk)
 have b1 : ∀ k ∈ d.1, (fun k => if k = (a, b, n) then upB d.1 d.2 (· ∈ Y) else d.2 k) k = d.2 k := fun k hk => if_neg fun e => hfd k hk (by rw [e])
 have b2 : ∀ k ∈ d.1, (fun k => if k = (a, b, n) then upB d.1 d.2 (· ∈ X) else d.2 k) k = d.2 k := fun k hk => if_neg fun e => hfd k hk (by rw [e])
 have e1 : (fun k => if k = (a, b, n) then upB d.1 d.2 (· ∈ Y) else d.2 k) (a, b, n) = upB d.1 d.2 (· ∈ Y) := if_pos rfl
 have e2 : (fun k => if k = (a, b, n) then upB d.1 d.2 (· ∈ X) else d.2 k) (a, b, n) = upB d.1 d.2 (· ∈ X) := if_pos rfl
 refine ⟨(fun k => if k = (a, b, n) then upB d.1 d.2 (· ∈ Y) else d.2 k), (fun k => if k = (a, b, n) then upB d.1 d.2 (· ∈ X) else d.2 k), ?_⟩
 generalize (fun k => if k = (a, b, n) then upB d.1 d.2 (· ∈ Y) else d.2 k) = B1 at p1 b1 e1 ⊢
 generalize (fun k => if k = (a, b, n) then upB d.1 d.2 (· ∈ X) else d.2 k) = B2 at p2 b2 e2 ⊢
 have hcp := hd.up_compl hp
 have hcp2 := hd.up_compl (hp.trans List.perm_append_comm)
 have old : ∀ g ∈ d.1, g.2.2 ≠ 0 → ∃ d' ∈ R, g ∈ d'.1 ∧ ∀ m, d'.2 g m ↔ ¬ d.2 g m := fun g hg h0 => by
  obtain ⟨d', hd', h1, h2⟩ := h.virt d (List.mem_cons_self ..) g hg h0
  rcases List.mem_cons.1 hd' with rfl | hd'
  ·
   obtain ⟨m, hm⟩ := hd.ne g hg; exact absurd hm ((h2 m).1 hm)
  · exact ⟨d', hd', h1, h2⟩
 have nst := List.pairwise_cons.1 h.nest
 refine ⟨fun d' hd' => ?_, fun d' hd' g hg h0 => ?_, ?_⟩
 ·
  rcases List.mem_cons.1 hd' with rfl | hd'
  · exact p1
  ·
   rcases List.mem_cons.1 hd' with rfl | hd'
   · exact p2
   · exact h.part d' (List.mem_cons_of_mem _ hd')
 ·
  rcases List.mem_cons.1 hd' with rfl | hd'
  ·
   rcases List.mem_cons.1 hg with rfl | hg
   · exact ⟨_, List.mem_cons_of_mem _ (List.mem_cons_self ..), List.mem_cons_self .., fun m => by simp only [e1, e2]; exact hcp m⟩
   ·
    obtain ⟨d', hd', h1, h2⟩ := old g (mX g hg) h0; exact ⟨d', by simp [hd'], h1, fun m => by simp only [b1 g (mX g hg)]; exact h2 m⟩
  ·
   rcases List.mem_cons.1 hd' with rfl | hd'
   ·
    rcases List.mem_cons.1 hg with rfl | hg
    · exact ⟨_, List.mem_cons_self .., List.mem_cons_self .., fun m => by simp only [e1, e2]; exact hcp2 m⟩
    ·
     obtain ⟨d', hd', h1, h2⟩ := old g (mY g hg) h0; exact ⟨d', by simp [hd'], h1, fun m => by simp only [b2 g (mY g hg)]; exact h2 m⟩
   ·
    obtain ⟨d2, hd2, h1, h2⟩ := h.virt d' (List.mem_cons_of_mem _ hd') g hg h0; rcases List.mem_cons.1 hd2 with rfl | hd2
    ·
     rcases List.mem_append.1 (hp.mem_iff.1 h1) with hx | hy
     · exact ⟨_, List.mem_cons_self .., List.mem_cons_of_mem _ hx, fun m => by simp only [b1 g h1]; exact h2 m⟩
     · exact ⟨_, List.mem_cons_of_mem _ (List.mem_cons_self ..), List.mem_cons_of_mem _ hy, fun m => by simp only [b2 g h1]; exact h2 m⟩
    · exact ⟨d2, by simp [hd2], h1, h2⟩
 ·
  refine List.pairwise_cons.2 ⟨fun d' hd' => ?_, List.pairwise_cons.2 ⟨fun d' hd' => ?_, nst.2⟩⟩
  ·
   rcases List.mem_cons.1 hd' with rfl | hd'
   ·
    refine ⟨_, List.mem_cons_self .., _, List.mem_cons_self .., fun m => ?_⟩; simp only [e1, e2]; rw [hcp m]; exact Classical.em _
   ·
    obtain ⟨g, hg, f, hf', hm⟩ := nst.1 d' hd'; rcases List.mem_append.1 (hp.mem_iff.1 hg) with hx | hy
    · exact ⟨g, List.mem_cons_of_mem _ hx, f, hf', fun m => by simp only [b1 g hg]; exact hm m⟩
    · exact ⟨_, List.mem_cons_self .., f, hf', fun m => by simp only [e1]; exact (hm m).imp (fun hx => ⟨g, hg, hy, hx⟩) id⟩
  ·
   obtain ⟨g, hg, f, hf', hm⟩ := nst.1 d' hd'; rcases List.mem_append.1 (hp.mem_iff.1 hg) with hx | hy
   · exact ⟨_, List.mem_cons_self .., f, hf', fun m => by simp only [e2]; exact (hm m).imp (fun hz => ⟨g, hg, hx, hz⟩) id⟩
   · exact ⟨g, List.mem_cons_of_mem _ hy, f, hf', fun m => by simp only [b2 g hg]; exact hm m⟩
theorem twin {x y : DT ls} {R : List (DT ls)} (h : Dec ls (x :: y :: R)) {e : Lk} (hex : e ∈ x.1) (hey : e ∈ y.1) (hv : e.2.2 ≠ 0) (ho : ∀ d ∈ R, e ∉ d.1) : ∀ m, y.2 e m ↔ ¬ x.2 e m := by
 obtain ⟨d', hd', h1, h2⟩ := h.virt x (List.mem_cons_self ..) e hex hv
 rcases List.mem_cons.1 hd' with rfl | hd'
 ·
  obtain ⟨m, hm⟩ := (h.part d' (List.mem_cons_self ..)).ne e hex
  exact absurd hm ((h2 m).1 hm)
 ·
  rcases List.mem_cons.1 hd' with rfl | hd'
  · exact h2
  · exact absurd h1 (ho d' hd')
theorem join {x y : DT ls} {R : List (DT ls)} (h : Dec ls (x :: y :: R)) {e : Lk} (hex : e ∈ x.1) (hey : e ∈ y.1) (hv : e.2.2 ≠ 0) (ho : ∀ d ∈ R, e ∉ d.1) (hd : ∀ f ∈ x.1, f ∈ y.1 → f = e)
  {z : List Lk} (hz : z.Perm (x.1.erase e ++ y.1.erase e)) : ∃ B, Dec ls ((z, B) :: R) := by
 have px := h.part x (List.mem_cons_self ..)
 have py := h.part y (by simp)
 have hc := h.twin hex hey hv ho
 have pz := px.join py hex hey hc hz hd
 have bX : ∀ k ∈ x.1, (fun k => open Classical in if k ∈ x.1 then x.2 k else y.2 k) k = x.2 k := fun k hk => if_pos hk
 have bY : ∀ k ∈ y.1, k ≠ e → (fun k => open Classical in if k ∈ x.1 then x.2 k else y.2 k) k = y.2 k := fun k hk hne => if_neg fun hx => hne (hd k hx hk)
 refine ⟨(fun k => open Classical in if k ∈ x.1 then x.2 k else y.2 k), ?_⟩
 generalize (fun k => open Classical in if k ∈ x.1 then x.2 k else y.2 k) = B at pz bX bY ⊢
 have mz : ∀ f, f ∈ z ↔ (f ∈ x.1 ∧ f ≠ e) ∨ (f ∈ y.1 ∧ f ≠ e) := fun f => by
  rw [hz.mem_iff, List.mem_append, px.nd.mem_erase_iff, py.nd.mem_erase_iff, and_comm, @and_comm (f ≠ e) (f ∈ y.1)]
 have nst := List.pairwise_cons.1 h.nest
 have nst2 := List.pairwise_cons.1 nst.2
 refine ⟨fun d' hd' => ?_, fun d' hd' g hg h0 => ?_, List.pairwise_cons.2 ⟨fun d' hd' => ?_, nst2.2⟩⟩
 ·
  rcases List.mem_cons.1 hd' with rfl | hd'
  · exact pz
  · exact h.part d' (by simp [hd'])
 ·
  rcases List.mem_cons.1 hd' with rfl | hd'
  ·
   rcases (mz g).1 hg with ⟨g1, g2⟩ | ⟨g1, g2⟩
   ·
    obtain ⟨d2, hd2, h1, h2⟩ := h.virt x (List.mem_cons_self ..) g g1 h0; rcases List.mem_cons.1 hd2 with rfl | hd2
    ·
     obtain ⟨m, hm⟩ := px.ne g g1; exact absurd hm ((h2 m).1 hm)
    ·
     rcases List.mem_cons.1 hd2 with rfl | hd2
     · exact absurd (hd g g1 h1) g2
     · exact ⟨d2, by simp [hd2], h1, fun m => by simp only [bX g g1]; exact h2 m⟩
   ·
    obtain ⟨d2, hd2, h1, h2⟩ := h.virt y (by simp) g g1 h0; rcases List.mem_cons.1 hd2 with rfl | hd2
    · exact absurd (hd g h1 g1) g2
    ·
     rcases List.mem_cons.1 hd2 with rfl | hd2
     ·
      obtain ⟨m, hm⟩ := py.ne g g1; exact absurd hm ((h2 m).1 hm)
     · exact ⟨d2, by simp [hd2], h1, fun m => by simp only [bY g g1 g2]; exact h2 m⟩
  ·
   obtain ⟨d2, hd2, h1, h2⟩ := h.virt d' (by simp [hd']) g hg h0; have hge : g ≠ e := fun e1 => ho d' hd' (e1 ▸ hg); rcases List.mem_cons.1 hd2 with rfl | hd2
   · exact ⟨_, List.mem_cons_self .., (mz g).2 (.inl ⟨h1, hge⟩), fun m => by simp only [bX g h1]; exact h2 m⟩
   ·
    rcases List.mem_cons.1 hd2 with rfl | hd2
    · exact ⟨_, List.mem_cons_self .., (mz g).2 (.inr ⟨h1, hge⟩), fun m => by simp only [bY g h1 hge]; exact h2 m⟩
    · exact ⟨d2, by simp [hd2], h1, h2⟩
 ·
  obtain ⟨a, ha, f, hf, hm⟩ := nst.1 d' (by simp [hd'])
  obtain ⟨c, hc', f', hf', hm'⟩ := nst2.1 d' hd'
  by_cases h1 : a = e
  ·
   by_cases h2 : c = e
   ·
    subst h1; subst h2; obtain ⟨m, m1, m2⟩ := (h.part d' (by simp [hd'])).gap hf hf'; have a1 := (hm m).resolve_right m1; have a2 := (hm' m).resolve_right m2; exact absurd a1 ((hc m).1 a2)
   · exact ⟨c, (mz c).2 (.inr ⟨hc', h2⟩), f', hf', fun m => by simp only [bY c hc' h2]; exact hm' m⟩
  · exact ⟨a, (mz a).2 (.inl ⟨ha, h1⟩), f, hf, fun m => by simp only [bX a ha]; exact hm m⟩
end Dec
end Go.Proofs.YtagcbnpahgfgmaaGreat
namespace Go.Proofs.YtagcbnpahgfgmaaGreat
theorem sides_apart {ls : List Lk} {a b num : Int} (hR : RightL ls) (ha : 0 ≤ a) (hab : a < b) (hb : b < 1048576) (hn : 0 < num ∧ num ≤ 1048576) {X Y : List Lk}
  (h1 : (sidesL ls a b num).1.Perm ((a, b, num) :: X)) (h2 : (sidesL ls a b num).2.Perm ((a, b, num) :: Y)) : ∀ e ∈ X, ∀ f ∈ Y, ∀ v, AtL e v → AtL f v → v = a ∨ v = b := by
 have hr := (rightL_iff ls).2 hR
 have hok : OkL (a, b, num) := by unfold OkL; simp only; omega
 unfold sidesL at h1 h2
 simp only at h1 h2
 obtain ⟨G, hG⟩ : ∃ G, G = groupsL ls [a, b] := ⟨_, rfl⟩
 obtain ⟨f0, hf0⟩ : ∃ f0, f0 = (fromTo ls.length G).1 := ⟨_, rfl⟩
 obtain ⟨t0, ht0⟩ : ∃ t0, t0 = (fromTo ls.length G).2 := ⟨_, rfl⟩
 rw [← hG, ← hf0, ← ht0] at h1 h2
 have okI : ∀ k ∈ (a, b, num) :: inS f0 t0 G G.length, OkL k := fun k hk => by
  rcases List.mem_cons.1 hk with rfl | hk
  · exact hok
  ·
   obtain ⟨r, hr', hk⟩ := mem_inS hk; exact hR.2.1 k (mem_groups (by rw [← hG]; exact hr') hk)
 have okO : ∀ k ∈ (a, b, num) :: outS f0 t0 G G.length, OkL k := fun k hk => by
  rcases List.mem_cons.1 hk with rfl | hk
  · exact hok
  ·
   obtain ⟨r, hr', hk⟩ := mem_outS hk; exact hR.2.1 k (mem_groups (by rw [← hG]; exact hr') hk)
 have pX : X.Perm (inS f0 t0 G G.length) := by
  have := sortL_perm ((a, b, num) :: inS f0 t0 G G.length)
  rw [map_swapL okI] at this
  exact (h1.symm.trans this).cons_inv
 have pY : Y.Perm (outS f0 t0 G G.length) := by
  have := sortL_perm ((a, b, num) :: outS f0 t0 G G.length)
  rw [map_swapL okO] at this
  exact (h2.symm.trans this).cons_inv
 have at_ : ∀ {j : Nat} {e : Lk}, e ∈ G.getD j [] → ∃ r, (groupsL ls [a, b])[j]? = some r ∧ e ∈ r := fun {j e} he => by
  by_cases hj : j < G.length
  ·
   simp only [List.getD, List.getElem?_eq_getElem hj, Option.getD_some] at he; exact ⟨_, by rw [← hG]; exact List.getElem?_eq_getElem hj, he⟩
  · simp [List.getD, List.getElem?_eq_none (Nat.le_of_not_lt hj)] at he
 intro e he f hf v hev hfv
 have he2 := pX.mem_iff.1 he
 have hf2 := pY.mem_iff.1 hf
 unfold inS at he2
 unfold outS at hf2
 obtain ⟨i, _, hei⟩ := List.mem_flatMap.1 he2
 obtain ⟨j, _, hfj⟩ := List.mem_flatMap.1 hf2
 split at hei
 ·
  rename_i hi
  split at hfj
  · simp at hfj
  ·
   rename_i hj; have hij : i ≠ j := fun e => hj (e ▸ hi); obtain ⟨r, hr1, her⟩ := at_ hei; obtain ⟨s, hs1, hfs⟩ := at_ hfj; obtain ⟨x, hx, GX⟩ := grp_at hr hr1; obtain ⟨y, hy, GY⟩ := grp_at hr hs1; exact grp_share hR GX GY (grp_differ hx hy hij) v (mem_shared.2 ⟨AtL.vert her hev, AtL.vert hfs hfv⟩)
 · simp at hei
theorem map_pick {ls : List Lk} {T : List (DT ls)} {x : List Lk} {S : List (List Lk)} (h : (T.map fun d => d.1).Perm (x :: S)) : ∃ d R, T.Perm (d :: R) ∧ d.1 = x ∧ (R.map fun d => d.1).Perm S := by
 obtain ⟨d, hd, e⟩ := List.mem_map.1 (h.mem_iff.2 (List.mem_cons_self ..))
 obtain ⟨s, t, rfl⟩ := List.append_of_mem hd
 have hp : (s ++ d :: t).Perm (d :: (s ++ t)) := List.perm_middle
 refine ⟨d, s ++ t, hp, e, ?_⟩
 have := (hp.map fun d => d.1).symm.trans h
 rw [List.map_cons, e] at this
 exact this.cons_inv
theorem Dec.repl {ls : List Lk} {p q : List Lk} {B : Lk → Al ls → Prop} {R : List (DT ls)} (h : Dec ls ((p, B) :: R)) (hp : p.Perm q) : Dec ls ((q, B) :: R) := by
 have nst := List.pairwise_cons.1 h.nest
 refine ⟨fun d hd => ?_, fun d hd e he hv => ?_, List.pairwise_cons.2 ⟨fun d hd => ?_, nst.2⟩⟩
 ·
  rcases List.mem_cons.1 hd with rfl | hd
  · exact (h.part (p, B) (List.mem_cons_self ..)).perm hp
  · exact h.part d (List.mem_cons_of_mem _ hd)
 ·
  have key : ∃ d' ∈ (p, B) :: R, e ∈ d'.1 ∧ ∀ m, d'.2 e m ↔ ¬ d.2 e m := by
   rcases List.mem_cons.1 hd with rfl | hd
   · exact h.virt (p, B) (List.mem_cons_self ..) e (hp.mem_iff.2 he) hv
   · exact h.virt d (List.mem_cons_of_mem _ hd) e he hv
  obtain ⟨d', hd', h1, h2⟩ := key
  rcases List.mem_cons.1 hd' with rfl | hd'
  · exact ⟨(q, B), List.mem_cons_self .., hp.mem_iff.1 h1, h2⟩
  · exact ⟨d', List.mem_cons_of_mem _ hd', h1, h2⟩
 ·
  obtain ⟨e, he, f, hf, hm⟩ := nst.1 d hd
  exact ⟨e, hp.mem_iff.1 he, f, hf, hm⟩
structure SpD (ls : List Lk) (s : SpS) : Prop where
 dec : ∃ T : List (DT ls), Dec ls T ∧ (T.map fun d => d.1).Perm (s.todo ++ s.out)
 fin : ∀ t ∈ s.out, (firstC t).2.2.1 = false
theorem SpD.step {ls : List Lk} (hG : Uq.Ok (grL ls)) {s : SpS} (hl : ls.length ≤ 1000) (hi : SpI ls s) (h : SpD ls s) : SpD ls s.step := by
 unfold SpS.step
 cases ht : s.todo.getLast? with
 | none => exact h
 | some top =>
  have hsp := getLast_split ht
  have hp1 : (s.todo ++ s.out).Perm (top :: (s.todo.dropLast ++ s.out)) := by
   conv => lhs; rw [hsp]
   rw [List.append_assoc]; exact List.perm_middle
  have htop := hi.right top (hp1.mem_iff.2 (by simp))
  have hhi := hi.hi
  obtain ⟨D, hD, hDv, hDl⟩ := hi.tree
  obtain ⟨T, hT, hTp⟩ := h.dec
  simp only
  cases hc : (firstC top).2.2.1 with
  | false =>
   simp only [Bool.false_eq_true, if_false]; refine ⟨⟨T, hT, hTp.trans (hp1.trans ?_)⟩, fun t ht => ?_⟩
   ·
    rw [← List.append_assoc]; exact (List.perm_append_singleton top _).symm
   ·
    rcases List.mem_append.1 ht with ht | ht
    · exact h.fin t ht
    · simp at ht; subst ht; exact hc
  | true =>
   simp only [if_true]; have hfc : firstC top = ((firstC top).1, (firstC top).2.1, true, (firstC top).2.2.2) := by rw [← hc]
   obtain ⟨p, hpe⟩ : ∃ p, p = (firstC top).1 := ⟨_, rfl⟩
   obtain ⟨q, hqe⟩ : ∃ q, q = (firstC top).2.1 := ⟨_, rfl⟩
   rw [← hpe, ← hqe] at hfc ⊢; obtain ⟨t2, hpm, hqm, hpq, hpr, _⟩ := firstC_true hfc; obtain ⟨l1, l2, l3⟩ := sides_len (num := s.next) t2 hpr; have hpo : 0 ≤ p := by
    obtain ⟨x, hx, e⟩ := (mem_vertsL top p).1 hpm; have := htop.2.1 x hx; unfold OkL at this; rcases e with rfl | rfl <;> omega
   have hqo : q < 1048576 := by
    obtain ⟨x, hx, e⟩ := (mem_vertsL top q).1 hqm; have := htop.2.1 x hx; unfold OkL at this; rcases e with rfl | rfl <;> omega
   have hnx : 0 < s.next ∧ s.next ≤ 1048576 := by omega
   obtain ⟨X, Y, hXY, hS1, hS2⟩ := sides_perm (num := s.next) htop hpo hpq hqo hnx; have hsh := sides_apart htop hpo hpq hqo hnx hS1 hS2; obtain ⟨S1, hS1e⟩ : ∃ S1, S1 = (sidesL top p q s.next).1 := ⟨_, rfl⟩
   obtain ⟨S2, hS2e⟩ : ∃ S2, S2 = (sidesL top p q s.next).2 := ⟨_, rfl⟩
   rw [← hS1e] at hS1 l1 ⊢; rw [← hS2e] at hS2 l2 ⊢; obtain ⟨d, R, hTd, hde, hR⟩ := map_pick (hTp.trans hp1); have hsame : ((d :: R).map fun d => d.1).Perm (s.todo ++ s.out) := (hTd.map fun d => d.1).symm.trans hTp; have hfr : ∀ d' ∈ d :: R, ∀ k ∈ d'.1, k.2.2 ≠ s.next := fun d' hd' k hk e => by
    have hm : d'.1 ∈ s.todo ++ s.out := hsame.mem_iff.1 (List.mem_map_of_mem hd'); have hk2 := hDv k (hD.memD.2 (mem_occL.2 ⟨_, hm, hk, by omega⟩)); omega
   have hx2 := hS1.length_eq; have hy2 := hS2.length_eq; simp only [List.length_cons] at hx2 hy2; obtain ⟨B1, B2, hD2⟩ := Dec.split hG (hT.perm hTd) (hde ▸ hXY) (by omega) (by omega) (by omega : p ≠ q) hsh (by omega : s.next ≠ 0) hfr; have hD3 := (hD2.repl hS1.symm).perm (List.Perm.swap ..); have hD4 := hD3.repl hS2.symm; refine ⟨⟨_, hD4, ?_⟩, h.fin⟩; rw [List.map_cons, List.map_cons]; simp only; refine (((hR.cons S1).cons S2)).trans ?_; rw [List.append_assoc]; refine List.Perm.trans ?_ List.perm_append_comm; rw [List.append_assoc]; simp only [List.cons_append, List.nil_append]; exact ((List.perm_append_comm).cons _).cons _
theorem SpD.steps {ls : List Lk} (hG : Uq.Ok (grL ls)) (hl : ls.length ≤ 1000) : ∀ (k : Nat) (s : SpS), SpI ls s → SpD ls s → SpD ls (SpS.steps k s) := by
 intro k
 induction k with
 | zero => intro s _ h; exact h
 | succ k ih => intro s hi h; rw [SpS.steps]; exact ih _ (hi.step hl) (h.step hG hl hi)
theorem SplitTo.dec {ls : List Lk} {out : List (List Lk)} {n : Int} (h : SplitTo ls 1 out n) (h2 : twoL ls = true) (hv : ∀ k ∈ ls, k.2.2 = 0) (h3 : 3 ≤ ls.length) :
  ∃ T : List (DT ls), Dec ls T ∧ (T.map fun d => d.1).Perm out ∧ ∀ t ∈ out, (firstC t).2.2.1 = false := by
 have hR := two_right h2
 obtain ⟨k, hk⟩ := h
 have := SpD.steps (ok_grL h2) hR.1 k _ (SpI.start hR hv h3) ⟨⟨_, Dec.start h2 hv h3, by simp⟩, by simp⟩
 rw [hk] at this
 obtain ⟨T, hT, hp⟩ := this.dec
 exact ⟨T, hT, by simpa using hp, this.fin⟩
end Go.Proofs.YtagcbnpahgfgmaaGreat
namespace Go.Proofs.YtagcbnpahgfgmaaGreat
def BondL (p : List Lk) : Prop := ∃ a b, ∀ e ∈ p, ∀ v, AtL e v ↔ v = a ∨ v = b
def CycL (p : List Lk) : Prop := ∀ v, ∀ e ∈ p, ∀ f ∈ p, ∀ g ∈ p, AtL e v → AtL f v → AtL g v → e = f ∨ f = g ∨ e = g
theorem count_two : ∀ {vs l : List Int}, vs.Nodup → (∀ v ∈ vs, 2 ≤ l.count v) → 2 * vs.length ≤ l.length
 | [], _, _, _ => by simp
 | v :: vs, l, hn, h => by
  have hn' := List.nodup_cons.1 hn
  have h1 := count_two (vs := vs) (l := l.filter fun x => x != v) hn'.2 fun w hw => by
   have hne : w ≠ v := fun e => hn'.1 (e ▸ hw)
   rw [List.count_filter (by simpa using hne)]
   exact h w (by simp [hw])
  have h2 := h v (by simp)
  have h3 : (l.filter fun x => x != v).length + l.count v = l.length := by
   clear h h1 h2; induction l with
   | nil => rfl
   | cons a l ih =>
    by_cases e : a = v
    · subst e; simp; omega
    · simp [e]; omega
  simp only [List.length_cons]
  omega
theorem ends_len (p : List Lk) : (endsL p).length = 2 * p.length := by
 unfold endsL
 induction p with
 | nil => rfl
 | cons k p ih => rw [List.flatMap_cons, List.length_append, ih]; simp; omega
theorem three_of {α : Type} {l : List α} (h : 3 ≤ l.length) (hn : l.Nodup) : ∃ a b c, a ∈ l ∧ b ∈ l ∧ c ∈ l ∧ a ≠ b ∧ b ≠ c ∧ a ≠ c := by
 match l, h, hn with
 | a :: b :: c :: l, _, hn =>
  simp only [List.nodup_cons, List.mem_cons, not_or] at hn
  exact ⟨a, b, c, by simp, by simp, by simp, hn.1.1, hn.2.1.1, hn.1.2.1⟩
theorem AtL.dec (e : Lk) (v : Int) : (e.1 = v ∨ e.2.1 = v) ↔ AtL e v := by
 unfold AtL
 exact ⟨fun h => h.imp Eq.symm Eq.symm, fun h => h.imp Eq.symm Eq.symm⟩
namespace DPart
variable {ls p : List Lk} {β : Lk → Al ls → Prop}
theorem other (h : DPart ls p β) {e : Lk} (he : e ∈ p) {v : Int} (hv : AtL e v) : ∃ f ∈ p, f ≠ e ∧ AtL f v := by
 obtain ⟨⟨k, hk, hkv⟩, m, hm, hmv⟩ := (h.ends e he v).2 hv
 obtain ⟨f, hf, hfm⟩ := h.cover m
 have hne : f ≠ e := fun e1 => hm (e1 ▸ hfm)
 exact ⟨f, hf, hne, (h.ends f hf v).1 ⟨⟨m, hfm, hmv⟩, k, fun hx => hne (h.disj f hf e he k hx hk), hkv⟩⟩
theorem bond_iff (h : DPart ls p β) : (vertsL p).length = 2 ↔ BondL p := by
 constructor
 ·
  intro h2
  match hv : vertsL p, h2 with
  | [a, b], _ =>
   refine ⟨a, b, fun e he v => ⟨fun hev => ?_, fun hab => ?_⟩⟩
   ·
    have := AtL.vert he hev; rw [hv] at this; simpa using this
   ·
    have m1 := AtL.vert he (show AtL e e.1 from .inl rfl); have m2 := AtL.vert he (show AtL e e.2.1 from .inr rfl); have := h.ok e he; rw [hv] at m1 m2; simp only [List.mem_cons, List.not_mem_nil, or_false] at m1 m2; unfold AtL; omega
 ·
  rintro ⟨a, b, hab⟩
  obtain ⟨e, he⟩ := List.exists_mem_of_ne_nil _ h.nil
  have hn : a ≠ b := fun e1 => h.ok e he (by
   have a1 := (hab e he e.1).1 (.inl rfl); have a2 := (hab e he e.2.1).1 (.inr rfl)
   omega)
  have l1 := nodup_len_leZ (l := [a, b]) (m := vertsL p) (by simpa using hn) fun x hx => by
   simp only [List.mem_cons, List.not_mem_nil, or_false] at hx; exact AtL.vert he ((hab e he x).2 hx)
  have l2 := nodup_len_leZ (l := vertsL p) (m := [a, b]) (verts_nodup p) fun x hx => by
   obtain ⟨f, hf, hfx⟩ := (mem_vertsL p x).1 hx; have := (hab f hf x).1 hfx; simpa using this
  simp only [List.length_cons, List.length_nil] at l1 l2
  omega
theorem deg_two (h : DPart ls p β) {v : Int} (hv : v ∈ vertsL p) : 2 ≤ degN p v := by
 obtain ⟨e, he, hev⟩ := (mem_vertsL p v).1 hv
 obtain ⟨f, hf, hne, hfv⟩ := h.other he hev
 unfold degN
 exact two_in (e := e) (f := f) (List.mem_filter.2 ⟨he, by simpa using (AtL.dec e v).2 hev⟩) (List.mem_filter.2 ⟨hf, by simpa using (AtL.dec f v).2 hfv⟩) hne
theorem cyc_iff (h : DPart ls p β) (hR : RightL p) : allTwoL p = true ↔ CycL p := by
 rw [all_deg hR]
 simp only [List.all_eq_true, beq_iff_eq]
 constructor
 ·
  intro hd v e he f hf g hg h1 h2 h3
  refine Classical.byContradiction fun hno => ?_
  have hv := hd v (AtL.vert he h1)
  unfold degN at hv
  have hs : ∀ k ∈ p, AtL k v → k ∈ p.filter fun k => decide (k.1 = v ∨ k.2.1 = v) := fun k hk hkv => List.mem_filter.2 ⟨hk, by simpa using (AtL.dec k v).2 hkv⟩
  have a1 := hs e he h1
  have a2 := hs f hf h2
  have a3 := hs g hg h3
  obtain ⟨x, y, hl⟩ : ∃ x y, (p.filter fun k => decide (k.1 = v ∨ k.2.1 = v)) = [x, y] := by
   generalize (p.filter fun k => decide (k.1 = v ∨ k.2.1 = v)) = l at hv; match l, hv with
   | [x, y], _ => exact ⟨x, y, rfl⟩
  rw [hl] at a1 a2 a3
  simp only [List.mem_cons, List.not_mem_nil, or_false] at a1 a2 a3
  apply hno
  rcases a1 with rfl | rfl <;> rcases a2 with rfl | rfl <;> rcases a3 with rfl | rfl <;> simp
 ·
  intro hc v hv
  have h2 := h.deg_two hv
  refine Nat.le_antisymm (Nat.le_of_not_lt fun h3 => ?_) h2
  unfold degN at h3
  obtain ⟨a, b, c, ha, hb, hcc, n1, n2, n3⟩ := three_of h3 (h.nd.filter _)
  rw [List.mem_filter] at ha hb hcc
  rcases hc v a ha.1 b hb.1 c hcc.1 ((AtL.dec a v).1 (by simpa using ha.2)) ((AtL.dec b v).1 (by simpa using hb.2)) ((AtL.dec c v).1 (by simpa using hcc.2)) with e | e | e
  · exact n1 e
  · exact n2 e
  · exact n3 e
theorem not_both (h : DPart ls p β) (hb : BondL p) (hc : CycL p) : False := by
 obtain ⟨a, b, hab⟩ := hb
 obtain ⟨x, y, z, hx, hy, hz, n1, n2, n3⟩ := three_of h.three h.nd
 have at_ : ∀ k ∈ p, AtL k a := fun k hk => (hab k hk a).2 (.inl rfl)
 rcases hc a x hx y hy z hz (at_ x hx) (at_ y hy) (at_ z hz) with e | e | e
 · exact n1 e
 · exact n2 e
 · exact n3 e
theorem kind_eq (h : DPart ls p β) (hG : Uq.Ok (grL ls)) (hR : RightL p) : kindL p = if (vertsL p).length = 2 then 2 else if allTwoL p then 1 else if (vertsL p).length < 4 then 0 else if (firstC p).2.2.1 then 0 else 3 := by
 have h2 := h.two hG hR
 have h3 := h.three
 unfold kindL
 rw [two_joined h2, first_err h2, decide_eq_false (by omega)]
 simp
theorem kind_bond (h : DPart ls p β) (hG : Uq.Ok (grL ls)) (hR : RightL p) : kindL p = 2 ↔ BondL p := by
 rw [h.kind_eq hG hR, ← h.bond_iff]
 constructor
 ·
  intro hk
  refine Classical.byContradiction fun hno => ?_
  rw [if_neg hno] at hk
  repeat' split at hk
  all_goals omega
 · intro hk; rw [if_pos hk]
theorem kind_cyc (h : DPart ls p β) (hG : Uq.Ok (grL ls)) (hR : RightL p) : kindL p = 1 ↔ CycL p := by
 rw [h.kind_eq hG hR, ← h.cyc_iff hR]
 constructor
 ·
  intro hk
  split at hk
  · omega
  ·
   split at hk
   · assumption
   ·
    repeat' split at hk
    all_goals omega
 ·
  intro hk
  rw [if_neg fun h2 => h.not_both (h.bond_iff.1 h2) ((h.cyc_iff hR).1 hk), if_pos hk]
theorem kind_some (h : DPart ls p β) (hG : Uq.Ok (grL ls)) (hR : RightL p) (hf : (firstC p).2.2.1 = false) : kindL p = 1 ∨ kindL p = 2 ∨ kindL p = 3 := by
 have h2 := h.two hG hR
 rw [h.kind_eq hG hR, hf]
 by_cases v2 : (vertsL p).length = 2
 · rw [if_pos v2]; omega
 ·
  rw [if_neg v2]
  cases ha : allTwoL p with
  | true => simp
  | false =>
   by_cases v4 : (vertsL p).length < 4
   ·
    exfalso; have hn : noneP p = true := by
     rw [noneP_iff h2]; unfold firstC at hf; rw [h2] at hf; simp only [if_true] at hf; cases hi : firstIK (pairAt p) (vertsL p).length with
     | none => exact firstIK_none hi
     | some q => rw [hi] at hf; simp at hf
    have hv := two_verts h2; have h3 := h.three; rw [want_none h2] at hn; unfold wantN rigidB at hn; rw [decide_eq_false (show ¬ p.length ≤ 2 by omega), decide_eq_false (show ¬ 4 ≤ (vertsL p).length by omega)] at hn; simp only [Bool.false_or, Bool.or_false, Bool.false_and, Bool.or_eq_true, Bool.and_eq_true, beq_iff_eq] at hn; have hv3 : (vertsL p).length = 3 ∧ p.length = 3 := by omega
    rw [all_deg hR] at ha; have : ¬ ∀ v ∈ vertsL p, degN p v = 2 := fun hall => by
     rw [List.all_eq_true.2 (fun v hv => by rw [hall v hv]; rfl)] at ha; cases ha
    apply this; intro v hv'; refine Nat.le_antisymm (Nat.le_of_not_lt fun hgt => ?_) (h.deg_two hv'); have hcn : ∀ w ∈ vertsL p, 2 ≤ (endsL p).count w := fun w hw => by
     have := h.deg_two hw; rw [← cnt_deg hR.2.1] at this; exact this
    have hc3 : 3 ≤ (endsL p).count v := by
     rw [← cnt_deg hR.2.1] at hgt; exact hgt
    have hel := ends_len p; obtain ⟨s, t, hst⟩ := List.append_of_mem hv'; have hnd := verts_nodup p; rw [hst] at hnd; have hnd2 := (List.perm_middle.nodup_iff).1 hnd; have hnd3 := List.nodup_cons.1 hnd2; have := count_two (vs := s ++ t) (l := (endsL p).filter fun x => x != v) hnd3.2 fun w hw => by
     have hne : w ≠ v := fun e => hnd3.1 (e ▸ hw); rw [List.count_filter (by simpa using hne)]; refine hcn w ?_; rw [hst]; rcases List.mem_append.1 hw with hw | hw
     · simp [hw]
     · simp [hw]
    have hls : (s ++ t).length + 1 = 3 := by
     have := congrArg List.length hst; rw [hv3.1] at this; simp at this ⊢; omega
    have hfl : ((endsL p).filter fun x => x != v).length + (endsL p).count v = (endsL p).length := by
     generalize endsL p = l; induction l with
     | nil => rfl
     | cons a l ih =>
      by_cases e : a = v
      · subst e; simp; omega
      · simp [e]; omega
    omega
   · rw [if_neg v4]; simp
theorem rigid (h : DPart ls p β) (hG : Uq.Ok (grL ls)) (hR : RightL p) (hk : kindL p = 3) : Uq.Rig (grL ls) (p.map β) := by
 have h2 := h.two hG hR
 have hv4 : 4 ≤ (vertsL p).length ∧ (firstC p).2.2.1 = false := by
  rw [h.kind_eq hG hR] at hk
  repeat' split at hk
  all_goals first | omega | exact ⟨by omega, by simpa using ‹¬ (firstC p).2.2.1 = true›⟩
 have hn : noneP p = true := by
  have hf := hv4.2
  rw [noneP_iff h2]
  unfold firstC at hf
  rw [h2] at hf
  simp only [if_true] at hf
  cases hi : firstIK (pairAt p) (vertsL p).length with
  | none => exact firstIK_none hi
  | some q => rw [hi] at hf; simp at hf
 rw [noneP_v h2] at hn
 refine ⟨?_, fun C hs ⟨k, hkC⟩ ⟨m, hmC⟩ hC => ?_⟩
 ·
  have := count_two (vs := vertsL p) (l := endsL p) (verts_nodup p) fun w hw => by
   have := h.deg_two hw; rw [← cnt_deg hR.2.1] at this; exact this
  rw [ends_len] at this
  simp only [List.length_map]
  omega
 ·
  have hin : ∀ e ∈ p, (∀ x, β e x → C x) ∨ ∀ x, β e x → ¬ C x := fun e he => hs _ (List.mem_map_of_mem he)
  obtain ⟨Y, hY⟩ : ∃ Y : Lk → Prop, Y = fun e => ∀ x, β e x → C x := ⟨_, rfl⟩
  have hup : ∀ x, C x ↔ upB p β Y x := fun x => by
   obtain ⟨e, he, hx⟩ := h.cover x; rw [h.up_iff he hx, hY]; constructor
   ·
    intro hc; exact (hin e he).resolve_right fun hno => hno x hx hc
   · exact fun hc => hc x hx
  have hCe : C = upB p β Y := funext fun x => propext (hup x)
  obtain ⟨a, b, hab, hbd⟩ := hC
  have hbd2 : ∀ v, bdL p Y v ↔ v = a ∨ v = b := fun v => by rw [← h.up_bd, ← hCe]; exact hbd v
  obtain ⟨e0, he0, hY0⟩ : ∃ e ∈ p, Y e := by
   obtain ⟨e, he, hx⟩ := h.cover k; exact ⟨e, he, (h.up_iff he hx).1 ((hup k).1 hkC)⟩
  obtain ⟨f0, hf0, hN0⟩ : ∃ f ∈ p, ¬ Y f := by
   obtain ⟨f, hf, hx⟩ := h.cover m; exact ⟨f, hf, fun hy => hmC ((hup m).2 ((h.up_iff hf hx).2 hy))⟩
  by_cases c1 : ∃ e ∈ p, Y e ∧ e ≠ e0
  ·
   by_cases c2 : ∃ f ∈ p, ¬ Y f ∧ f ≠ f0
   ·
    exfalso; obtain ⟨e1, he1, hY1, hne1⟩ := c1; obtain ⟨f1, hf1, hN1, hne2⟩ := c2; have mem : ∀ v, v = a ∨ v = b → v ∈ vertsL p := fun v hv => by
     obtain ⟨⟨e, he, _, hev⟩, _⟩ := (hbd2 v).2 hv; exact AtL.vert he hev
    have key : ∀ x y, x < y → (∀ v, bdL p Y v ↔ v = x ∨ v = y) → x ∈ vertsL p → y ∈ vertsL p → False := fun x y hxy hb hx hy => by
     have h1 := hn x y hx hy hxy; obtain ⟨way, hw, hbit⟩ := bits_of p.length fun i => match p[i]? with
      | some e => @decide (Y e) (Classical.propDecidable _)
      | none => false
     have mX : ∀ e, e ∈ p → (e ∈ pkX p way p.length ↔ Y e) := fun e he => by
      rw [mem_pkX]; constructor
      ·
       rintro ⟨i, hi, ht⟩; rw [hbit i (List.getElem?_eq_some_iff.1 hi).1, hi] at ht; simpa using ht
      ·
       intro hy; obtain ⟨i, hi, hie⟩ := List.getElem_of_mem he; have hi2 : p[i]? = some e := by rw [List.getElem?_eq_getElem hi, hie]
       exact ⟨i, hi2, by rw [hbit i hi, hi2]; simpa using hy⟩
     have mY : ∀ e, e ∈ p → (e ∈ pkY p way p.length ↔ ¬ Y e) := fun e he => by
      rw [mem_pkY]; constructor
      ·
       rintro ⟨i, hi, ht⟩; rw [hbit i (List.getElem?_eq_some_iff.1 hi).1, hi] at ht; simpa using ht
      ·
       intro hy; obtain ⟨i, hi, hie⟩ := List.getElem_of_mem he; have hi2 : p[i]? = some e := by rw [List.getElem?_eq_getElem hi, hie]
       exact ⟨i, hi2, by rw [hbit i hi, hi2]; simpa using hy⟩
     have hpp : pairP p x y = true := (ways h2).2 ⟨way, hw, wantAt_iff.2 ⟨two_in ((mX e0 he0).2 hY0) ((mX e1 he1).2 hY1) hne1, two_in ((mY f0 hf0).2 hN0) ((mY f1 hf1).2 hN1) hne2, fun e he f hf v hev hfv => by
      have he' := (pkX_sub p way).subset he; have hf' := (pkY_sub p way).subset hf; have := (hb v).1 ⟨⟨e, he', (mX e he').1 he, hev⟩, f, hf', (mY f hf').1 hf, hfv⟩
      simpa using this⟩⟩
     rw [hpp] at h1; cases h1
    rcases Int.lt_or_gt_of_ne hab with hlt | hlt
    · exact key a b hlt hbd2 (mem a (.inl rfl)) (mem b (.inr rfl))
    · exact key b a hlt (fun v => (hbd2 v).trans or_comm) (mem b (.inr rfl)) (mem a (.inl rfl))
   ·
    right
    have : Uq.neg C = β f0 := funext fun x => propext ⟨fun hx => by
     obtain ⟨f, hf, hfx⟩ := h.cover x; have hnY : ¬ Y f := fun hy => hx ((hup x).2 ((h.up_iff hf hfx).2 hy)); have : f = f0 := Classical.byContradiction fun hne => c2 ⟨f, hf, hnY, hne⟩
     exact this ▸ hfx, fun hx hc => hN0 ((h.up_iff hf0 hx).1 ((hup x).1 hc))⟩
    rw [this]; exact List.mem_map_of_mem hf0
  ·
   left
   have : C = β e0 := funext fun x => propext ⟨fun hx => by
    obtain ⟨f, hf, hfx⟩ := h.cover x; have hnY : Y f := (h.up_iff hf hfx).1 ((hup x).1 hx); have : f = e0 := Classical.byContradiction fun hne => c1 ⟨f, hf, hnY, hne⟩
    exact this ▸ hfx, fun hx => (hup x).2 ((h.up_iff he0 hx).2 hY0)⟩
   rw [this]; exact List.mem_map_of_mem he0
theorem bondU (h : DPart ls p β) (hb : BondL p) : Uq.Bond (grL ls) (p.map β) := by
 obtain ⟨a, b, hab⟩ := hb
 refine ⟨a, b, fun X hX v => ?_⟩
 obtain ⟨e, he, rfl⟩ := List.mem_map.1 hX
 rw [h.ends e he]
 exact hab e he v
theorem cycU (h : DPart ls p β) (hc : CycL p) : Uq.Cyc (grL ls) (p.map β) := by
 intro v X hX Y hY Z hZ h1 h2 h3
 obtain ⟨e, he, rfl⟩ := List.mem_map.1 hX
 obtain ⟨f, hf, rfl⟩ := List.mem_map.1 hY
 obtain ⟨g, hg, rfl⟩ := List.mem_map.1 hZ
 rw [h.ends e he] at h1
 rw [h.ends f hf] at h2
 rw [h.ends g hg] at h3
 rcases hc v e he f hf g hg h1 h2 h3 with rfl | rfl | rfl
 · exact .inl rfl
 · exact .inr (.inl rfl)
 · exact .inr (.inr rfl)
theorem bond_of (h : DPart ls p β) (hb : Uq.Bond (grL ls) (p.map β)) : BondL p := by
 obtain ⟨a, b, hab⟩ := hb
 exact ⟨a, b, fun e he v => by rw [← h.ends e he]; exact hab _ (List.mem_map_of_mem he) v⟩
theorem cyc_of (h : DPart ls p β) (hc : Uq.Cyc (grL ls) (p.map β)) : CycL p := by
 intro v e he f hf g hg h1 h2 h3
 have inj : ∀ {x y : Lk}, x ∈ p → y ∈ p → β x = β y → x = y := fun {x y} hx hy he => h.inj hx hy fun m hm => he ▸ hm
 rcases hc v _ (List.mem_map_of_mem he) _ (List.mem_map_of_mem hf) _ (List.mem_map_of_mem hg) ((h.ends e he v).2 h1) ((h.ends f hf v).2 h2) ((h.ends g hg v).2 h3) with e1 | e1 | e1
 · exact .inl (inj he hf e1)
 · exact .inr (.inl (inj hf hg e1))
 · exact .inr (.inr (inj he hg e1))
end DPart
end Go.Proofs.YtagcbnpahgfgmaaGreat
