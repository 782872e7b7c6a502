/- Two vertices part links just if these can be put into two sets that share no vertex but them. No program in sight. -/
import Derived.Test.YtagjakgbmmbmhaaPaQ
namespace Go.Proofs.Ytagjakgbmmbmhaa

theorem bits_of : ∀ (n : Nat) (P : Nat → Bool), ∃ way, way < 2 ^ n ∧ ∀ i, i < n → way.testBit i = P i := by
  intro n
  induction n with
  | zero => exact fun P => ⟨0, by simp, fun i hi => absurd hi (by omega)⟩
  | succ n ih =>
    intro P
    obtain ⟨w, hw, hb⟩ := ih fun i => P (i + 1)
    refine ⟨2 * w + (if P 0 then 1 else 0), by rw [Nat.pow_succ]; split <;> omega, fun i hi => ?_⟩
    cases i with
    | zero =>
      rw [Nat.testBit_zero]
      cases P 0 with
      | true => simp
      | false => simp
    | succ i =>
      rw [Nat.testBit_succ, show (2 * w + (if P 0 then 1 else 0)) / 2 = w by split <;> omega]
      exact hb i (by omega)
def pkX (ls : List Lk) (way n : Nat) : List Lk := pickL ls ((List.range n).filter fun i => way.testBit i)
def pkY (ls : List Lk) (way n : Nat) : List Lk := pickL ls ((List.range n).filter fun i => !way.testBit i)
theorem pkX_succ (ls : List Lk) (way n : Nat) (h : n < ls.length) : pkX ls way (n + 1) = pkX ls way n ++ if way.testBit n then [ls[n]] else [] := by
  unfold pkX
  rw [List.range_succ, List.filter_append, pickL_append]
  congr 1
  cases hb : way.testBit n <;> simp [hb, pickL, h]
theorem pkY_succ (ls : List Lk) (way n : Nat) (h : n < ls.length) : pkY ls way (n + 1) = pkY ls way n ++ if way.testBit n then [] else [ls[n]] := by
  unfold pkY
  rw [List.range_succ, List.filter_append, pickL_append]
  congr 1
  cases hb : way.testBit n <;> simp [hb, pickL, h]
theorem pk_len (ls : List Lk) (way : Nat) : ∀ n, n ≤ ls.length → (pkX ls way n).length + (pkY ls way n).length = n := by
  intro n
  induction n with
  | zero => intro _; simp [pkX, pkY, pickL]
  | succ n ih =>
    intro h
    rw [pkX_succ ls way n (by omega), pkY_succ ls way n (by omega), List.length_append, List.length_append]
    have := ih (by omega)
    split <;> simp <;> omega
theorem mem_pkX {ls : List Lk} {way : Nat} {e : Lk} : e ∈ pkX ls way ls.length ↔ ∃ i, ls[i]? = some e ∧ way.testBit i = true := by
  unfold pkX pickL
  rw [List.mem_filterMap]
  constructor
  · rintro ⟨i, hi, he⟩
    exact ⟨i, he, by simpa using (List.mem_filter.1 hi).2⟩
  · rintro ⟨i, he, hb⟩
    exact ⟨i, List.mem_filter.2 ⟨List.mem_range.2 (List.getElem?_eq_some_iff.1 he).1, by simpa using hb⟩, he⟩
theorem mem_pkY {ls : List Lk} {way : Nat} {e : Lk} : e ∈ pkY ls way ls.length ↔ ∃ i, ls[i]? = some e ∧ way.testBit i = false := by
  unfold pkY pickL
  rw [List.mem_filterMap]
  constructor
  · rintro ⟨i, hi, he⟩
    exact ⟨i, he, by simpa using (List.mem_filter.1 hi).2⟩
  · rintro ⟨i, he, hb⟩
    exact ⟨i, List.mem_filter.2 ⟨List.mem_range.2 (List.getElem?_eq_some_iff.1 he).1, by simp [hb]⟩, he⟩
theorem pkX_sub (ls : List Lk) (way : Nat) : (pkX ls way ls.length).Sublist ls := pick_sub
theorem pkY_sub (ls : List Lk) (way : Nat) : (pkY ls way ls.length).Sublist ls := pick_sub

/-! ### the vertices in common -/
def shr (v : Int) (ys : List Int) : List Int := ys.filter fun w => v == w
def sharedL (xs ys : List Int) : List Int := xs.flatMap fun v => shr v ys
theorem mem_shared {xs ys : List Int} {v : Int} : v ∈ sharedL xs ys ↔ v ∈ xs ∧ v ∈ ys := by
  unfold sharedL shr
  rw [List.mem_flatMap]
  constructor
  · rintro ⟨x, hx, hv⟩
    rw [List.mem_filter, beq_iff_eq] at hv
    obtain ⟨h1, rfl⟩ := hv
    exact ⟨hx, h1⟩
  · rintro ⟨h1, h2⟩
    exact ⟨v, h1, List.mem_filter.2 ⟨h2, by simp⟩⟩
theorem shared_len (xs ys : List Int) : (sharedL xs ys).length ≤ xs.length * ys.length := by
  unfold sharedL
  induction xs with
  | nil => simp
  | cons x xs ih =>
    rw [List.flatMap_cons, List.length_append, List.length_cons, Nat.add_mul]
    have := List.length_filter_le (fun w => x == w) ys
    unfold shr at ih ⊢
    omega
def onlyAB (a b : Int) (l : List Int) : Bool := l.all fun v => v == a || v == b
def wantAt (ls : List Lk) (a b : Int) (way : Nat) : Bool :=
  decide (2 ≤ (pkX ls way ls.length).length) && decide (2 ≤ (pkY ls way ls.length).length) && onlyAB a b (sharedL (vertsL (pkX ls way ls.length)) (vertsL (pkY ls way ls.length)))
theorem wantAt_iff {ls : List Lk} {a b : Int} {way : Nat} : wantAt ls a b way = true ↔ 2 ≤ (pkX ls way ls.length).length ∧ 2 ≤ (pkY ls way ls.length).length ∧
    ∀ e ∈ pkX ls way ls.length, ∀ f ∈ pkY ls way ls.length, ∀ v, (v = e.1 ∨ v = e.2.1) → (v = f.1 ∨ v = f.2.1) → v ∈ [a, b] := by
  unfold wantAt onlyAB
  simp only [Bool.and_eq_true, decide_eq_true_eq, List.all_eq_true, Bool.or_eq_true, beq_iff_eq, and_assoc]
  refine and_congr_right fun _ => and_congr_right fun _ => ?_
  constructor
  · intro h e he f hf v hve hvf
    have := h v (mem_shared.2 ⟨(mem_vertsL _ v).2 ⟨e, he, hve⟩, (mem_vertsL _ v).2 ⟨f, hf, hvf⟩⟩)
    simpa using this
  · intro h v hv
    obtain ⟨h1, h2⟩ := mem_shared.1 hv
    obtain ⟨e, he, hve⟩ := (mem_vertsL _ v).1 h1
    obtain ⟨f, hf, hvf⟩ := (mem_vertsL _ v).1 h2
    simpa using h e he f hf v hve hvf
theorem len_of_mem {l m : List Lk} (hl : l.Nodup) (hm : m.Nodup) (h : ∀ e, e ∈ l ↔ e ∈ m) : l.length = m.length := ((List.perm_ext_iff_of_nodup hl hm).2 h).length_eq
/-- all ways are tried -/
theorem ways {ls : List Lk} {a b : Int} (h : twoL ls = true) : pairP ls a b = true ↔ ∃ way, way < 2 ^ ls.length ∧ wantAt ls a b way = true := by
  have hR := two_right h
  have hr := (rightL_iff ls).2 hR
  have hnd := right_nodup hR
  have hat : ∀ p, p < (groupsL ls [a, b]).length → ∃ r i, (groupsL ls [a, b])[p]? = some r ∧ (firsts (compC ls.length (bsL ls [a, b])) ls.length)[p]? = some i ∧ GrpAt ls [a, b] r i := fun p hp => by
    obtain ⟨i, hi, G⟩ := grp_at hr (List.getElem?_eq_getElem hp)
    exact ⟨_, i, List.getElem?_eq_getElem hp, hi, G⟩
  have hlen : (lensL (groupsL ls [a, b])).length = (groupsL ls [a, b]).length := by simp [lensL]
  constructor
  · intro hp
    have h1 := (parts_ref _ (lens_pos hR)).1 hp
    rw [lens_sum hR] at h1
    obtain ⟨i, k, hik, hk, hs1, hs2⟩ := h1
    rw [hlen] at hk
    obtain ⟨r, i1, hr1, hf1, G1⟩ := hat i (by omega)
    obtain ⟨s, i2, hr2, hf2, G2⟩ := hat k hk
    have hsz : szN (lensL (groupsL ls [a, b])) i k = r.length + if i < k then s.length else 0 := by
      unfold szN
      simp only [List.getD, lens_at hr1, lens_at hr2, Option.getD_some]
    rw [hsz] at hs1 hs2
    obtain ⟨way, hway, hbits⟩ := bits_of ls.length fun j => match ls[j]? with | some e => decide (e ∈ r) || decide (e ∈ s) | none => false
    refine ⟨way, hway, wantAt_iff.2 ?_⟩
    have hX : ∀ e, e ∈ pkX ls way ls.length ↔ e ∈ r ∨ e ∈ s := fun e => by
      rw [mem_pkX]
      constructor
      · rintro ⟨j, hj, hb⟩
        rw [hbits j (List.getElem?_eq_some_iff.1 hj).1, hj] at hb
        simpa using hb
      · intro he
        have hel : e ∈ ls := he.elim (fun x => G1.sub.subset x) (fun x => G2.sub.subset x)
        obtain ⟨j, hj⟩ := List.getElem?_of_mem hel
        refine ⟨j, hj, ?_⟩
        rw [hbits j (List.getElem?_eq_some_iff.1 hj).1, hj]
        simpa using he
    have hXl : (pkX ls way ls.length).length = r.length + if i < k then s.length else 0 := by
      have hxn : (pkX ls way ls.length).Nodup := hnd.sublist (pkX_sub ls way)
      by_cases hlt : i < k
      · rw [if_pos hlt, ← List.length_append]
        refine len_of_mem hxn ?_ fun e => by rw [hX, List.mem_append]
        refine List.nodup_append.2 ⟨hnd.sublist G1.sub, hnd.sublist G2.sub, fun x hx y hy e => ?_⟩
        subst e
        obtain ⟨j, hj, hc⟩ := (G1.mem x).1 hx
        exact grp_differ hf1 hf2 (by omega) (Con.trans hc (LCon.symm ((G2.con hR hj).1 hy)))
      · rw [if_neg hlt, Nat.add_zero]
        obtain rfl : i = k := by omega
        rw [hr1] at hr2; cases hr2
        exact len_of_mem hxn (hnd.sublist G1.sub) fun e => by rw [hX, or_self]
    have hpl := pk_len ls way ls.length (Nat.le_refl _)
    refine ⟨by omega, by omega, fun e he f hf v hve hvf => ?_⟩
    refine Classical.byContradiction fun hv => ?_
    obtain ⟨j, hj, hb⟩ := mem_pkY.1 hf
    have ht : touchB [a, b] e f = true := (touchB_iff _ _ _).2 ⟨v, hv, hve, hvf⟩
    have hfr : f ∈ r ∨ f ∈ s := by
      rcases (hX e).1 he with he | he
      · obtain ⟨m, hm, hc⟩ := (G1.mem e).1 he
        exact .inl ((G1.mem f).2 ⟨j, hj, Con.step hc (mem_bsL.2 ⟨e, f, hm, hj, ht⟩) (List.getElem?_eq_some_iff.1 hj).1⟩)
      · obtain ⟨m, hm, hc⟩ := (G2.mem e).1 he
        exact .inr ((G2.mem f).2 ⟨j, hj, Con.step hc (mem_bsL.2 ⟨e, f, hm, hj, ht⟩) (List.getElem?_eq_some_iff.1 hj).1⟩)
    obtain ⟨j', hj', hb'⟩ := mem_pkX.1 ((hX f).2 hfr)
    rw [nodup_idx hnd hj hj', hb'] at hb
    cases hb
  · rintro ⟨way, _, hw⟩
    obtain ⟨hx2, hy2, hsh⟩ := wantAt_iff.1 hw
    have hpl := pk_len ls way ls.length (Nat.le_refl _)
    -- a class lies on one side
    have hside : ∀ j j', LCon ls [a, b] j j' → way.testBit j = way.testBit j' := by
      intro j j' hc
      refine (Con.closed (fun t => way.testBit j = way.testBit t) (fun p q hp hq _ => ?_) rfl hc)
      obtain ⟨x, y, hx, hy, ht⟩ := mem_bsL.1 hq
      obtain ⟨v, hv, hvx, hvy⟩ := (touchB_iff _ _ _).1 ht
      rw [hp]
      cases h1 : way.testBit p with
      | true =>
        cases h2 : way.testBit q with
        | true => rfl
        | false => exact absurd (hsh x (mem_pkX.2 ⟨p, hx, h1⟩) y (mem_pkY.2 ⟨q, hy, h2⟩) v hvx hvy) hv
      | false =>
        cases h2 : way.testBit q with
        | false => rfl
        | true => exact absurd (hsh y (mem_pkX.2 ⟨q, hy, h2⟩) x (mem_pkY.2 ⟨p, hx, h1⟩) v hvy hvx) hv
    obtain ⟨e, he⟩ := List.exists_mem_of_length_pos (show 0 < (pkX ls way ls.length).length by omega)
    obtain ⟨f, hf⟩ := List.exists_mem_of_length_pos (show 0 < (pkY ls way ls.length).length by omega)
    obtain ⟨je, hje, hbe⟩ := mem_pkX.1 he
    obtain ⟨jf, hjf, hbf⟩ := mem_pkY.1 hf
    obtain ⟨p, r, hp, her⟩ := grp_all (wo := [a, b]) hR hje
    obtain ⟨q, s, hq, hfs⟩ := grp_all (wo := [a, b]) hR hjf
    obtain ⟨i1, hf1, G1⟩ := grp_at hr hp
    obtain ⟨i2, hf2, G2⟩ := grp_at hr hq
    have hpq : p ≠ q := fun e2 => by
      subst e2
      rw [hp] at hq; cases hq
      have h1 := (G1.con hR hje).1 her
      have h2 := (G1.con hR hjf).1 hfs
      have := hside je jf (Con.trans (LCon.symm h1) h2)
      rw [hbe, hbf] at this; cases this
    have hpl1 := (List.getElem?_eq_some_iff.1 hp).1
    have hql1 := (List.getElem?_eq_some_iff.1 hq).1
    unfold pairP partsN
    rw [hlen, if_neg (by omega)]
    by_cases l2 : (groupsL ls [a, b]).length = 2
    · rw [if_pos l2, beq_iff_eq]
      have hX : ∀ g, g ∈ pkX ls way ls.length ↔ g ∈ r := fun g => by
        constructor
        · intro hg
          obtain ⟨j, hj, hb⟩ := mem_pkX.1 hg
          obtain ⟨t, u, ht, hgu⟩ := grp_all (wo := [a, b]) hR hj
          have htl := (List.getElem?_eq_some_iff.1 ht).1
          have : t = p ∨ t = q := by omega
          rcases this with rfl | rfl
          · rw [hp] at ht; cases ht; exact hgu
          · rw [hq] at ht; cases ht
            have := hside j jf (Con.trans (LCon.symm ((G2.con hR hj).1 hgu)) ((G2.con hR hjf).1 hfs))
            rw [hb, hbf] at this; cases this
        · intro hg
          obtain ⟨j, hj⟩ := List.getElem?_of_mem (G1.sub.subset hg)
          refine mem_pkX.2 ⟨j, hj, ?_⟩
          rw [← hbe]
          exact (hside je j (Con.trans (LCon.symm ((G1.con hR hje).1 her)) ((G1.con hR hj).1 hg))).symm
      have hY : ∀ g, g ∈ pkY ls way ls.length ↔ g ∈ s := fun g => by
        constructor
        · intro hg
          obtain ⟨j, hj, hb⟩ := mem_pkY.1 hg
          obtain ⟨t, u, ht, hgu⟩ := grp_all (wo := [a, b]) hR hj
          have htl := (List.getElem?_eq_some_iff.1 ht).1
          have : t = p ∨ t = q := by omega
          rcases this with rfl | rfl
          · rw [hp] at ht; cases ht
            have := hside j je (Con.trans (LCon.symm ((G1.con hR hj).1 hgu)) ((G1.con hR hje).1 her))
            rw [hb, hbe] at this; cases this
          · rw [hq] at ht; cases ht; exact hgu
        · intro hg
          obtain ⟨j, hj⟩ := List.getElem?_of_mem (G2.sub.subset hg)
          refine mem_pkY.2 ⟨j, hj, ?_⟩
          rw [← hbf]
          exact (hside jf j (Con.trans (LCon.symm ((G2.con hR hjf).1 hfs)) ((G2.con hR hj).1 hg))).symm
      have hXl := len_of_mem (hnd.sublist (pkX_sub ls way)) (hnd.sublist G1.sub) hX
      have hYl := len_of_mem (hnd.sublist (pkY_sub ls way)) (hnd.sublist G2.sub) hY
      have hL : ∀ x ∈ lensL (groupsL ls [a, b]), x ≠ 1 := fun x hx => by
        obtain ⟨m, hm⟩ := List.getElem?_of_mem hx
        have hml := (List.getElem?_eq_some_iff.1 hm).1
        rw [hlen] at hml
        have : m = p ∨ m = q := by omega
        rcases this with rfl | rfl
        · rw [lens_at hp] at hm; cases hm; omega
        · rw [lens_at hq] at hm; cases hm; omega
      unfold onesN
      rw [List.length_eq_zero_iff, List.filter_eq_nil_iff]
      exact fun x hx => by simpa using hL x hx
    · rw [if_neg l2]
      by_cases l3 : (groupsL ls [a, b]).length = 3
      · rw [if_pos l3, decide_eq_true_eq]
        refine Classical.byContradiction fun hno => ?_
        have hle := ones_le (lensL (groupsL ls [a, b]))
        have hall : ∀ x ∈ lensL (groupsL ls [a, b]), x = 1 := fun x hx => by
          obtain ⟨m, hm⟩ := List.getElem?_of_mem hx
          refine Classical.byContradiction fun hx1 => ?_
          have := ones_lt hm hx1
          omega
        have hs := lens_sum (wo := [a, b]) hR
        have hL : ∀ M : List Nat, (∀ x ∈ M, x = 1) → M.sum = M.length := fun M => by
          induction M with
          | nil => intro _; rfl
          | cons a M ih =>
            intro h
            have i1 := ih fun x hx => h x (by simp [hx])
            have ha := h a (by simp)
            simp [ha, i1]; omega
        rw [hL _ hall] at hs
        omega
      · rw [if_neg l3]
end Go.Proofs.Ytagjakgbmmbmhaa
