/- Facts that the claim rests on, part 13. -/
import Derived.Test.YtagcbnpahgfgmaaGreatKC11
namespace Go.Proofs.YtagcbnpahgfgmaaGreat
theorem least {P : Nat → Prop} {n : Nat} (h : P n) : ∃ m, P m ∧ m ≤ n ∧ ∀ k, k < m → ¬ P k := by
 induction n using Nat.strongRecOn with
 | _ n ih =>
  by_cases hk : ∃ k, k < n ∧ P k
  ·
   obtain ⟨k, hk, hp⟩ := hk; obtain ⟨m, h1, h2, h3⟩ := ih k hk hp; exact ⟨m, h1, by omega, h3⟩
  · exact ⟨n, h, Nat.le_refl _, fun k hkn hp => hk ⟨k, hkn, hp⟩⟩
theorem first_ex {B : Nat → Nat → Bool} {n i k : Nat} (hik : i < k) (hk : k < n) (hb : B i k = true) : ∃ i' k', FirstAt B n i' k' := by
 obtain ⟨i', ⟨k1, h1, h2, h3⟩, _, hmin⟩ := least (P := fun i => ∃ k, i < k ∧ k < n ∧ B i k = true) ⟨k, hik, hk, hb⟩
 obtain ⟨k', ⟨h4, h5, h6⟩, _, hmin2⟩ := least (P := fun k => i' < k ∧ k < n ∧ B i' k = true) ⟨h1, h2, h3⟩
 refine ⟨i', k', h4, h5, h6, fun k2 a1 a2 => ?_, fun i2 k2 a1 a2 a3 => ?_⟩
 ·
  cases h : B i' k2 with
  | false => rfl
  | true => exact absurd ⟨a1, by omega, h⟩ (hmin2 k2 a2)
 ·
  cases h : B i2 k2 with
  | false => rfl
  | true => exact absurd ⟨k2, a2, a3, h⟩ (hmin i2 a1)
noncomputable def noneP (ls : List Lk) : Bool := !(firstL ls).2.2.1 && (firstL ls).2.2.2 == 0
theorem noneP_iff {ls : List Lk} (h : twoL ls = true) : noneP ls = true ↔ ∀ i k, i < k → k < (vertsL ls).length → pairAt ls i k = false := by
 unfold noneP
 constructor
 ·
  intro hn i k hik hk
  cases hb : pairAt ls i k with
  | false => rfl
  | true =>
   obtain ⟨i', k', hf⟩ := first_ex hik hk hb; rw [first_at h hf] at hn; simp at hn
 ·
  intro hn
  rw [first_none h hn]; rfl
theorem noneP_v {ls : List Lk} (h : twoL ls = true) : noneP ls = true ↔ ∀ x y, x ∈ vertsL ls → y ∈ vertsL ls → x < y → pairP ls x y = false := by
 rw [noneP_iff h]
 have hs := vertsL_sorted ls
 constructor
 ·
  intro hn x y hx hy hxy
  obtain ⟨i, hi, rfl⟩ := List.getElem_of_mem hx
  obtain ⟨k, hk, rfl⟩ := List.getElem_of_mem hy
  have hik : i < k := by
   rcases Nat.lt_trichotomy i k with e | e | e
   · exact e
   · subst e; omega
   · have := List.pairwise_iff_getElem.1 hs k i hk hi e; omega
  have := hn i k hik hk
  unfold pairAt at this
  simpa [List.getD, hi, hk] using this
 ·
  intro hn i k hik hk
  unfold pairAt
  have hi : i < (vertsL ls).length := by omega
  have := hn _ _ (List.getElem_mem hi) (List.getElem_mem hk) (List.pairwise_iff_getElem.1 hs i k hi hk hik)
  simpa [List.getD, hi, hk] using this
theorem none_few {ls : List Lk} (h : twoL ls = true) (h3 : ls.length ≤ 3) : noneP ls = true := by
 rw [noneP_v h]
 intro x y _ _ _
 have hR := two_right h
 cases hb : pairP ls x y with
 | false => rfl
 | true =>
  obtain ⟨i, k, _, _, h1, h2⟩ := (parts_ref _ (lens_pos hR)).1 hb
  rw [lens_sum hR] at h2; omega
theorem pairP_false {ls : List Lk} {a b : Int} (h : twoL ls = true) (h3 : 3 ≤ (vertsL ls).length) : pairP ls a b = false ↔ ¬ SplitV ls a b ∧ (dirsL ls a b).length ≤ 1 := by
 have := pair_iff (a := a) (b := b) h h3
 constructor
 ·
  intro hf
  rw [hf] at this
  have hn : SplitV ls a b ∨ 2 ≤ (dirsL ls a b).length → False := fun e => by have := this.2 e; simp at this
  exact ⟨fun e => hn (.inl e), Nat.le_of_not_lt fun e => hn (.inr e)⟩
 ·
  rintro ⟨h1, h2⟩
  cases hb : pairP ls a b with
  | false => rfl
  | true =>
   rcases this.1 hb with e | e
   · exact absurd e h1
   · omega
theorem tri_sum {v0 v1 v2 : Int} (h01 : v0 ≠ v1) (h02 : v0 ≠ v2) (h12 : v1 ≠ v2) : ∀ ls : List Lk, (∀ k ∈ ls, k.1 ∈ [v0, v1, v2] ∧ k.2.1 ∈ [v0, v1, v2] ∧ k.1 ≠ k.2.1) →
  ls.length = (dirsL ls v0 v1).length + (dirsL ls v0 v2).length + (dirsL ls v1 v2).length := by
 intro ls
 induction ls with
 | nil => intro _; rfl
 | cons k ls ih =>
  intro hk
  have ih' := ih fun k hk' => hk k (by simp [hk'])
  obtain ⟨k1, k2, k3⟩ := hk k (by simp)
  have hc : ∀ a b, (dirsL (k :: ls) a b).length = (if DirL a b k then 1 else 0) + (dirsL ls a b).length := fun a b => by
   unfold dirsL; rw [List.filter_cons]; by_cases h : DirL a b k <;> simp [h]; omega
  rw [hc, hc, hc, List.length_cons]
  have hone : (if DirL v0 v1 k then 1 else 0) + (if DirL v0 v2 k then 1 else 0) + (if DirL v1 v2 k then 1 else 0) = 1 := by
   unfold DirL; simp only [List.mem_cons, List.not_mem_nil, or_false] at k1 k2 ⊢; obtain ⟨p, q, z⟩ := k; simp only at k1 k2 k3 ⊢; rcases k1 with rfl | rfl | rfl <;> rcases k2 with rfl | rfl | rfl <;> first | exact absurd rfl k3 | (simp [h01, h02, h12, h01.symm, h02.symm, h12.symm])
  omega
theorem none_three {ls : List Lk} (h : twoL ls = true) (h3 : (vertsL ls).length = 3) : noneP ls = true ↔ ls.length = 3 := by
 have hR := two_right h
 have hs := vertsL_sorted ls
 match hv : vertsL ls, h3 with
 | [v0, v1, v2], _ =>
  rw [hv] at hs
  simp at hs
  have hm := fun z => mem_vertsL ls z
  rw [hv] at hm
  have hsum := tri_sum (v0 := v0) (v1 := v1) (v2 := v2) (by omega) (by omega) (by omega) ls fun k hk => ⟨(hm _).2 ⟨k, hk, .inl rfl⟩, (hm _).2 ⟨k, hk, .inr rfl⟩, by have := (hR.2.1 k hk).2.1; omega⟩
  have hin : ∀ z, z ∈ [v0, v1, v2] → z ∈ vertsL ls := fun z hz => by rw [hv]; exact hz
  have hge : ∀ x y z, x ∈ [v0, v1, v2] → y ∈ [v0, v1, v2] → z ∈ [v0, v1, v2] → x ≠ y → x ≠ z → y ≠ z → (∀ t, t ∈ [v0, v1, v2] → t ≠ z → t ∈ [x, y]) → 1 ≤ (dirsL ls x y).length := by
   intro x y z hx hy hz hxy hxz hyz hrest; have hc := two_con1 h (by rw [hv]; simp) (hin z hz) (hin x hx) (hin y hy) hxz hyz; cases hc with
   | refl => exact absurd rfl hxy
   | step _c0 h1 h2 h3 h4 =>
    rename_i k; have e1 := hrest k.1 ((hm _).2 ⟨k, h1, .inl rfl⟩) (by simpa using h2); have e2 := hrest k.2.1 ((hm _).2 ⟨k, h1, .inr rfl⟩) (by simpa using h3); exact List.length_pos_of_mem (List.mem_filter.2 ⟨h1, by simpa [DirL] using ⟨by simpa using e1, by simpa using e2⟩⟩)
  have g01 := hge v0 v1 v2 (by simp) (by simp) (by simp) (by omega) (by omega) (by omega) (by intro t ht hn; simp at ht ⊢; omega)
  have g02 := hge v0 v2 v1 (by simp) (by simp) (by simp) (by omega) (by omega) (by omega) (by intro t ht hn; simp at ht ⊢; omega)
  have g12 := hge v1 v2 v0 (by simp) (by simp) (by simp) (by omega) (by omega) (by omega) (by intro t ht hn; simp at ht ⊢; omega)
  have hns : ∀ x y z, x ∈ [v0, v1, v2] → y ∈ [v0, v1, v2] → (∀ t, t ∈ [v0, v1, v2] → t ∉ [x, y] → t = z) → ¬ SplitV ls x y := by
   rintro x y z hx hy hrest ⟨s, t, hs', ht', hsn, htn, hc⟩; rw [hv] at hs' ht'; have e1 := hrest s hs' hsn; have e2 := hrest t ht' htn; rw [e1, e2] at hc; exact hc .refl
  have n01 := hns v0 v1 v2 (by simp) (by simp) (by intro t ht hn; simp at ht hn; omega)
  have n02 := hns v0 v2 v1 (by simp) (by simp) (by intro t ht hn; simp at ht hn; omega)
  have n12 := hns v1 v2 v0 (by simp) (by simp) (by intro t ht hn; simp at ht hn; omega)
  have h3' : 3 ≤ (vertsL ls).length := by rw [hv]; simp
  rw [noneP_v h]
  constructor
  ·
   intro hn; have d01 := ((pairP_false h h3').1 (hn v0 v1 (hin _ (by simp)) (hin _ (by simp)) (by omega))).2; have d02 := ((pairP_false h h3').1 (hn v0 v2 (hin _ (by simp)) (hin _ (by simp)) (by omega))).2; have d12 := ((pairP_false h h3').1 (hn v1 v2 (hin _ (by simp)) (hin _ (by simp)) (by omega))).2; omega
  ·
   intro hl x y hx hy hxy; rw [hv] at hx hy; rw [pairP_false h h3']; simp only [List.mem_cons, List.not_mem_nil, or_false] at hx hy; rcases hx with rfl | rfl | rfl <;> rcases hy with rfl | rfl | rfl <;> first | omega | exact ⟨by assumption, by omega⟩
def leftL (ls : List Lk) (x y : Int) : List Lk := ls.filter fun e => decide (e.1 ≠ x) && decide (e.1 ≠ y) && decide (e.2.1 ≠ x) && decide (e.2.1 ≠ y)
theorem mem_left {ls : List Lk} {x y : Int} {e : Lk} : e ∈ leftL ls x y ↔ e ∈ ls ∧ e.1 ∉ [x, y] ∧ e.2.1 ∉ [x, y] := by
 unfold leftL
 rw [List.mem_filter]
 simp [and_assoc]
def okP (ls : List Lk) (x y : Int) : Bool := ((vertsL ls).length == 4 && (leftL ls x y).length == 1) || (((vertsL (leftL ls x y)).length == (vertsL ls).length - 2) && joinedL (leftL ls x y))
theorem joined_iff {l : List Lk} (hR : RightL l) (hne : l ≠ []) : joinedL l = true ↔ ∀ u v, u ∈ vertsL l → v ∈ vertsL l → VCon l [] u v := by
 unfold joinedL
 rw [beq_iff_eq, groups_one_v ((rightL_iff l).2 hR) hne (by simp)]
 simp
theorem joined_ne {l : List Lk} (h : joinedL l = true) : l ≠ [] := fun e => by subst e; exact absurd h (by decide)
theorem len_sub2 {vs : List Int} (hn : vs.Nodup) {x y : Int} (hx : x ∈ vs) (hy : y ∈ vs) (hxy : x ≠ y) : ((vs.filter fun z => decide (z ∉ [x, y])).length + 2) = vs.length := by
 have h1 : (vs.filter fun z => decide (z ∉ [x, y])).length + (vs.filter fun z => !decide (z ∉ [x, y])).length = vs.length := by
  clear hn hx hy
  induction vs with
  | nil => rfl
  | cons v vs ih =>
   rw [List.filter_cons, List.filter_cons, List.length_cons]; by_cases h : v ∉ [x, y]
   · simp only [h, not_false_eq_true, decide_true, if_true, Bool.not_true, Bool.false_eq_true, if_false, List.length_cons]; omega
   · simp only [h, decide_false, Bool.false_eq_true, if_false, Bool.not_false, if_true, List.length_cons]; omega
 have h2 : (vs.filter fun z => !decide (z ∉ [x, y])).length = 2 := by
  have hl : (vs.filter fun z => !decide (z ∉ [x, y])).Nodup := hn.filter _
  have e1 := nodup_len_leZ (m := [x, y]) hl fun z hz => by
   have := (List.mem_filter.1 hz).2; simpa using this
  have e2 := nodup_len_leZ (l := [x, y]) (m := vs.filter fun z => !decide (z ∉ [x, y])) (by simpa using hxy) fun z hz => by
   rw [List.mem_filter]; refine ⟨?_, by simpa using hz⟩; simp at hz; rcases hz with rfl | rfl <;> assumption
  have e3 : [x, y].length = 2 := rfl
  omega
 omega
theorem ok_iff {ls : List Lk} (h : twoL ls = true) (h4 : 4 ≤ (vertsL ls).length) {x y : Int} (hx : x ∈ vertsL ls) (hy : y ∈ vertsL ls) (hxy : x ≠ y) : okP ls x y = true ↔ ¬ SplitV ls x y := by
 have hR := two_right h
 have hlR : RightL (leftL ls x y) := right_sub hR List.filter_sublist
 have hfl := len_sub2 (verts_nodup ls) hx hy hxy
 obtain ⟨F, hF⟩ : ∃ F, F = (vertsL ls).filter fun z => decide (z ∉ [x, y]) := ⟨_, rfl⟩
 rw [← hF] at hfl
 have hFn : F.Nodup := by rw [hF]; exact (verts_nodup ls).filter _
 have hFm : ∀ z, z ∈ F ↔ z ∈ vertsL ls ∧ z ∉ [x, y] := fun z => by rw [hF, List.mem_filter]; simp
 have hsub : ∀ z, z ∈ vertsL (leftL ls x y) → z ∈ F := fun z hz => by
  obtain ⟨e, he, hze⟩ := (mem_vertsL _ z).1 hz
  obtain ⟨h1, h2, h3⟩ := mem_left.1 he
  refine (hFm z).2 ⟨(mem_vertsL _ z).2 ⟨e, h1, hze⟩, ?_⟩
  rcases hze with rfl | rfl <;> assumption
 constructor
 ·
  rintro hok ⟨s, t, hs, ht, hsn, htn, hc⟩
  have hsF := (hFm s).2 ⟨hs, hsn⟩
  have htF := (hFm t).2 ⟨ht, htn⟩
  unfold okP at hok
  rw [Bool.or_eq_true, Bool.and_eq_true, Bool.and_eq_true, beq_iff_eq, beq_iff_eq, beq_iff_eq] at hok
  rcases hok with ⟨e4, e1⟩ | ⟨e1, e2⟩
  ·
   obtain ⟨e, he⟩ := List.length_eq_one_iff.1 e1; have hem : e ∈ leftL ls x y := by rw [he]; simp
   obtain ⟨h1, h2, h3⟩ := mem_left.1 hem; have hlt := (hR.2.1 e h1).2.1; have a1 := (hFm e.1).2 ⟨(mem_vertsL _ _).2 ⟨e, h1, .inl rfl⟩, h2⟩; have a2 := (hFm e.2.1).2 ⟨(mem_vertsL _ _).2 ⟨e, h1, .inr rfl⟩, h3⟩; have hall : ∀ z, z ∈ F → z = e.1 ∨ z = e.2.1 := fun z hz => by
    refine Classical.byContradiction fun hno => ?_
    have := nodup_len_leZ (l := [e.1, e.2.1, z]) (m := F) (by
     simp
     refine ⟨⟨by omega, fun e => hno (.inl e.symm)⟩, fun e => hno (.inr e.symm)⟩) fun w hw => by
      simp at hw; rcases hw with rfl | rfl | rfl <;> assumption
    simp at this; omega
   have hlk := VCon.link h1 h2 h3; rcases hall s hsF with rfl | rfl <;> rcases hall t htF with rfl | rfl
   · exact hc .refl
   · exact hc hlk
   · exact hc hlk.symm
   · exact hc .refl
  ·
   have hback : ∀ z, z ∈ F → z ∈ vertsL (leftL ls x y) := fun z hz => by
    refine Classical.byContradiction fun hno => ?_; have := nodup_len_leZ (l := z :: vertsL (leftL ls x y)) (m := F) (List.nodup_cons.2 ⟨hno, verts_nodup _⟩) fun w hw => by
     rcases List.mem_cons.1 hw with rfl | hw
     · exact hz
     · exact hsub w hw
    simp at this; omega
   have hj := (joined_iff hlR (joined_ne e2)).1 e2 s t (hback s hsF) (hback t htF); refine hc ?_; have conv : ∀ w, VCon (leftL ls x y) [] s w → VCon ls [x, y] s w := fun w hw => by
    induction hw with
    | refl => exact .refl
    | step _c0 h1 h2 h3 h4 ih =>
     obtain ⟨b1, b2, b3⟩ := mem_left.1 h1; exact ih.step b1 b2 b3 h4
   exact conv t hj
 ·
  intro hns
  have hcon : ∀ s t, s ∈ F → t ∈ F → VCon ls [x, y] s t := fun s t hs ht => Classical.byContradiction fun hc => hns ⟨s, t, ((hFm s).1 hs).1, ((hFm t).1 ht).1, ((hFm s).1 hs).2, ((hFm t).1 ht).2, hc⟩
  have hback : ∀ z, z ∈ F → z ∈ vertsL (leftL ls x y) := fun z hz => by
   have hex : ∃ w ∈ F, w ≠ z := by
    refine Classical.byContradiction fun hno => ?_; have := nodup_len_leZ (l := F) (m := [z]) hFn fun w hw => by
     simp; exact Classical.byContradiction fun e => hno ⟨w, hw, e⟩
    simp at this; omega
   obtain ⟨w, hw, hwz⟩ := hex; have := hcon w z hw hz; cases this with
   | refl => exact absurd rfl hwz
   | step _c0 h1 h2 h3 h4 =>
    rename_i k; refine (mem_vertsL _ z).2 ⟨k, mem_left.2 ⟨h1, h2, h3⟩, ?_⟩; rcases h4 with ⟨_, e⟩ | ⟨_, e⟩ <;> first | exact .inr e | exact .inl e
  have e1 : (vertsL (leftL ls x y)).length + 2 = (vertsL ls).length := by
   have a1 := nodup_len_leZ (verts_nodup (leftL ls x y)) hsub; have a2 := nodup_len_leZ hFn hback; omega
  have hne : leftL ls x y ≠ [] := fun e => by
   rw [e, show (vertsL []).length = 0 from rfl] at e1; omega
  have e2 : joinedL (leftL ls x y) = true := (joined_iff hlR hne).2 fun u v hu hv => by
   have hc := hcon u v (hsub u hu) (hsub v hv); have conv : ∀ w, VCon ls [x, y] u w → VCon (leftL ls x y) [] u w := fun w hw => by
    induction hw with
    | refl => exact .refl
    | step _c0 h1 h2 h3 h4 ih => exact ih.step (mem_left.2 ⟨h1, h2, h3⟩) (by simp) (by simp) h4
   exact conv v hc
  unfold okP
  rw [e2]
  have : (vertsL (leftL ls x y)).length = (vertsL ls).length - 2 := by omega
  simp [this]
def sameB (ls : List Lk) (i k : Nat) : Bool := match ls[i]?, ls[k]? with
 | some e, some f => e.1 == f.1 && e.2.1 == f.2.1
 | _, _ => false
def sideB (ls : List Lk) : Bool := (List.range ls.length).any fun i => (List.range i).any fun k => sameB ls i k
theorem side_iff {ls : List Lk} (h : twoL ls = true) : sideB ls = false ↔ ∀ x y, x ∈ vertsL ls → y ∈ vertsL ls → x < y → (dirsL ls x y).length ≤ 1 := by
 have hR := two_right h
 have hnd := right_nodup hR
 constructor
 ·
  intro hs x y hx hy hxy
  refine Nat.le_of_not_lt fun h2 => ?_
  obtain ⟨e, f, he, hf, hfe, hde, hdf⟩ := dirs_two h2 hnd
  obtain ⟨i, hi⟩ := List.getElem?_of_mem he
  obtain ⟨k, hk⟩ := List.getElem?_of_mem hf
  have l1 := (hR.2.1 e he).2.1
  have l2 := (hR.2.1 f hf).2.1
  unfold DirL at hde hdf
  simp only [List.mem_cons, List.not_mem_nil, or_false] at hde hdf
  have q1 : e.1 = f.1 ∧ e.2.1 = f.2.1 := by omega
  have hne : i ≠ k := fun e2 => by subst e2; rw [hi] at hk; exact hfe (Option.some.inj hk).symm
  have hil := (List.getElem?_eq_some_iff.1 hi).1
  have hkl := (List.getElem?_eq_some_iff.1 hk).1
  have hany : ∀ a b, a < ls.length → b < a → sameB ls a b = true → sideB ls = true := fun a b ha hb hab => by
   unfold sideB; exact List.any_eq_true.2 ⟨a, List.mem_range.2 ha, List.any_eq_true.2 ⟨b, List.mem_range.2 hb, hab⟩⟩
  rcases Nat.lt_or_gt_of_ne hne with hlt | hlt
  · rw [hany k i hkl hlt (by unfold sameB; rw [hi, hk]; simp [q1.1, q1.2])] at hs; cases hs
  · rw [hany i k hil hlt (by unfold sameB; rw [hi, hk]; simp [q1.1, q1.2])] at hs; cases hs
 ·
  intro hd
  cases hs : sideB ls with
  | false => rfl
  | true =>
   unfold sideB at hs; obtain ⟨i, hi, hs⟩ := List.any_eq_true.1 hs; obtain ⟨k, hk, hs⟩ := List.any_eq_true.1 hs; rw [List.mem_range] at hi hk; have hei : ls[i]? = some ls[i] := List.getElem?_eq_getElem hi; have hek : ls[k]? = some (ls[k]'(by omega)) := List.getElem?_eq_getElem (by omega); unfold sameB at hs; rw [hei, hek] at hs; simp at hs; have hm := List.getElem_mem hi; have hm2 : ls[k]'(by omega) ∈ ls := List.getElem_mem _; have l1 := (hR.2.1 _ hm).2.1; have := hd ls[i].1 ls[i].2.1 ((mem_vertsL _ _).2 ⟨_, hm, .inl rfl⟩) ((mem_vertsL _ _).2 ⟨_, hm, .inr rfl⟩) l1
   have h2 := dirs_of (a := ls[i].1) (b := ls[i].2.1) hm hm2 (fun e => by
    have := nodup_idx hnd hek (by rw [hei, e])
    omega) (by unfold DirL; simp) (by unfold DirL; rw [← hs.1, ← hs.2]; simp)
   omega
def rigidB (ls : List Lk) : Bool := decide (4 ≤ (vertsL ls).length) && !sideB ls && (vertsL ls).all fun x => (vertsL ls).all fun y => decide (y ≤ x) || okP ls x y
theorem rigid_iff {ls : List Lk} (h : twoL ls = true) (h4 : 4 ≤ (vertsL ls).length) : rigidB ls = true ↔ noneP ls = true := by
 have h3 : 3 ≤ (vertsL ls).length := by omega
 rw [noneP_v h]
 unfold rigidB
 simp only [Bool.and_eq_true, decide_eq_true_eq, Bool.not_eq_true', List.all_eq_true, Bool.or_eq_true]
 rw [side_iff h]
 constructor
 ·
  rintro ⟨⟨_, hs⟩, hr⟩ x y hx hy hxy
  rw [pairP_false h h3]
  exact ⟨(ok_iff h h4 hx hy (by omega)).1 ((hr x hx y hy).resolve_left (by omega)), hs x y hx hy hxy⟩
 ·
  intro hn
  refine ⟨⟨h4, fun x y hx hy hxy => ((pairP_false h h3).1 (hn x y hx hy hxy)).2⟩, fun x hx y hy => ?_⟩
  by_cases hxy : y ≤ x
  · exact .inl hxy
  · exact .inr ((ok_iff h h4 hx hy (by omega)).2 ((pairP_false h h3).1 (hn x y hx hy (by omega))).1)
def wantN (ls : List Lk) : Bool := decide (ls.length ≤ 2) || (((vertsL ls).length == 2) && (ls.length == 3)) || (((vertsL ls).length == 3) && (ls.length == 3)) || rigidB ls
theorem want_none {ls : List Lk} (h : twoL ls = true) : noneP ls = wantN ls := by
 rw [Bool.eq_iff_iff]
 unfold wantN
 have hv := two_verts h
 by_cases h2 : ls.length ≤ 2
 ·
  simp only [h2, decide_true, Bool.true_or, iff_true]
  exact none_few h (by omega)
 ·
  simp only [h2, decide_false, Bool.false_or]
  by_cases v2 : (vertsL ls).length = 2
  ·
   have hr : rigidB ls = false := by unfold rigidB; simp; omega
   simp only [v2, beq_self_eq_true, Bool.true_and, hr, Bool.or_false, show ((2 : Nat) == 3) = false from rfl, Bool.false_and, beq_iff_eq]; rw [noneP_iff h]; constructor
   ·
    intro hn; have := hn 0 1 (by omega) (by omega); rw [pair_small (two_right h) v2] at this; simp at this; omega
   ·
    intro hl i k hik hk; obtain rfl : k = 1 := by omega
    obtain rfl : i = 0 := by omega
    rw [pair_small (two_right h) v2]; simp; omega
  ·
   by_cases v3 : (vertsL ls).length = 3
   ·
    have hr : rigidB ls = false := by unfold rigidB; simp; omega
    simp only [v3, hr, Bool.or_false, show ((3 : Nat) == 2) = false from rfl, Bool.false_and, Bool.false_or, beq_self_eq_true, Bool.true_and, beq_iff_eq]; exact none_three h v3
   ·
    have e2 : ((vertsL ls).length == 2) = false := by simpa using v2
    have e3 : ((vertsL ls).length == 3) = false := by simpa using v3
    simp only [e2, e3, Bool.false_and, Bool.false_or]; exact (rigid_iff h (by omega)).symm
end Go.Proofs.YtagcbnpahgfgmaaGreat
namespace Go.Proofs.YtagcbnpahgfgmaaGreat
def AtL (e : Lk) (v : Int) : Prop := v = e.1 ∨ v = e.2.1
def bdL (p : List Lk) (Y : Lk → Prop) (v : Int) : Prop := (∃ e ∈ p, Y e ∧ AtL e v) ∧ ∃ f ∈ p, ¬ Y f ∧ AtL f v
def ConL (p : List Lk) : Prop := ∀ Y : Lk → Prop, (∃ e ∈ p, Y e) → (∃ f ∈ p, ¬ Y f) → ∀ a, ∃ v, v ≠ a ∧ bdL p Y v
theorem AtL.vert {p : List Lk} {e : Lk} {v : Int} (he : e ∈ p) (h : AtL e v) : v ∈ vertsL p := (mem_vertsL p v).2 ⟨e, he, h⟩
theorem vcon_bd {p : List Lk} {wo : List Int} {u w : Int} {Y : Lk → Prop} (h : VCon p wo u w) (hn : ∀ v, bdL p Y v → v ∈ wo) (hu : u ∉ wo) (hu2 : ∃ e ∈ p, Y e ∧ AtL e u) : w ∉ wo ∧ ∃ e ∈ p, Y e ∧ AtL e w := by
 induction h with
 | refl => exact ⟨hu, hu2⟩
 | @step y z k _ hk h1 h2 h3 ih =>
  obtain ⟨hy, e, he, hYe, hey⟩ := ih
  have hyk : AtL k y := by
   rcases h3 with ⟨e1, _⟩ | ⟨e1, _⟩
   · exact .inl e1
   · exact .inr e1
  have hzk : AtL k z ∧ z ∉ wo := by
   rcases h3 with ⟨_, e1⟩ | ⟨_, e1⟩
   · exact ⟨.inr e1, e1 ▸ h2⟩
   · exact ⟨.inl e1, e1 ▸ h1⟩
  have hYk : Y k := Classical.byContradiction fun hno => hy (hn y ⟨⟨e, he, hYe, hey⟩, k, hk, hno, hyk⟩)
  exact ⟨hzk.2, k, hk, hYk, hzk.1⟩
theorem con_two {p : List Lk} (h : twoL p = true) : ConL p := by
 intro Y ⟨e, he, hYe⟩ ⟨f, hf, hYf⟩ a
 refine Classical.byContradiction fun hno => ?_
 have hn : ∀ v, bdL p Y v → v = a := fun v hv => Classical.byContradiction fun hne => hno ⟨v, hne, hv⟩
 have hR := two_right h
 have ends : ∀ k ∈ p, ∃ u, u ≠ a ∧ AtL k u ∧ u ∈ vertsL p := fun k hk => by
  have ok := (hR.2.1 k hk).2.1
  by_cases h1 : k.1 = a
  ·
   have : AtL k k.2.1 := .inr rfl; exact ⟨k.2.1, by omega, this, this.vert hk⟩
  ·
   have : AtL k k.1 := .inl rfl; exact ⟨k.1, h1, this, this.vert hk⟩
 obtain ⟨u, u1, u2, u3⟩ := ends e he
 obtain ⟨w, w1, w2, w3⟩ := ends f hf
 have fin : (∃ k ∈ p, Y k ∧ AtL k w) → False := fun hw => w1 (hn w ⟨hw, f, hf, hYf, w2⟩)
 by_cases ha : a ∈ vertsL p
 ·
  by_cases h3 : 3 ≤ (vertsL p).length
  · exact fin (vcon_bd (two_con1 h h3 ha u3 w3 u1 w1) (fun v hv => by simp [hn v hv]) (by simpa using u1) ⟨e, he, hYe, u2⟩).2
  ·
   have : u = w := Classical.byContradiction fun hne => by
    have := nodup_len_leZ (l := [a, u, w]) (m := vertsL p) (by
     have := fun e : a = u => u1 e.symm; have := fun e : a = w => w1 e.symm
     simp; exact ⟨⟨by assumption, by assumption⟩, hne⟩) (fun x hx => by
     simp only [List.mem_cons, List.not_mem_nil, or_false] at hx
     rcases hx with rfl | rfl | rfl <;> assumption)
    simp only [List.length_cons, List.length_nil] at this; omega
   exact fin ⟨e, he, hYe, this ▸ u2⟩
 ·
  exact fin (vcon_bd (two_con0 h u3 w3) (fun v hv => absurd (hn v hv) fun e1 => ha (by
   obtain ⟨⟨k, hk, _, hkv⟩, _⟩ := hv
   rw [← e1]; exact hkv.vert hk)) (by simp) ⟨e, he, hYe, u2⟩).2
theorem same_end {p : List Lk} {wo : List Int} {k : Lk} (hk : k ∈ p) {x y : Int} (hx : AtL k x) (hy : AtL k y) (h1 : x ∉ wo) (h2 : y ∉ wo) : VCon p wo x y := by
 rcases hx with rfl | rfl <;> rcases hy with rfl | rfl
 · exact .refl
 · exact VCon.link hk h1 h2
 · exact (VCon.link hk h2 h1).symm
 · exact .refl
theorem con_vc {p : List Lk} (h : ConL p) {wo : List Int} {a : Int} (hwo : ∀ x ∈ wo, x = a) {u w : Int} (hu : u ∈ vertsL p) (hw : w ∈ vertsL p) (hu1 : u ∉ wo) (hw1 : w ∉ wo) : VCon p wo u w := by
 refine Classical.byContradiction fun hno => ?_
 obtain ⟨k, hk, hku⟩ := (mem_vertsL p u).1 hu
 obtain ⟨m, hm, hmw⟩ := (mem_vertsL p w).1 hw
 obtain ⟨v, hva, ⟨e, he, ⟨z, z1, z2, z3⟩, hev⟩, f, hf, hYf, hfv⟩ := h (fun k => ∃ z, AtL k z ∧ z ∉ wo ∧ VCon p wo u z) ⟨k, hk, u, hku, hu1, .refl⟩
  ⟨m, hm, fun ⟨z, z1, z2, z3⟩ => hno (z3.trans (same_end hm z1 hmw z2 hw1))⟩ a
 have hvw : v ∉ wo := fun hv => hva (hwo v hv)
 exact hYf ⟨v, hfv, hvw, z3.trans (same_end he z1 hev z2 hvw)⟩
theorem two_con {p : List Lk} (hR : RightL p) (hne : p ≠ []) (h : ConL p) : twoL p = true := by
 have hr := (rightL_iff p).2 hR
 unfold twoL joinedL
 simp only [Bool.and_eq_true, beq_iff_eq, Bool.or_eq_true, List.all_eq_true]
 refine ⟨(groups_one_v hr hne (by simp)).2 fun u v hu hv h1 h2 => con_vc h (a := 0) (by simp) hu hv h1 h2, .inr fun v _ => ?_⟩
 exact (groups_one_v hr hne (by simp)).2 fun u w hu hw h1 h2 => con_vc h (a := v) (by simp) hu hw h1 h2
abbrev Al (ls : List Lk) := {k : Lk // k ∈ ls}
def grL (ls : List Lk) : Uq.Gr (Al ls) := ⟨vertsL ls, fun k v => AtL k.1 v⟩
theorem ok_grL {ls : List Lk} (h : twoL ls = true) : Uq.Ok (grL ls) := by
 refine ⟨verts_nodup ls, fun k v hk => AtL.vert k.2 hk, fun X ⟨k, hk⟩ ⟨m, hm⟩ => ?_⟩
 have hc := con_two h (fun k => ∃ hk : k ∈ ls, X ⟨k, hk⟩) ⟨k.1, k.2, k.2, hk⟩ ⟨m.1, m.2, fun ⟨_, hx⟩ => hm hx⟩
 obtain ⟨v, _, hv⟩ := hc 0
 obtain ⟨w, hwv, hw⟩ := hc v
 have tr : ∀ v, bdL ls (fun k => ∃ hk : k ∈ ls, X ⟨k, hk⟩) v → v ∈ (grL ls).VS.filter fun v => @decide (Uq.bd (grL ls) X v) (Classical.propDecidable _) := fun v hv => by
  obtain ⟨⟨e, he, ⟨he', hX⟩, hev⟩, f, hf, hnf, hfv⟩ := hv
  rw [List.mem_filter]
  refine ⟨AtL.vert he hev, ?_⟩
  simp only [decide_eq_true_eq]
  exact ⟨⟨⟨e, he⟩, hX, hev⟩, ⟨f, hf⟩, fun hx => hnf ⟨hf, hx⟩, hfv⟩
 have := nodup_len_leZ (l := [w, v]) (by simpa using hwv) (fun x hx => by
  simp only [List.mem_cons, List.not_mem_nil, or_false] at hx
  rcases hx with rfl | rfl
  · exact tr _ hw
  · exact tr _ hv)
 simpa [Uq.lam] using this
structure DPart (ls : List Lk) (p : List Lk) (β : Lk → Al ls → Prop) : Prop where
 ne : ∀ e ∈ p, ∃ m, β e m
 cover : ∀ m, ∃ e ∈ p, β e m
 disj : ∀ e ∈ p, ∀ f ∈ p, ∀ m, β e m → β f m → e = f
 nd : p.Nodup
 three : 3 ≤ p.length
 ends : ∀ e ∈ p, ∀ v, Uq.bd (grL ls) (β e) v ↔ AtL e v
 ok : ∀ e ∈ p, e.1 ≠ e.2.1
 real : ∀ e ∈ p, e.2.2 = 0 → ∀ m, β e m ↔ m.1 = e
 big : ∀ e ∈ p, e.2.2 ≠ 0 → Uq.Big (β e)
def upB {ls : List Lk} (p : List Lk) (β : Lk → Al ls → Prop) (Y : Lk → Prop) : Al ls → Prop := fun m => ∃ e ∈ p, Y e ∧ β e m
namespace DPart
variable {ls p q : List Lk} {β γ : Lk → Al ls → Prop}
theorem perm (h : DPart ls p β) (hp : p.Perm q) : DPart ls q β :=
 ⟨fun e he => h.ne e (hp.mem_iff.2 he), fun m => by obtain ⟨e, he, hm⟩ := h.cover m; exact ⟨e, hp.mem_iff.1 he, hm⟩, fun e he f hf => h.disj e (hp.mem_iff.2 he) f (hp.mem_iff.2 hf),
  hp.nodup_iff.1 h.nd, by rw [← hp.length_eq]; exact h.three, fun e he => h.ends e (hp.mem_iff.2 he), fun e he => h.ok e (hp.mem_iff.2 he), fun e he => h.real e (hp.mem_iff.2 he), fun e he => h.big e (hp.mem_iff.2 he)⟩
theorem up_iff (h : DPart ls p β) {Y : Lk → Prop} {f : Lk} (hf : f ∈ p) {m : Al ls} (hm : β f m) : upB p β Y m ↔ Y f := by
 constructor
 ·
  rintro ⟨e, he, hY, hem⟩
  rw [← h.disj e he f hf m hem hm]; exact hY
 · exact fun hY => ⟨f, hf, hY, hm⟩
theorem up_bd (h : DPart ls p β) (Y : Lk → Prop) (v : Int) : Uq.bd (grL ls) (upB p β Y) v ↔ bdL p Y v := by
 constructor
 ·
  rintro ⟨⟨k, hk, hkv⟩, m, hm, hmv⟩
  obtain ⟨e, he, hek⟩ := h.cover k
  obtain ⟨f, hf, hfm⟩ := h.cover m
  rw [h.up_iff he hek] at hk
  rw [h.up_iff hf hfm] at hm
  have hne : e ≠ f := fun e1 => hm (e1 ▸ hk)
  refine ⟨⟨e, he, hk, (h.ends e he v).1 ⟨⟨k, hek, hkv⟩, m, fun hx => hne (h.disj e he f hf m hx hfm), hmv⟩⟩, f, hf, hm, (h.ends f hf v).1 ⟨⟨m, hfm, hmv⟩, k, fun hx => hne (h.disj e he f hf k hek hx), hkv⟩⟩
 ·
  rintro ⟨⟨e, he, hY, hev⟩, f, hf, hn, hfv⟩
  obtain ⟨⟨k, hk, hkv⟩, _⟩ := (h.ends e he v).2 hev
  obtain ⟨⟨m, hm, hmv⟩, _⟩ := (h.ends f hf v).2 hfv
  exact ⟨⟨k, (h.up_iff he hk).2 hY, hkv⟩, m, fun hx => hn ((h.up_iff hf hm).1 hx), hmv⟩
theorem con (h : DPart ls p β) (hG : Uq.Ok (grL ls)) : ConL p := by
 intro Y ⟨e, he, hY⟩ ⟨f, hf, hn⟩ a
 obtain ⟨k, hk⟩ := h.ne e he
 obtain ⟨m, hm⟩ := h.ne f hf
 obtain ⟨v, hv, hb⟩ := hG.ge (X := upB p β Y) ⟨k, (h.up_iff he hk).2 hY⟩ ⟨m, fun hx => hn ((h.up_iff hf hm).1 hx)⟩ a
 exact ⟨v, hv, (h.up_bd Y v).1 hb⟩
theorem nil (h : DPart ls p β) : p ≠ [] := fun e => by have := h.three; rw [e] at this; simp at this
theorem two (h : DPart ls p β) (hG : Uq.Ok (grL ls)) (hR : RightL p) : twoL p = true := two_con hR h.nil (h.con hG)
theorem up_compl (h : DPart ls p β) {X Y : List Lk} (hp : p.Perm (X ++ Y)) (m : Al ls) : upB p β (· ∈ X) m ↔ ¬ upB p β (· ∈ Y) m := by
 obtain ⟨e, he, hm⟩ := h.cover m
 rw [h.up_iff he hm, h.up_iff he hm]
 have h1 := List.mem_append.1 (hp.mem_iff.1 he)
 have hn := List.nodup_append.1 (hp.nodup_iff.1 h.nd)
 exact ⟨fun hx hy => hn.2.2 e hx e hy rfl, fun hy => h1.resolve_right hy⟩
theorem half (h : DPart ls p β) (hG : Uq.Ok (grL ls)) {X Y : List Lk} (hp : p.Perm (X ++ Y)) (hX : 2 ≤ X.length) (hY : 2 ≤ Y.length) {a b n : Int} (hab : a ≠ b)
  (hsh : ∀ e ∈ X, ∀ f ∈ Y, ∀ v, AtL e v → AtL f v → v = a ∨ v = b) (hn : n ≠ 0) (hf : ∀ k ∈ p, k.2.2 ≠ n) :
  DPart ls ((a, b, n) :: X) (fun k => if k = (a, b, n) then upB p β (· ∈ Y) else β k) := by
 have mX : ∀ k ∈ X, k ∈ p := fun k hk => hp.mem_iff.2 (List.mem_append_left _ hk)
 have mY : ∀ k ∈ Y, k ∈ p := fun k hk => hp.mem_iff.2 (List.mem_append_right _ hk)
 have eX : ∀ k ∈ X, k ≠ (a, b, n) := fun k hk e => hf k (mX k hk) (by rw [e])
 have hnd := List.nodup_append.1 (hp.nodup_iff.1 h.nd)
 have xy : ∀ k ∈ X, k ∉ Y := fun k h1 h2 => hnd.2.2 k h1 k h2 rfl
 have bX : ∀ k ∈ X, (fun k => if k = (a, b, n) then upB p β (· ∈ Y) else β k) k = β k := fun k hk => if_neg (eX k hk)
 have bE : (fun k => if k = (a, b, n) then upB p β (· ∈ Y) else β k) (a, b, n) = upB p β (· ∈ Y) := if_pos rfl
 obtain ⟨y0, y1, hy0, hy1, hyy⟩ : ∃ y0 y1, y0 ∈ Y ∧ y1 ∈ Y ∧ y0 ≠ y1 := by
  match Y, hY, hnd.2.1 with
  | y0 :: y1 :: l, _, hn => exact ⟨y0, y1, by simp, by simp, fun e => by subst e; simp at hn⟩
 obtain ⟨x0, hx0⟩ : ∃ x0, x0 ∈ X := by
  match X, hX with
  | x0 :: l, _ => exact ⟨x0, by simp⟩
 generalize hB : (fun k => if k = (a, b, n) then upB p β (· ∈ Y) else β k) = B at bX bE ⊢
 have hbd : ∀ v, bdL p (· ∈ Y) v ↔ v = a ∨ v = b := by
  have h1 : ∀ v, bdL p (· ∈ Y) v → v = a ∨ v = b := fun v ⟨⟨f, _, hfY, hfv⟩, e, he, hne, hev⟩ =>
   hsh e ((List.mem_append.1 (hp.mem_iff.1 he)).resolve_right hne) f hfY v hev hfv
  have hc := h.con hG (· ∈ Y) ⟨y0, mY _ hy0, hy0⟩ ⟨x0, mX _ hx0, xy _ hx0⟩
  refine fun v => ⟨h1 v, fun hv => ?_⟩
  rcases hv with rfl | rfl
  ·
   obtain ⟨w, hw, hb⟩ := hc b; rcases h1 w hb with rfl | rfl
   · exact hb
   · exact absurd rfl hw
  ·
   obtain ⟨w, hw, hb⟩ := hc a; rcases h1 w hb with rfl | rfl
   · exact absurd rfl hw
   · exact hb
 refine ⟨fun e he => ?_, fun m => ?_, fun e he f hf' m h1 h2 => ?_, ?_, by simp only [List.length_cons]; omega, fun e he v => ?_, fun e he => ?_, fun e he h0 => ?_, fun e he h0 => ?_⟩
 ·
  rcases List.mem_cons.1 he with rfl | he
  ·
   obtain ⟨m, hm⟩ := h.ne y0 (mY _ hy0); exact ⟨m, by rw [bE]; exact ⟨y0, mY _ hy0, hy0, hm⟩⟩
  · rw [bX e he]; exact h.ne e (mX _ he)
 ·
  obtain ⟨f, hfp, hm⟩ := h.cover m
  rcases List.mem_append.1 (hp.mem_iff.1 hfp) with hx | hy
  · exact ⟨f, List.mem_cons_of_mem _ hx, by rw [bX f hx]; exact hm⟩
  · exact ⟨_, List.mem_cons_self .., by rw [bE]; exact ⟨f, hfp, hy, hm⟩⟩
 ·
  rcases List.mem_cons.1 he with rfl | he <;> rcases List.mem_cons.1 hf' with rfl | hf'
  · rfl
  ·
   rw [bE] at h1; rw [bX f hf'] at h2; exact absurd ((h.up_iff (mX f hf') h2).1 h1) (xy f hf')
  ·
   rw [bE] at h2; rw [bX e he] at h1; exact absurd ((h.up_iff (mX e he) h1).1 h2) (xy e he)
  ·
   rw [bX e he] at h1; rw [bX f hf'] at h2; exact h.disj e (mX e he) f (mX f hf') m h1 h2
 · exact List.nodup_cons.2 ⟨fun hm => eX _ hm rfl, hnd.1⟩
 ·
  rcases List.mem_cons.1 he with rfl | he
  · rw [bE, h.up_bd, hbd]; rfl
  · rw [bX e he]; exact h.ends e (mX e he) v
 ·
  rcases List.mem_cons.1 he with rfl | he
  · exact hab
  · exact h.ok e (mX e he)
 ·
  rcases List.mem_cons.1 he with rfl | he
  · exact absurd h0 hn
  · rw [bX e he]; exact h.real e (mX e he) h0
 ·
  rcases List.mem_cons.1 he with rfl | he
  ·
   rw [bE]; obtain ⟨m, hm⟩ := h.ne y0 (mY _ hy0); obtain ⟨k, hk⟩ := h.ne y1 (mY _ hy1); exact ⟨m, k, fun e => hyy (h.disj y0 (mY _ hy0) y1 (mY _ hy1) k (e ▸ hm) hk), ⟨y0, mY _ hy0, hy0, hm⟩, y1, mY _ hy1, hy1, hk⟩
  · rw [bX e he]; exact h.big e (mX e he) h0
theorem join {x y z : List Lk} (h : DPart ls x β) (k : DPart ls y γ) {e : Lk} (hex : e ∈ x) (hey : e ∈ y) (hc : ∀ m, γ e m ↔ ¬ β e m) (hz : z.Perm (x.erase e ++ y.erase e)) (hd : ∀ f ∈ x, f ∈ y → f = e) :
  DPart ls z (fun k => open Classical in if k ∈ x then β k else γ k) := by
 have bX : ∀ k ∈ x, (fun k => open Classical in if k ∈ x then β k else γ k) k = β k := fun k hk => if_pos hk
 have bY : ∀ k ∈ y, k ≠ e → (fun k => open Classical in if k ∈ x then β k else γ k) k = γ k := fun k hk hne => if_neg fun hx => hne (hd k hx hk)
 generalize (fun k => open Classical in if k ∈ x then β k else γ k) = B at bX bY ⊢
 have mz : ∀ f, f ∈ z ↔ (f ∈ x ∧ f ≠ e) ∨ (f ∈ y ∧ f ≠ e) := fun f => by
  rw [hz.mem_iff, List.mem_append, h.nd.mem_erase_iff, k.nd.mem_erase_iff]
  constructor
  ·
   rintro (⟨a, b⟩ | ⟨a, b⟩)
   · exact .inl ⟨b, a⟩
   · exact .inr ⟨b, a⟩
  ·
   rintro (⟨a, b⟩ | ⟨a, b⟩)
   · exact .inl ⟨b, a⟩
   · exact .inr ⟨b, a⟩
 have nx : ∀ f ∈ x, f ≠ e → ∀ m, β f m → ¬ β e m := fun f hf hne m h1 h2 => hne (h.disj f hf e hex m h1 h2)
 have ny : ∀ f ∈ y, f ≠ e → ∀ m, γ f m → β e m := fun f hf hne m h1 => Classical.byContradiction fun h2 => hne (k.disj f hf e hey m h1 ((hc m).2 h2))
 refine ⟨fun f hf => ?_, fun m => ?_, fun f hf g hg m h1 h2 => ?_, ?_, ?_, fun f hf v => ?_, fun f hf => ?_, fun f hf h0 => ?_, fun f hf h0 => ?_⟩
 ·
  rcases (mz f).1 hf with ⟨a, b⟩ | ⟨a, b⟩
  · rw [bX f a]; exact h.ne f a
  · rw [bY f a b]; exact k.ne f a
 ·
  by_cases hm : β e m
  ·
   obtain ⟨f, hf, hfm⟩ := k.cover m; have hne : f ≠ e := fun e1 => by rw [e1] at hfm; exact (hc m).1 hfm hm
   exact ⟨f, (mz f).2 (.inr ⟨hf, hne⟩), by rw [bY f hf hne]; exact hfm⟩
  ·
   obtain ⟨f, hf, hfm⟩ := h.cover m; have hne : f ≠ e := fun e1 => by rw [e1] at hfm; exact hm hfm
   exact ⟨f, (mz f).2 (.inl ⟨hf, hne⟩), by rw [bX f hf]; exact hfm⟩
 ·
  rcases (mz f).1 hf with ⟨a, b⟩ | ⟨a, b⟩ <;> rcases (mz g).1 hg with ⟨c, d⟩ | ⟨c, d⟩
  ·
   rw [bX f a] at h1; rw [bX g c] at h2; exact h.disj f a g c m h1 h2
  ·
   rw [bX f a] at h1; rw [bY g c d] at h2; exact absurd (ny g c d m h2) (nx f a b m h1)
  ·
   rw [bY f a b] at h1; rw [bX g c] at h2; exact absurd (ny f a b m h1) (nx g c d m h2)
  ·
   rw [bY f a b] at h1; rw [bY g c d] at h2; exact k.disj f a g c m h1 h2
 ·
  rw [hz.nodup_iff, List.nodup_append]
  refine ⟨h.nd.erase _, k.nd.erase _, fun f hf g hg e1 => ?_⟩
  subst e1
  rw [h.nd.mem_erase_iff] at hf
  rw [k.nd.mem_erase_iff] at hg
  exact hf.1 (hd f hf.2 hg.2)
 ·
  have h1 := h.three
  have h2 := k.three
  rw [hz.length_eq, List.length_append, List.length_erase_of_mem hex, List.length_erase_of_mem hey]
  omega
 ·
  rcases (mz f).1 hf with ⟨a, b⟩ | ⟨a, b⟩
  · rw [bX f a]; exact h.ends f a v
  · rw [bY f a b]; exact k.ends f a v
 ·
  rcases (mz f).1 hf with ⟨a, b⟩ | ⟨a, b⟩
  · exact h.ok f a
  · exact k.ok f a
 ·
  rcases (mz f).1 hf with ⟨a, b⟩ | ⟨a, b⟩
  · rw [bX f a]; exact h.real f a h0
  · rw [bY f a b]; exact k.real f a h0
 ·
  rcases (mz f).1 hf with ⟨a, b⟩ | ⟨a, b⟩
  · rw [bX f a]; exact h.big f a h0
  · rw [bY f a b]; exact k.big f a h0
end DPart
end Go.Proofs.YtagcbnpahgfgmaaGreat
namespace Go.Proofs.YtagcbnpahgfgmaaGreat
abbrev DT (ls : List Lk) := List Lk × (Lk → Al ls → Prop)
def NestD {ls : List Lk} (d d' : DT ls) : Prop := ∃ e ∈ d.1, ∃ f ∈ d'.1, ∀ m, d.2 e m ∨ d'.2 f m
theorem NestD.symm {ls : List Lk} {d d' : DT ls} (h : NestD d d') : NestD d' d := by
 obtain ⟨e, he, f, hf, hm⟩ := h
 exact ⟨f, hf, e, he, fun m => (hm m).symm⟩
structure Dec (ls : List Lk) (T : List (DT ls)) : Prop where
 part : ∀ d ∈ T, DPart ls d.1 d.2
 virt : ∀ d ∈ T, ∀ e ∈ d.1, e.2.2 ≠ 0 → ∃ d' ∈ T, e ∈ d'.1 ∧ ∀ m, d'.2 e m ↔ ¬ d.2 e m
 nest : T.Pairwise NestD
theorem DPart.third {ls p : List Lk} {β : Lk → Al ls → Prop} (h : DPart ls p β) (e f : Lk) : ∃ g ∈ p, g ≠ e ∧ g ≠ f ∧ ∃ m, β g m := by
 obtain ⟨g, hg, h1, h2⟩ := Uq.third h.nd h.three e f
 exact ⟨g, hg, h1, h2, h.ne g hg⟩
theorem DPart.gap {ls p : List Lk} {β : Lk → Al ls → Prop} (h : DPart ls p β) {e f : Lk} (he : e ∈ p) (hf : f ∈ p) : ∃ m, ¬ β e m ∧ ¬ β f m := by
 obtain ⟨g, hg, h1, h2, m, hm⟩ := h.third e f
 exact ⟨m, fun hx => h1 (h.disj g hg e he m hm hx), fun hx => h2 (h.disj g hg f hf m hm hx)⟩
namespace Dec
variable {ls : List Lk} {T T' : List (DT ls)}
theorem perm (h : Dec ls T) (hp : T.Perm T') : Dec ls T' :=
 ⟨fun d hd => h.part d (hp.mem_iff.2 hd), fun d hd e he hv => by
  obtain ⟨d', hd', h1⟩ := h.virt d (hp.mem_iff.2 hd) e he hv
  exact ⟨d', hp.mem_iff.1 hd', h1⟩, hp.pairwise h.nest fun h => h.symm⟩
theorem start (h2 : twoL ls = true) (hv : ∀ k ∈ ls, k.2.2 = 0) (h3 : 3 ≤ ls.length) : Dec ls [(ls, fun k m => m.1 = k)] := by
 have hR := two_right h2
 refine ⟨fun d hd => ?_, fun d hd e he h0 => ?_, by simp⟩
 ·
  simp only [List.mem_cons, List.not_mem_nil, or_false] at hd
  subst hd
  refine ⟨fun e he => ⟨⟨e, he⟩, rfl⟩, fun m => ⟨m.1, m.2, rfl⟩, fun e he f hf m h1 h2 => h1.symm.trans h2, right_nodup hR, h3, fun e he v => ?_, fun e he => by have := (hR.2.1 e he).2.1; omega, fun e he _ m => .rfl, fun e he h0 => absurd (hv e he) h0⟩
  constructor
  ·
   rintro ⟨⟨k, hk, hkv⟩, _⟩; have : k.1 = e := hk; exact this ▸ hkv
  ·
   intro hev; obtain ⟨f, hf, hfe⟩ : ∃ f ∈ ls, f ≠ e := by
    obtain ⟨f, hf, h1, _⟩ := Uq.third (right_nodup hR) h3 e e; exact ⟨f, hf, h1⟩
   have hc := con_two h2 (fun k => k = e) ⟨e, he, rfl⟩ ⟨f, hf, hfe⟩; have fin : ∀ w, bdL ls (fun k => k = e) w → w = v → Uq.bd (grL ls) (fun m => m.1 = e) v := fun w ⟨⟨k, hk, hke, hkw⟩, g, hg, hge, hgw⟩ hw => by
    subst hw; have : k = e := hke; subst this; exact ⟨⟨⟨k, hk⟩, rfl, hkw⟩, ⟨g, hg⟩, hge, hgw⟩
   have mem : ∀ w, bdL ls (fun k => k = e) w → AtL e w := fun w ⟨⟨k, hk, hke, hkw⟩, _⟩ => by
    have : k = e := hke; exact this ▸ hkw
   rcases hev with h1 | h1
   ·
    obtain ⟨w, hw, hb⟩ := hc e.2.1; exact fin w hb (((mem w hb).resolve_right hw).trans h1.symm)
   ·
    obtain ⟨w, hw, hb⟩ := hc e.1; exact fin w hb (((mem w hb).resolve_left hw).trans h1.symm)
 ·
  simp only [List.mem_cons, List.not_mem_nil, or_false] at hd
  subst hd
  exact absurd (hv e he) h0
theorem split (hG : Uq.Ok (grL ls)) {d : DT ls} {R : List (DT ls)} (h : Dec ls (d :: R)) {X Y : List Lk} (hp : d.1.Perm (X ++ Y)) (hX : 2 ≤ X.length) (hY : 2 ≤ Y.length) {a b n : Int} (hab : a ≠ b)
  (hsh : ∀ e ∈ X, ∀ f ∈ Y, ∀ v, AtL e v → AtL f v → v = a ∨ v = b) (hn : n ≠ 0) (hf : ∀ d' ∈ d :: R, ∀ k ∈ d'.1, k.2.2 ≠ n) :
  ∃ B1 B2, Dec ls (((a, b, n) :: X, B1) :: ((a, b, n) :: Y, B2) :: R) := by
 have hd := h.part d (List.mem_cons_self ..)
 have hfd := hf d (List.mem_cons_self ..)
 have p1 := hd.half hG hp hX hY hab hsh hn hfd
 have p2 := hd.half hG (hp.trans List.perm_append_comm) hY hX hab (fun e he f hf v h1 h2 => hsh f hf e he v h2 h1) hn hfd
 have mX : ∀ k ∈ X, k ∈ d.1 := fun k hk => hp.mem_iff.2 (List.mem_append_left _ hk)
 have mY : ∀ k ∈ Y, k ∈ d.1 := fun k hk => hp.mem_iff.2 (List.mem_append_right _ hk)
 have b1 : ∀ k ∈ d.1, (fun k => if k = (a, b, n) then upB d.1 d.2 (· ∈ Y) else d.2 k) k = d.2 k := fun k hk => if_neg fun e => hfd k hk (by rw [e])
 have b2 : ∀ k ∈ d.1, (fun k => if k = (a, b, n) then upB d.1 d.2 (· ∈ X) else d.2 k) k = d.2 k := fun k hk => if_neg fun e => hfd k hk (by rw [e])
 have e1 : (fun k => if k = (a, b, n) then upB d.1 d.2 (· ∈ Y) else d.2 k) (a, b, n) = upB d.1 d.2 (· ∈ Y) := if_pos rfl
 have e2 : (fun k => if k = (a, b, n) then upB d.1 d.2 (· ∈ X) else d.2 k) (a, b, n) = upB d.1 d.2 (· ∈ X) := if_pos rfl
 refine ⟨(fun k => if k = (a, b, n) then upB d.1 d.2 (· ∈ Y) else d.2 k), (fun k => if k = (a, b, n) then upB d.1 d.2 (· ∈ X) else d.2 k), ?_⟩
 generalize (fun k => if k = (a, b, n) then upB d.1 d.2 (· ∈ Y) else d.2 k) = B1 at p1 b1 e1 ⊢
 generalize (fun k => if k = (a, b, n) then upB d.1 d.2 (· ∈ X) else d.2 k) = B2 at p2 b2 e2 ⊢
 have hcp := hd.up_compl hp
 have hcp2 := hd.up_compl (hp.trans List.perm_append_comm)
 have old : ∀ g ∈ d.1, g.2.2 ≠ 0 → ∃ d' ∈ R, g ∈ d'.1 ∧ ∀ m, d'.2 g m ↔ ¬ d.2 g m := fun g hg h0 => by
  obtain ⟨d', hd', h1, h2⟩ := h.virt d (List.mem_cons_self ..) g hg h0
  rcases List.mem_cons.1 hd' with rfl | hd'
  ·
   obtain ⟨m, hm⟩ := hd.ne g hg; exact absurd hm ((h2 m).1 hm)
  · exact ⟨d', hd', h1, h2⟩
 have nst := List.pairwise_cons.1 h.nest
 refine ⟨fun d' hd' => ?_, fun d' hd' g hg h0 => ?_, ?_⟩
 ·
  rcases List.mem_cons.1 hd' with rfl | hd'
  · exact p1
  ·
   rcases List.mem_cons.1 hd' with rfl | hd'
   · exact p2
   · exact h.part d' (List.mem_cons_of_mem _ hd')
 ·
  rcases List.mem_cons.1 hd' with rfl | hd'
  ·
   rcases List.mem_cons.1 hg with rfl | hg
   · exact ⟨_, List.mem_cons_of_mem _ (List.mem_cons_self ..), List.mem_cons_self .., fun m => by simp only [e1, e2]; exact hcp m⟩
   ·
    obtain ⟨d', hd', h1, h2⟩ := old g (mX g hg) h0; exact ⟨d', by simp [hd'], h1, fun m => by simp only [b1 g (mX g hg)]; exact h2 m⟩
  ·
   rcases List.mem_cons.1 hd' with rfl | hd'
   ·
    rcases List.mem_cons.1 hg with rfl | hg
    · exact ⟨_, List.mem_cons_self .., List.mem_cons_self .., fun m => by simp only [e1, e2]; exact hcp2 m⟩
    ·
     obtain ⟨d', hd', h1, h2⟩ := old g (mY g hg) h0; exact ⟨d', by simp [hd'], h1, fun m => by simp only [b2 g (mY g hg)]; exact h2 m⟩
   ·
    obtain ⟨d2, hd2, h1, h2⟩ := h.virt d' (List.mem_cons_of_mem _ hd') g hg h0; rcases List.mem_cons.1 hd2 with rfl | hd2
    ·
     rcases List.mem_append.1 (hp.mem_iff.1 h1) with hx | hy
     · exact ⟨_, List.mem_cons_self .., List.mem_cons_of_mem _ hx, fun m => by simp only [b1 g h1]; exact h2 m⟩
     · exact ⟨_, List.mem_cons_of_mem _ (List.mem_cons_self ..), List.mem_cons_of_mem _ hy, fun m => by simp only [b2 g h1]; exact h2 m⟩
    · exact ⟨d2, by simp [hd2], h1, h2⟩
 ·
  refine List.pairwise_cons.2 ⟨fun d' hd' => ?_, List.pairwise_cons.2 ⟨fun d' hd' => ?_, nst.2⟩⟩
  ·
   rcases List.mem_cons.1 hd' with rfl | hd'
   ·
    refine ⟨_, List.mem_cons_self .., _, List.mem_cons_self .., fun m => ?_⟩; simp only [e1, e2]; rw [hcp m]; exact Classical.em _
   ·
    obtain ⟨g, hg, f, hf', hm⟩ := nst.1 d' hd'; rcases List.mem_append.1 (hp.mem_iff.1 hg) with hx | hy
    · exact ⟨g, List.mem_cons_of_mem _ hx, f, hf', fun m => by simp only [b1 g hg]; exact hm m⟩
    · exact ⟨_, List.mem_cons_self .., f, hf', fun m => by simp only [e1]; exact (hm m).imp (fun hx => ⟨g, hg, hy, hx⟩) id⟩
  ·
   obtain ⟨g, hg, f, hf', hm⟩ := nst.1 d' hd'; rcases List.mem_append.1 (hp.mem_iff.1 hg) with hx | hy
   · exact ⟨_, List.mem_cons_self .., f, hf', fun m => by simp only [e2]; exact (hm m).imp (fun hz => ⟨g, hg, hx, hz⟩) id⟩
   · exact ⟨g, List.mem_cons_of_mem _ hy, f, hf', fun m => by simp only [b2 g hg]; exact hm m⟩
theorem twin {x y : DT ls} {R : List (DT ls)} (h : Dec ls (x :: y :: R)) {e : Lk} (hex : e ∈ x.1) (hey : e ∈ y.1) (hv : e.2.2 ≠ 0) (ho : ∀ d ∈ R, e ∉ d.1) : ∀ m, y.2 e m ↔ ¬ x.2 e m := by
 obtain ⟨d', hd', h1, h2⟩ := h.virt x (List.mem_cons_self ..) e hex hv
 rcases List.mem_cons.1 hd' with rfl | hd'
 ·
  obtain ⟨m, hm⟩ := (h.part d' (List.mem_cons_self ..)).ne e hex
  exact absurd hm ((h2 m).1 hm)
 ·
  rcases List.mem_cons.1 hd' with rfl | hd'
  · exact h2
  · exact absurd h1 (ho d' hd')
theorem join {x y : DT ls} {R : List (DT ls)} (h : Dec ls (x :: y :: R)) {e : Lk} (hex : e ∈ x.1) (hey : e ∈ y.1) (hv : e.2.2 ≠ 0) (ho : ∀ d ∈ R, e ∉ d.1) (hd : ∀ f ∈ x.1, f ∈ y.1 → f = e)
  {z : List Lk} (hz : z.Perm (x.1.erase e ++ y.1.erase e)) : ∃ B, Dec ls ((z, B) :: R) := by
 have px := h.part x (List.mem_cons_self ..)
 have py := h.part y (by simp)
 have hc := h.twin hex hey hv ho
 have pz := px.join py hex hey hc hz hd
 have bX : ∀ k ∈ x.1, (fun k => open Classical in if k ∈ x.1 then x.2 k else y.2 k) k = x.2 k := fun k hk => if_pos hk
 have bY : ∀ k ∈ y.1, k ≠ e → (fun k => open Classical in if k ∈ x.1 then x.2 k else y.2 k) k = y.2 k := fun k hk hne => if_neg fun hx => hne (hd k hx hk)
 refine ⟨(fun k => open Classical in if k ∈ x.1 then x.2 k else y.2 k), ?_⟩
 generalize (fun k => open Classical in if k ∈ x.1 then x.2 k else y.2 k) = B at pz bX bY ⊢
 have mz : ∀ f, f ∈ z ↔ (f ∈ x.1 ∧ f ≠ e) ∨ (f ∈ y.1 ∧ f ≠ e) := fun f => by
  rw [hz.mem_iff, List.mem_append, px.nd.mem_erase_iff, py.nd.mem_erase_iff, and_comm, @and_comm (f ≠ e) (f ∈ y.1)]
 have nst := List.pairwise_cons.1 h.nest
 have nst2 := List.pairwise_cons.1 nst.2
 refine ⟨fun d' hd' => ?_, fun d' hd' g hg h0 => ?_, List.pairwise_cons.2 ⟨fun d' hd' => ?_, nst2.2⟩⟩
 ·
  rcases List.mem_cons.1 hd' with rfl | hd'
  · exact pz
  · exact h.part d' (by simp [hd'])
 ·
  rcases List.mem_cons.1 hd' with rfl | hd'
  ·
   rcases (mz g).1 hg with ⟨g1, g2⟩ | ⟨g1, g2⟩
   ·
    obtain ⟨d2, hd2, h1, h2⟩ := h.virt x (List.mem_cons_self ..) g g1 h0; rcases List.mem_cons.1 hd2 with rfl | hd2
    ·
     obtain ⟨m, hm⟩ := px.ne g g1; exact absurd hm ((h2 m).1 hm)
    ·
     rcases List.mem_cons.1 hd2 with rfl | hd2
     · exact absurd (hd g g1 h1) g2
     · exact ⟨d2, by simp [hd2], h1, fun m => by simp only [bX g g1]; exact h2 m⟩
   ·
    obtain ⟨d2, hd2, h1, h2⟩ := h.virt y (by simp) g g1 h0; rcases List.mem_cons.1 hd2 with rfl | hd2
    · exact absurd (hd g h1 g1) g2
    ·
     rcases List.mem_cons.1 hd2 with rfl | hd2
     ·
      obtain ⟨m, hm⟩ := py.ne g g1; exact absurd hm ((h2 m).1 hm)
     · exact ⟨d2, by simp [hd2], h1, fun m => by simp only [bY g g1 g2]; exact h2 m⟩
  ·
   obtain ⟨d2, hd2, h1, h2⟩ := h.virt d' (by simp [hd']) g hg h0; have hge : g ≠ e := fun e1 => ho d' hd' (e1 ▸ hg); rcases List.mem_cons.1 hd2 with rfl | hd2
   · exact ⟨_, List.mem_cons_self .., (mz g).2 (.inl ⟨h1, hge⟩), fun m => by simp only [bX g h1]; exact h2 m⟩
   ·
    rcases List.mem_cons.1 hd2 with rfl | hd2
    · exact ⟨_, List.mem_cons_self .., (mz g).2 (.inr ⟨h1, hge⟩), fun m => by simp only [bY g h1 hge]; exact h2 m⟩
    · exact ⟨d2, by simp [hd2], h1, h2⟩
 ·
  obtain ⟨a, ha, f, hf, hm⟩ := nst.1 d' (by simp [hd'])
  obtain ⟨c, hc', f', hf', hm'⟩ := nst2.1 d' hd'
  by_cases h1 : a = e
  ·
   by_cases h2 : c = e
   ·
    subst h1; subst h2; obtain ⟨m, m1, m2⟩ := (h.part d' (by simp [hd'])).gap hf hf'; have a1 := (hm m).resolve_right m1; have a2 := (hm' m).resolve_right m2; exact absurd a1 ((hc m).1 a2)
   · exact ⟨c, (mz c).2 (.inr ⟨hc', h2⟩), f', hf', fun m => by simp only [bY c hc' h2]; exact hm' m⟩
  · exact ⟨a, (mz a).2 (.inl ⟨ha, h1⟩), f, hf, fun m => by simp only [bX a ha]; exact hm m⟩
end Dec
end Go.Proofs.YtagcbnpahgfgmaaGreat
namespace Go.Proofs.YtagcbnpahgfgmaaGreat
theorem sides_apart {ls : List Lk} {a b num : Int} (hR : RightL ls) (ha : 0 ≤ a) (hab : a < b) (hb : b < 1048576) (hn : 0 < num ∧ num ≤ 1048576) {X Y : List Lk}
  (h1 : (sidesL ls a b num).1.Perm ((a, b, num) :: X)) (h2 : (sidesL ls a b num).2.Perm ((a, b, num) :: Y)) : ∀ e ∈ X, ∀ f ∈ Y, ∀ v, AtL e v → AtL f v → v = a ∨ v = b := by
 have hr := (rightL_iff ls).2 hR
 have hok : OkL (a, b, num) := by unfold OkL; simp only; omega
 unfold sidesL at h1 h2
 simp only at h1 h2
 obtain ⟨G, hG⟩ : ∃ G, G = groupsL ls [a, b] := ⟨_, rfl⟩
 obtain ⟨f0, hf0⟩ : ∃ f0, f0 = (fromTo ls.length G).1 := ⟨_, rfl⟩
 obtain ⟨t0, ht0⟩ : ∃ t0, t0 = (fromTo ls.length G).2 := ⟨_, rfl⟩
 rw [← hG, ← hf0, ← ht0] at h1 h2
 have okI : ∀ k ∈ (a, b, num) :: inS f0 t0 G G.length, OkL k := fun k hk => by
  rcases List.mem_cons.1 hk with rfl | hk
  · exact hok
  ·
   obtain ⟨r, hr', hk⟩ := mem_inS hk; exact hR.2.1 k (mem_groups (by rw [← hG]; exact hr') hk)
 have okO : ∀ k ∈ (a, b, num) :: outS f0 t0 G G.length, OkL k := fun k hk => by
  rcases List.mem_cons.1 hk with rfl | hk
  · exact hok
  ·
   obtain ⟨r, hr', hk⟩ := mem_outS hk; exact hR.2.1 k (mem_groups (by rw [← hG]; exact hr') hk)
 have pX : X.Perm (inS f0 t0 G G.length) := by
  have := sortL_perm ((a, b, num) :: inS f0 t0 G G.length)
  rw [map_swapL okI] at this
  exact (h1.symm.trans this).cons_inv
 have pY : Y.Perm (outS f0 t0 G G.length) := by
  have := sortL_perm ((a, b, num) :: outS f0 t0 G G.length)
  rw [map_swapL okO] at this
  exact (h2.symm.trans this).cons_inv
 have at_ : ∀ {j : Nat} {e : Lk}, e ∈ G.getD j [] → ∃ r, (groupsL ls [a, b])[j]? = some r ∧ e ∈ r := fun {j e} he => by
  by_cases hj : j < G.length
  ·
   simp only [List.getD, List.getElem?_eq_getElem hj, Option.getD_some] at he; exact ⟨_, by rw [← hG]; exact List.getElem?_eq_getElem hj, he⟩
  · simp [List.getD, List.getElem?_eq_none (Nat.le_of_not_lt hj)] at he
 intro e he f hf v hev hfv
 have he2 := pX.mem_iff.1 he
 have hf2 := pY.mem_iff.1 hf
 unfold inS at he2
 unfold outS at hf2
 obtain ⟨i, _, hei⟩ := List.mem_flatMap.1 he2
 obtain ⟨j, _, hfj⟩ := List.mem_flatMap.1 hf2
 split at hei
 ·
  rename_i hi
  split at hfj
  · simp at hfj
  ·
   rename_i hj; have hij : i ≠ j := fun e => hj (e ▸ hi); obtain ⟨r, hr1, her⟩ := at_ hei; obtain ⟨s, hs1, hfs⟩ := at_ hfj; obtain ⟨x, hx, GX⟩ := grp_at hr hr1; obtain ⟨y, hy, GY⟩ := grp_at hr hs1; exact grp_share hR GX GY (grp_differ hx hy hij) v (mem_shared.2 ⟨AtL.vert her hev, AtL.vert hfs hfv⟩)
 · simp at hei
theorem map_pick {ls : List Lk} {T : List (DT ls)} {x : List Lk} {S : List (List Lk)} (h : (T.map fun d => d.1).Perm (x :: S)) : ∃ d R, T.Perm (d :: R) ∧ d.1 = x ∧ (R.map fun d => d.1).Perm S := by
 obtain ⟨d, hd, e⟩ := List.mem_map.1 (h.mem_iff.2 (List.mem_cons_self ..))
 obtain ⟨s, t, rfl⟩ := List.append_of_mem hd
 have hp : (s ++ d :: t).Perm (d :: (s ++ t)) := List.perm_middle
 refine ⟨d, s ++ t, hp, e, ?_⟩
 have := (hp.map fun d => d.1).symm.trans h
 rw [List.map_cons, e] at this
 exact this.cons_inv
theorem Dec.repl {ls : List Lk} {p q : List Lk} {B : Lk → Al ls → Prop} {R : List (DT ls)} (h : Dec ls ((p, B) :: R)) (hp : p.Perm q) : Dec ls ((q, B) :: R) := by
 have nst := List.pairwise_cons.1 h.nest
 refine ⟨fun d hd => ?_, fun d hd e he hv => ?_, List.pairwise_cons.2 ⟨fun d hd => ?_, nst.2⟩⟩
 ·
  rcases List.mem_cons.1 hd with rfl | hd
  · exact (h.part (p, B) (List.mem_cons_self ..)).perm hp
  · exact h.part d (List.mem_cons_of_mem _ hd)
 ·
  have key : ∃ d' ∈ (p, B) :: R, e ∈ d'.1 ∧ ∀ m, d'.2 e m ↔ ¬ d.2 e m := by
   rcases List.mem_cons.1 hd with rfl | hd
   · exact h.virt (p, B) (List.mem_cons_self ..) e (hp.mem_iff.2 he) hv
   · exact h.virt d (List.mem_cons_of_mem _ hd) e he hv
  obtain ⟨d', hd', h1, h2⟩ := key
  rcases List.mem_cons.1 hd' with rfl | hd'
  · exact ⟨(q, B), List.mem_cons_self .., hp.mem_iff.1 h1, h2⟩
  · exact ⟨d', List.mem_cons_of_mem _ hd', h1, h2⟩
 ·
  obtain ⟨e, he, f, hf, hm⟩ := nst.1 d hd
  exact ⟨e, hp.mem_iff.1 he, f, hf, hm⟩
structure SpD (ls : List Lk) (s : SpS) : Prop where
 dec : ∃ T : List (DT ls), Dec ls T ∧ (T.map fun d => d.1).Perm (s.todo ++ s.out)
 fin : ∀ t ∈ s.out, (firstC t).2.2.1 = false
theorem SpD.step {ls : List Lk} (hG : Uq.Ok (grL ls)) {s : SpS} (hl : ls.length ≤ 1000) (hi : SpI ls s) (h : SpD ls s) : SpD ls s.step := by
 unfold SpS.step
 cases ht : s.todo.getLast? with
 | none => exact h
 | some top =>
  have hsp := getLast_split ht
  have hp1 : (s.todo ++ s.out).Perm (top :: (s.todo.dropLast ++ s.out)) := by
   conv => lhs; rw [hsp]
   rw [List.append_assoc]; exact List.perm_middle
  have htop := hi.right top (hp1.mem_iff.2 (by simp))
  have hhi := hi.hi
  obtain ⟨D, hD, hDv, hDl⟩ := hi.tree
  obtain ⟨T, hT, hTp⟩ := h.dec
  simp only
  cases hc : (firstC top).2.2.1 with
  | false =>
   simp only [Bool.false_eq_true, if_false]; refine ⟨⟨T, hT, hTp.trans (hp1.trans ?_)⟩, fun t ht => ?_⟩
   ·
    rw [← List.append_assoc]; exact (List.perm_append_singleton top _).symm
   ·
    rcases List.mem_append.1 ht with ht | ht
    · exact h.fin t ht
    · simp at ht; subst ht; exact hc
  | true =>
   simp only [if_true]; have hfc : firstC top = ((firstC top).1, (firstC top).2.1, true, (firstC top).2.2.2) := by rw [← hc]
   obtain ⟨p, hpe⟩ : ∃ p, p = (firstC top).1 := ⟨_, rfl⟩
   obtain ⟨q, hqe⟩ : ∃ q, q = (firstC top).2.1 := ⟨_, rfl⟩
   rw [← hpe, ← hqe] at hfc ⊢; obtain ⟨t2, hpm, hqm, hpq, hpr, _⟩ := firstC_true hfc; obtain ⟨l1, l2, l3⟩ := sides_len (num := s.next) t2 hpr; have hpo : 0 ≤ p := by
    obtain ⟨x, hx, e⟩ := (mem_vertsL top p).1 hpm; have := htop.2.1 x hx; unfold OkL at this; rcases e with rfl | rfl <;> omega
   have hqo : q < 1048576 := by
    obtain ⟨x, hx, e⟩ := (mem_vertsL top q).1 hqm; have := htop.2.1 x hx; unfold OkL at this; rcases e with rfl | rfl <;> omega
   have hnx : 0 < s.next ∧ s.next ≤ 1048576 := by omega
   obtain ⟨X, Y, hXY, hS1, hS2⟩ := sides_perm (num := s.next) htop hpo hpq hqo hnx; have hsh := sides_apart htop hpo hpq hqo hnx hS1 hS2; obtain ⟨S1, hS1e⟩ : ∃ S1, S1 = (sidesL top p q s.next).1 := ⟨_, rfl⟩
   obtain ⟨S2, hS2e⟩ : ∃ S2, S2 = (sidesL top p q s.next).2 := ⟨_, rfl⟩
   rw [← hS1e] at hS1 l1 ⊢; rw [← hS2e] at hS2 l2 ⊢; obtain ⟨d, R, hTd, hde, hR⟩ := map_pick (hTp.trans hp1); have hsame : ((d :: R).map fun d => d.1).Perm (s.todo ++ s.out) := (hTd.map fun d => d.1).symm.trans hTp; have hfr : ∀ d' ∈ d :: R, ∀ k ∈ d'.1, k.2.2 ≠ s.next := fun d' hd' k hk e => by
    have hm : d'.1 ∈ s.todo ++ s.out := hsame.mem_iff.1 (List.mem_map_of_mem hd'); have hk2 := hDv k (hD.memD.2 (mem_occL.2 ⟨_, hm, hk, by omega⟩)); omega
   have hx2 := hS1.length_eq; have hy2 := hS2.length_eq; simp only [List.length_cons] at hx2 hy2; obtain ⟨B1, B2, hD2⟩ := Dec.split hG (hT.perm hTd) (hde ▸ hXY) (by omega) (by omega) (by omega : p ≠ q) hsh (by omega : s.next ≠ 0) hfr; have hD3 := (hD2.repl hS1.symm).perm (List.Perm.swap ..); have hD4 := hD3.repl hS2.symm; refine ⟨⟨_, hD4, ?_⟩, h.fin⟩; rw [List.map_cons, List.map_cons]; simp only; refine (((hR.cons S1).cons S2)).trans ?_; rw [List.append_assoc]; refine List.Perm.trans ?_ List.perm_append_comm; rw [List.append_assoc]; simp only [List.cons_append, List.nil_append]; exact ((List.perm_append_comm).cons _).cons _
theorem SpD.steps {ls : List Lk} (hG : Uq.Ok (grL ls)) (hl : ls.length ≤ 1000) : ∀ (k : Nat) (s : SpS), SpI ls s → SpD ls s → SpD ls (SpS.steps k s) := by
 intro k
 induction k with
 | zero => intro s _ h; exact h
 | succ k ih => intro s hi h; rw [SpS.steps]; exact ih _ (hi.step hl) (h.step hG hl hi)
theorem SplitTo.dec {ls : List Lk} {out : List (List Lk)} {n : Int} (h : SplitTo ls 1 out n) (h2 : twoL ls = true) (hv : ∀ k ∈ ls, k.2.2 = 0) (h3 : 3 ≤ ls.length) :
  ∃ T : List (DT ls), Dec ls T ∧ (T.map fun d => d.1).Perm out ∧ ∀ t ∈ out, (firstC t).2.2.1 = false := by
 have hR := two_right h2
 obtain ⟨k, hk⟩ := h
 have := SpD.steps (ok_grL h2) hR.1 k _ (SpI.start hR hv h3) ⟨⟨_, Dec.start h2 hv h3, by simp⟩, by simp⟩
 rw [hk] at this
 obtain ⟨T, hT, hp⟩ := this.dec
 exact ⟨T, hT, by simpa using hp, this.fin⟩
end Go.Proofs.YtagcbnpahgfgmaaGreat
namespace Go.Proofs.YtagcbnpahgfgmaaGreat
def BondL (p : List Lk) : Prop := ∃ a b, ∀ e ∈ p, ∀ v, AtL e v ↔ v = a ∨ v = b
def CycL (p : List Lk) : Prop := ∀ v, ∀ e ∈ p, ∀ f ∈ p, ∀ g ∈ p, AtL e v → AtL f v → AtL g v → e = f ∨ f = g ∨ e = g
theorem count_two : ∀ {vs l : List Int}, vs.Nodup → (∀ v ∈ vs, 2 ≤ l.count v) → 2 * vs.length ≤ l.length
 | [], _, _, _ => by simp
 | v :: vs, l, hn, h => by
  have hn' := List.nodup_cons.1 hn
  have h1 := count_two (vs := vs) (l := l.filter fun x => x != v) hn'.2 fun w hw => by
   have hne : w ≠ v := fun e => hn'.1 (e ▸ hw)
   rw [List.count_filter (by simpa using hne)]
   exact h w (by simp [hw])
  have h2 := h v (by simp)
  have h3 : (l.filter fun x => x != v).length + l.count v = l.length := by
   clear h h1 h2; induction l with
   | nil => rfl
   | cons a l ih =>
    by_cases e : a = v
    · subst e; simp; omega
    · simp [e]; omega
  simp only [List.length_cons]
  omega
theorem ends_len (p : List Lk) : (endsL p).length = 2 * p.length := by
 unfold endsL
 induction p with
 | nil => rfl
 | cons k p ih => rw [List.flatMap_cons, List.length_append, ih]; simp; omega
theorem three_of {α : Type} {l : List α} (h : 3 ≤ l.length) (hn : l.Nodup) : ∃ a b c, a ∈ l ∧ b ∈ l ∧ c ∈ l ∧ a ≠ b ∧ b ≠ c ∧ a ≠ c := by
 match l, h, hn with
 | a :: b :: c :: l, _, hn =>
  simp only [List.nodup_cons, List.mem_cons, not_or] at hn
  exact ⟨a, b, c, by simp, by simp, by simp, hn.1.1, hn.2.1.1, hn.1.2.1⟩
theorem AtL.dec (e : Lk) (v : Int) : (e.1 = v ∨ e.2.1 = v) ↔ AtL e v := by
 unfold AtL
 exact ⟨fun h => h.imp Eq.symm Eq.symm, fun h => h.imp Eq.symm Eq.symm⟩
namespace DPart
variable {ls p : List Lk} {β : Lk → Al ls → Prop}
theorem other (h : DPart ls p β) {e : Lk} (he : e ∈ p) {v : Int} (hv : AtL e v) : ∃ f ∈ p, f ≠ e ∧ AtL f v := by
 obtain ⟨⟨k, hk, hkv⟩, m, hm, hmv⟩ := (h.ends e he v).2 hv
 obtain ⟨f, hf, hfm⟩ := h.cover m
 have hne : f ≠ e := fun e1 => hm (e1 ▸ hfm)
 exact ⟨f, hf, hne, (h.ends f hf v).1 ⟨⟨m, hfm, hmv⟩, k, fun hx => hne (h.disj f hf e he k hx hk), hkv⟩⟩
theorem bond_iff (h : DPart ls p β) : (vertsL p).length = 2 ↔ BondL p := by
 constructor
 ·
  intro h2
  match hv : vertsL p, h2 with
  | [a, b], _ =>
   refine ⟨a, b, fun e he v => ⟨fun hev => ?_, fun hab => ?_⟩⟩
   ·
    have := AtL.vert he hev; rw [hv] at this; simpa using this
   ·
    have m1 := AtL.vert he (show AtL e e.1 from .inl rfl); have m2 := AtL.vert he (show AtL e e.2.1 from .inr rfl); have := h.ok e he; rw [hv] at m1 m2; simp only [List.mem_cons, List.not_mem_nil, or_false] at m1 m2; unfold AtL; omega
 ·
  rintro ⟨a, b, hab⟩
  obtain ⟨e, he⟩ := List.exists_mem_of_ne_nil _ h.nil
  have hn : a ≠ b := fun e1 => h.ok e he (by
   have a1 := (hab e he e.1).1 (.inl rfl); have a2 := (hab e he e.2.1).1 (.inr rfl)
   omega)
  have l1 := nodup_len_leZ (l := [a, b]) (m := vertsL p) (by simpa using hn) fun x hx => by
   simp only [List.mem_cons, List.not_mem_nil, or_false] at hx; exact AtL.vert he ((hab e he x).2 hx)
  have l2 := nodup_len_leZ (l := vertsL p) (m := [a, b]) (verts_nodup p) fun x hx => by
   obtain ⟨f, hf, hfx⟩ := (mem_vertsL p x).1 hx; have := (hab f hf x).1 hfx; simpa using this
  simp only [List.length_cons, List.length_nil] at l1 l2
  omega
theorem deg_two (h : DPart ls p β) {v : Int} (hv : v ∈ vertsL p) : 2 ≤ degN p v := by
 obtain ⟨e, he, hev⟩ := (mem_vertsL p v).1 hv
 obtain ⟨f, hf, hne, hfv⟩ := h.other he hev
 unfold degN
 exact two_in (e := e) (f := f) (List.mem_filter.2 ⟨he, by simpa using (AtL.dec e v).2 hev⟩) (List.mem_filter.2 ⟨hf, by simpa using (AtL.dec f v).2 hfv⟩) hne
theorem cyc_iff (h : DPart ls p β) (hR : RightL p) : allTwoL p = true ↔ CycL p := by
 rw [all_deg hR]
 simp only [List.all_eq_true, beq_iff_eq]
 constructor
 ·
  intro hd v e he f hf g hg h1 h2 h3
  refine Classical.byContradiction fun hno => ?_
  have hv := hd v (AtL.vert he h1)
  unfold degN at hv
  have hs : ∀ k ∈ p, AtL k v → k ∈ p.filter fun k => decide (k.1 = v ∨ k.2.1 = v) := fun k hk hkv => List.mem_filter.2 ⟨hk, by simpa using (AtL.dec k v).2 hkv⟩
  have a1 := hs e he h1
  have a2 := hs f hf h2
  have a3 := hs g hg h3
  obtain ⟨x, y, hl⟩ : ∃ x y, (p.filter fun k => decide (k.1 = v ∨ k.2.1 = v)) = [x, y] := by
   generalize (p.filter fun k => decide (k.1 = v ∨ k.2.1 = v)) = l at hv; match l, hv with
   | [x, y], _ => exact ⟨x, y, rfl⟩
  rw [hl] at a1 a2 a3
  simp only [List.mem_cons, List.not_mem_nil, or_false] at a1 a2 a3
  apply hno
  rcases a1 with rfl | rfl <;> rcases a2 with rfl | rfl <;> rcases a3 with rfl | rfl <;> simp
 ·
  intro hc v hv
  have h2 := h.deg_two hv
  refine Nat.le_antisymm (Nat.le_of_not_lt fun h3 => ?_) h2
  unfold degN at h3
  obtain ⟨a, b, c, ha, hb, hcc, n1, n2, n3⟩ := three_of h3 (h.nd.filter _)
  rw [List.mem_filter] at ha hb hcc
  rcases hc v a ha.1 b hb.1 c hcc.1 ((AtL.dec a v).1 (by simpa using ha.2)) ((AtL.dec b v).1 (by simpa using hb.2)) ((AtL.dec c v).1 (by simpa using hcc.2)) with e | e | e
  · exact n1 e
  · exact n2 e
  · exact n3 e
theorem not_both (h : DPart ls p β) (hb : BondL p) (hc : CycL p) : False := by
 obtain ⟨a, b, hab⟩ := hb
 obtain ⟨x, y, z, hx, hy, hz, n1, n2, n3⟩ := three_of h.three h.nd
 have at_ : ∀ k ∈ p, AtL k a := fun k hk => (hab k hk a).2 (.inl rfl)
 rcases hc a x hx y hy z hz (at_ x hx) (at_ y hy) (at_ z hz) with e | e | e
 · exact n1 e
 · exact n2 e
 · exact n3 e
theorem kind_eq (h : DPart ls p β) (hG : Uq.Ok (grL ls)) (hR : RightL p) : kindL p = if (vertsL p).length = 2 then 2 else if allTwoL p then 1 else if (vertsL p).length < 4 then 0 else if (firstC p).2.2.1 then 0 else 3 := by
 have h2 := h.two hG hR
 have h3 := h.three
 unfold kindL
 rw [two_joined h2, first_err h2, decide_eq_false (by omega)]
 simp
theorem kind_bond (h : DPart ls p β) (hG : Uq.Ok (grL ls)) (hR : RightL p) : kindL p = 2 ↔ BondL p := by
 rw [h.kind_eq hG hR, ← h.bond_iff]
 constructor
 ·
  intro hk
  refine Classical.byContradiction fun hno => ?_
  rw [if_neg hno] at hk
  repeat' split at hk
  all_goals omega
 · intro hk; rw [if_pos hk]
theorem kind_cyc (h : DPart ls p β) (hG : Uq.Ok (grL ls)) (hR : RightL p) : kindL p = 1 ↔ CycL p := by
 rw [h.kind_eq hG hR, ← h.cyc_iff hR]
 constructor
 ·
  intro hk
  split at hk
  · omega
  ·
   split at hk
   · assumption
   ·
    repeat' split at hk
    all_goals omega
 ·
  intro hk
  rw [if_neg fun h2 => h.not_both (h.bond_iff.1 h2) ((h.cyc_iff hR).1 hk), if_pos hk]
theorem kind_some (h : DPart ls p β) (hG : Uq.Ok (grL ls)) (hR : RightL p) (hf : (firstC p).2.2.1 = false) : kindL p = 1 ∨ kindL p = 2 ∨ kindL p = 3 := by
 have h2 := h.two hG hR
 rw [h.kind_eq hG hR, hf]
 by_cases v2 : (vertsL p).length = 2
 · rw [if_pos v2]; omega
 ·
  rw [if_neg v2]
  cases ha : allTwoL p with
  | true => simp
  | false =>
   by_cases v4 : (vertsL p).length < 4
   ·
    exfalso; have hn : noneP p = true := by
     rw [noneP_iff h2]; unfold firstC at hf; rw [h2] at hf; simp only [if_true] at hf; cases hi : firstIK (pairAt p) (vertsL p).length with
     | none => exact firstIK_none hi
     | some q => rw [hi] at hf; simp at hf
    have hv := two_verts h2; have h3 := h.three; rw [want_none h2] at hn; unfold wantN rigidB at hn; rw [decide_eq_false (show ¬ p.length ≤ 2 by omega), decide_eq_false (show ¬ 4 ≤ (vertsL p).length by omega)] at hn; simp only [Bool.false_or, Bool.or_false, Bool.false_and, Bool.or_eq_true, Bool.and_eq_true, beq_iff_eq] at hn; have hv3 : (vertsL p).length = 3 ∧ p.length = 3 := by omega
    rw [all_deg hR] at ha; have : ¬ ∀ v ∈ vertsL p, degN p v = 2 := fun hall => by
     rw [List.all_eq_true.2 (fun v hv => by rw [hall v hv]; rfl)] at ha; cases ha
    apply this; intro v hv'; refine Nat.le_antisymm (Nat.le_of_not_lt fun hgt => ?_) (h.deg_two hv'); have hcn : ∀ w ∈ vertsL p, 2 ≤ (endsL p).count w := fun w hw => by
     have := h.deg_two hw; rw [← cnt_deg hR.2.1] at this; exact this
    have hc3 : 3 ≤ (endsL p).count v := by
     rw [← cnt_deg hR.2.1] at hgt; exact hgt
    have hel := ends_len p; obtain ⟨s, t, hst⟩ := List.append_of_mem hv'; have hnd := verts_nodup p; rw [hst] at hnd; have hnd2 := (List.perm_middle.nodup_iff).1 hnd; have hnd3 := List.nodup_cons.1 hnd2; have := count_two (vs := s ++ t) (l := (endsL p).filter fun x => x != v) hnd3.2 fun w hw => by
     have hne : w ≠ v := fun e => hnd3.1 (e ▸ hw); rw [List.count_filter (by simpa using hne)]; refine hcn w ?_; rw [hst]; rcases List.mem_append.1 hw with hw | hw
     · simp [hw]
     · simp [hw]
    have hls : (s ++ t).length + 1 = 3 := by
     have := congrArg List.length hst; rw [hv3.1] at this; simp at this ⊢; omega
    have hfl : ((endsL p).filter fun x => x != v).length + (endsL p).count v = (endsL p).length := by
     generalize endsL p = l; induction l with
     | nil => rfl
     | cons a l ih =>
      by_cases e : a = v
      · subst e; simp; omega
      · simp [e]; omega
    omega
   · rw [if_neg v4]; simp
end DPart
end Go.Proofs.YtagcbnpahgfgmaaGreat
namespace Go.Proofs.YtagcbnpahgfgmaaGreat
theorem bond_join {x y z : List Lk} {e : Lk} (hx : BondL x) (hy : BondL y) (hex : e ∈ x) (hey : e ∈ y) (hz : ∀ f ∈ z, f ∈ x ∨ f ∈ y) : BondL z := by
 obtain ⟨a, b, hab⟩ := hx
 obtain ⟨c, d, hcd⟩ := hy
 have key : ∀ v, (v = a ∨ v = b) ↔ (v = c ∨ v = d) := fun v => (hab e hex v).symm.trans (hcd e hey v)
 refine ⟨a, b, fun f hf v => ?_⟩
 rcases hz f hf with h | h
 · exact hab f h v
 · exact (hcd f h v).trans (key v).symm
theorem cyc_join {ls x y z : List Lk} {β γ : Lk → Al ls → Prop} (h : DPart ls x β) (k : DPart ls y γ) {e : Lk} (hex : e ∈ x) (hey : e ∈ y) (hc : ∀ m, γ e m ↔ ¬ β e m) (hx : CycL x) (hy : CycL y)
  (hz : ∀ f ∈ z, (f ∈ x ∧ f ≠ e) ∨ (f ∈ y ∧ f ≠ e)) : CycL z := by
 have mix : ∀ {f g : Lk} {v : Int}, f ∈ x → f ≠ e → g ∈ y → g ≠ e → AtL f v → AtL g v → AtL e v := fun {f g v} hf h1 hg h2 h3 h4 => by
  obtain ⟨⟨a, ha, hav⟩, _⟩ := (h.ends f hf v).2 h3
  obtain ⟨⟨b, hb, hbv⟩, _⟩ := (k.ends g hg v).2 h4
  refine (h.ends e hex v).1 ⟨⟨b, Classical.byContradiction fun hno => h2 (k.disj g hg e hey b hb ((hc b).2 hno)), hbv⟩, a, fun hx => h1 (h.disj f hf e hex a ha hx), hav⟩
 have inx : ∀ {f g : Lk} {v : Int}, f ∈ x → f ≠ e → g ∈ x → g ≠ e → AtL e v → AtL f v → AtL g v → f = g := fun {f g v} hf h1 hg h2 he h3 h4 => by
  rcases hx v e hex f hf g hg he h3 h4 with e1 | e1 | e1
  · exact absurd e1.symm h1
  · exact e1
  · exact absurd e1.symm h2
 have iny : ∀ {f g : Lk} {v : Int}, f ∈ y → f ≠ e → g ∈ y → g ≠ e → AtL e v → AtL f v → AtL g v → f = g := fun {f g v} hf h1 hg h2 he h3 h4 => by
  rcases hy v e hey f hf g hg he h3 h4 with e1 | e1 | e1
  · exact absurd e1.symm h1
  · exact e1
  · exact absurd e1.symm h2
 intro v f hf g hg l hl h1 h2 h3
 rcases hz f hf with ⟨a, a'⟩ | ⟨a, a'⟩ <;> rcases hz g hg with ⟨b, b'⟩ | ⟨b, b'⟩ <;> rcases hz l hl with ⟨c, c'⟩ | ⟨c, c'⟩
 · exact hx v f a g b l c h1 h2 h3
 · exact .inl (inx a a' b b' (mix a a' c c' h1 h3) h1 h2)
 · exact .inr (.inr (inx a a' c c' (mix a a' b b' h1 h2) h1 h3))
 · exact .inr (.inl (iny b b' c c' (mix a a' b b' h1 h2) h2 h3))
 · exact .inr (.inl (inx b b' c c' (mix b b' a a' h2 h1) h2 h3))
 · exact .inr (.inr (iny a a' c c' (mix b b' a a' h2 h1) h1 h3))
 · exact .inl (iny a a' b b' (mix c c' a a' h3 h1) h1 h2)
 · exact hy v f a g b l c h1 h2 h3
structure QD (ls : List Lk) (Q : List Pt) : Prop where
 dec : ∃ T : List (DT ls), Dec ls T ∧ (T.map fun d => d.1).Perm (Q.map fun q => q.2)
 kind : ∀ q ∈ Q, q.1 = kindL q.2 ∧ (q.1 = 1 ∨ q.1 = 2 ∨ q.1 = 3)
theorem QD.perm {ls : List Lk} {Q Q' : List Pt} (h : QD ls Q) (hp : Q.Perm Q') : QD ls Q' := by
 obtain ⟨T, h1, h2⟩ := h.dec
 exact ⟨⟨T, h1, h2.trans (hp.map _)⟩, fun q hq => h.kind q (hp.mem_iff.2 hq)⟩
theorem MStep.qd {ls : List Lk} (hG : Uq.Ok (grL ls)) (hl : ls.length ≤ 1000) {e : Lk} {Q Q' : List Pt} (hq : QI ls Q) (h : QD ls Q) (hs : MStep e Q Q') : QD ls Q' := by
 have hq' := hs.qi hl hq
 obtain ⟨x, y, R, hp, hex, hey, hk, hk3, hp'⟩ := hs
 have hxQ : x ∈ Q := hp.mem_iff.2 (by simp)
 have hyQ : y ∈ Q := hp.mem_iff.2 (by simp)
 have rx := hq.right x hxQ
 have ry := hq.right y hyQ
 have hev := (mem_virtL.1 hex).2
 have ex := dropV_erase (right_nodup rx) (mem_virtL.1 hex).1 (hq.uniq hxQ hex)
 have ey := dropV_erase (right_nodup ry) (mem_virtL.1 hey).1 (hq.uniq hyQ hey)
 have hok : ∀ k ∈ dropV e.2.2 x.2 ++ dropV e.2.2 y.2, OkL k := fun k hk => by
  rcases List.mem_append.1 hk with hk | hk
  · exact rx.2.1 k (mem_dropV.1 hk).1
  · exact ry.2.1 k (mem_dropV.1 hk).1
 have hz : (joinL x.2 y.2 e.2.2).Perm (x.2.erase e ++ y.2.erase e) := by
  have := sortL_perm (dropV e.2.2 x.2 ++ dropV e.2.2 y.2)
  rw [map_swapL hok] at this
  rw [← ex, ← ey]; exact this
 obtain ⟨T, hT, hTp⟩ := h.dec
 obtain ⟨dx, T1, hT1, hdx, hTp1⟩ := map_pick (hTp.trans (by simpa using hp.map fun q => q.2))
 obtain ⟨dy, T2, hT2, hdy, hTp2⟩ := map_pick hTp1
 have hD := hT.perm (hT1.trans (hT2.cons dx))
 have ho : ∀ d ∈ T2, e ∉ d.1 := fun d hd hm => by
  obtain ⟨q, hq1, hq2⟩ := List.mem_map.1 (hTp2.mem_iff.1 (List.mem_map_of_mem hd))
  have h2 : q.2 = d.1 := hq2
  exact hq.only hp hex hey q hq1 e (by rw [h2]; exact hm) rfl
 have hsh : ∀ f ∈ x.2, f ∈ y.2 → f = e := fun f h1 h2 => by
  by_cases hf : f.2.2 = 0
  ·
   obtain ⟨D, hTr, _⟩ := hq.tree; have hp2 : (Q.map fun q => q.2).Perm (x.2 :: y.2 :: R.map fun q => q.2) := by simpa using hp.map fun q => q.2
   have hrel := (relL_perm hp2).nodup_iff.1 hTr.rel; rw [relL_cons, relL_cons, List.nodup_append] at hrel; exact absurd rfl (hrel.2.2 f (mem_realL.2 ⟨h1, hf⟩) f (List.mem_append_left _ (mem_realL.2 ⟨h2, hf⟩)))
  · exact (hq.share hp hex hey (mem_virtL.2 ⟨h1, hf⟩) (mem_virtL.2 ⟨h2, hf⟩)).symm
 have px := hD.part dx (by simp)
 have py := hD.part dy (by simp)
 have hexd : e ∈ dx.1 := by rw [hdx]; exact (mem_virtL.1 hex).1
 have heyd : e ∈ dy.1 := by rw [hdy]; exact (mem_virtL.1 hey).1
 have hshd : ∀ f ∈ dx.1, f ∈ dy.1 → f = e := by rw [hdx, hdy]; exact hsh
 have hzd : (joinL x.2 y.2 e.2.2).Perm (dx.1.erase e ++ dy.1.erase e) := by rw [hdx, hdy]; exact hz
 have htw := hD.twin hexd heyd hev ho
 obtain ⟨B, hB⟩ := hD.join hexd heyd hev ho hshd hzd
 have pz := hB.part _ (List.mem_cons_self ..)
 have hzR : RightL (joinL x.2 y.2 e.2.2) := hq'.right (x.1, joinL x.2 y.2 e.2.2) (hp'.mem_iff.2 (by simp))
 have hmz : ∀ f ∈ joinL x.2 y.2 e.2.2, (f ∈ dx.1 ∧ f ≠ e) ∨ (f ∈ dy.1 ∧ f ≠ e) := fun f hf => by
  have h1 := hzd.mem_iff.1 hf
  rw [List.mem_append, px.nd.mem_erase_iff, py.nd.mem_erase_iff] at h1
  exact h1.imp (fun h => ⟨h.2, h.1⟩) (fun h => ⟨h.2, h.1⟩)
 have kx := h.kind x hxQ
 have ky := h.kind y hyQ
 have rxd : RightL dx.1 := by rw [hdx]; exact rx
 have ryd : RightL dy.1 := by rw [hdy]; exact ry
 have hkz : x.1 = kindL (joinL x.2 y.2 e.2.2) := by
  rcases kx.2 with h1 | h1 | h1
  ·
   have c1 := (px.kind_cyc hG rxd).1 (by rw [hdx, ← kx.1]; exact h1); have c2 := (py.kind_cyc hG ryd).1 (by rw [hdy, ← ky.1, ← hk]; exact h1); rw [h1, (pz.kind_cyc hG hzR).2 (cyc_join px py hexd heyd htw c1 c2 hmz)]
  ·
   have c1 := (px.kind_bond hG rxd).1 (by rw [hdx, ← kx.1]; exact h1); have c2 := (py.kind_bond hG ryd).1 (by rw [hdy, ← ky.1, ← hk]; exact h1); rw [h1, (pz.kind_bond hG hzR).2 (bond_join c1 c2 hexd heyd fun f hf => (hmz f hf).imp (fun h => h.1) (fun h => h.1))]
  · exact absurd h1 hk3
 refine QD.perm ⟨⟨_, hB, ?_⟩, fun q hq => ?_⟩ hp'.symm
 ·
  rw [List.map_cons, List.map_cons]
  exact hTp2.cons _
 ·
  rcases List.mem_cons.1 hq with rfl | hq
  · exact ⟨hkz, kx.2⟩
  · exact h.kind q (hp.mem_iff.2 (by simp [hq]))
theorem MTo.qd {ls : List Lk} (hG : Uq.Ok (grL ls)) (hl : ls.length ≤ 1000) {Q Q' : List Pt} (hs : MTo Q Q') : QI ls Q → QD ls Q → QD ls Q' := by
 induction hs with
 | done h => exact fun _ k => k.perm h
 | step h _ ih => exact fun k d => ih (h.qi hl k) (h.qd hG hl k d)
theorem TreeTo.qd {ls : List Lk} {T : List Pt} (h : TreeTo kindL ls T) (h2 : twoL ls = true) (hv : ∀ k ∈ ls, k.2.2 = 0) (h3 : 3 ≤ ls.length) : QD ls T ∧ MNormal T ∧ T.Pairwise LeP := by
 have hR := two_right h2
 have hG := ok_grL h2
 obtain ⟨out, n, Q, h1, hm, hn, hp, hs⟩ := h
 have hq := (h1.ok hR hv h3).qi hR.1 kindL
 obtain ⟨D, hD, hDp, hf⟩ := h1.dec h2 hv h3
 refine ⟨(hm.qd hG hR.1 hq ⟨⟨D, hD, ?_⟩, fun q hq' => ?_⟩).perm hp, hn.perm hp, hs⟩
 ·
  rw [List.map_map]
  exact hDp.trans (by rw [show ((fun q : Pt => q.2) ∘ fun p => (kindL p, p)) = id from rfl, List.map_id])
 ·
  obtain ⟨p, hp1, rfl⟩ := List.mem_map.1 hq'
  obtain ⟨d, hd, hde⟩ := List.mem_map.1 (hDp.mem_iff.2 hp1)
  have hde2 : d.1 = p := hde
  have hpR := hq.right (kindL p, p) hq'
  refine ⟨rfl, ?_⟩
  have := (hD.part d hd).kind_some hG (by rw [hde2]; exact hpR) (by rw [hde2]; exact hf p hp1)
  rw [hde2] at this
  exact this
end Go.Proofs.YtagcbnpahgfgmaaGreat
namespace Go.Proofs.YtagcbnpahgfgmaaGreat
theorem atV_map (Q : List Pt) {v : Int} (hv : v ≠ 0) : (atV v (allQ Q)).map (fun p => p.2) = (occL (Q.map fun q => q.2)).filter fun e => e.2.2 == v := by
 rw [← allQ_virt, List.filter_map, List.filter_filter]
 unfold atV
 congr 1
 refine List.filter_congr fun p _ => ?_
 by_cases h : p.2.2.2 = v
 · subst h; simp [hv]
 · simp [h]
theorem allQ_nodup {Q : List Pt} (h : ∀ q ∈ Q, q.2.Nodup) : (allQ Q).Nodup := by
 have key : ∀ i, i ≤ Q.length → (preO Q i).Nodup := by
  intro i
  induction i with
  | zero => intro _; simp [preO]
  | succ i ih =>
   intro hi; rw [preO_succ, List.nodup_append]; refine ⟨ih (by omega), ?_, fun a ha b hb e => ?_⟩
   ·
    unfold rowO; rw [List.Nodup, List.pairwise_map, lnQ_at (by omega : i < Q.length)]; exact (h _ (List.getElem_mem (by omega))).imp fun hab e => hab (congrArg Prod.snd e)
   ·
    subst e; have h1 := (mem_preO.1 ha).1; have h2 := (mem_rowO.1 hb).1; omega
 exact key _ (Nat.le_refl _)
theorem num_two {Q : List Pt} {D : List Lk} (hT : TreeP (Q.map fun q => q.2) D) {v : Int} (hv : v ≠ 0) : atV v (allQ Q) = [] ∨ ∃ e i j, e ∈ D ∧ e.2.2 = v ∧ i ≠ j ∧ atV v (allQ Q) = [(i, e), (j, e)] := by
 have hm := atV_map Q hv
 have hp := hT.occ.filter fun e => e.2.2 == v
 rw [List.filter_append, ← hm] at hp
 have hn : (D.filter fun e => e.2.2 == v).length ≤ 1 := by
  have := hT.num.count (a := v)
  have h2 : (D.map fun k => k.2.2).count v = (D.filter fun e => e.2.2 == v).length := by
   rw [List.count_eq_countP, List.countP_map, List.countP_eq_length_filter]; rfl
  rw [h2] at this
  split at this <;> omega
 have hnd : (atV v (allQ Q)).Nodup := (allQ_nodup fun q hq => hT.nd _ (List.mem_map_of_mem hq)).filter _
 obtain ⟨F, hD⟩ : ∃ F, F = D.filter fun e => e.2.2 == v := ⟨_, rfl⟩
 rw [← hD] at hp hn
 match F, hn with
 | [], _ =>
  left
  have := hp.length_eq
  simp at this
  exact this
 | [e], _ =>
  right
  have he : e ∈ D.filter fun e => e.2.2 == v := by rw [← hD]; simp
  rw [List.mem_filter] at he
  have hl := hp.length_eq
  simp only [List.length_map, List.length_append, List.length_cons, List.length_nil] at hl
  match ha : atV v (allQ Q), hl with
  | [p, q], _ =>
   rw [ha] at hp hnd; have e1 : p.2 = e := by have := hp.mem_iff.1 (show p.2 ∈ [p, q].map (fun p => p.2) by simp); simpa using this
   have e2 : q.2 = e := by have := hp.mem_iff.1 (show q.2 ∈ [p, q].map (fun p => p.2) by simp); simpa using this
   obtain ⟨i, p2⟩ := p; obtain ⟨j, q2⟩ := q; simp only at e1 e2; subst e1; subst e2; refine ⟨_, i, j, he.1, by simpa using he.2, fun e3 => ?_, rfl⟩; subst e3; simp at hnd
theorem QI.rightQ {ls : List Lk} {T : List Pt} (hq : QI ls T) (hk : ∀ q ∈ T, q.1 = kindL q.2 ∧ (q.1 = 1 ∨ q.1 = 2 ∨ q.1 = 3)) (hn : MNormal T) (hs : T.Pairwise LeP) : RightQ T := by
 obtain ⟨D, hT, hDv⟩ := hq.tree
 have hlen := hT.len
 rw [List.length_map] at hlen
 have hkd : ∀ i, i < T.length → kdQ T i = 1 ∨ kdQ T i = 2 ∨ kdQ T i = 3 := fun i hi => by rw [kdQ_at hi]; exact (hk _ (List.getElem_mem hi)).2
 have two : ∀ v, v ≠ 0 → atV v (allQ T) = [] ∨ ∃ e i j, e ∈ D ∧ e.2.2 = v ∧ i ≠ j ∧ atV v (allQ T) = [(i, e), (j, e)] := fun v hv => num_two hT hv
 have steps : ∀ {i j : Nat} {e : Lk}, i < j → e ∈ lnQ T i → e ∈ lnQ T j → e.2.2 ≠ 0 → kdQ T i ≠ kdQ T j ∨ kdQ T j = 3 := fun {i j e} hij hi hj hv => by
  have hil := lnQ_mem hi
  have hjl := lnQ_mem hj
  rw [lnQ_at hil] at hi
  rw [lnQ_at hjl] at hj
  rw [kdQ_at hil, kdQ_at hjl]
  refine Classical.byContradiction fun hno => ?_
  have hno2 : (T[i]).1 = (T[j]).1 ∧ (T[j]).1 ≠ 3 := by
   constructor
   · exact Classical.byContradiction fun h => hno (.inl h)
   · exact fun h => hno (.inr h)
  obtain ⟨R, hR⟩ := perm_two hij hjl
  exact hn e _ ⟨T[i], T[j], R, hR, mem_virtL.2 ⟨hi, hv⟩, mem_virtL.2 ⟨hj, hv⟩, hno2.1, by rw [hno2.1]; exact hno2.2, .refl _⟩
 refine ⟨fun e => ?_, fun q hq' => ?_, fun i hi => ?_, ⟨⟨?_, fun v hv => ?_⟩, fun v hv => ?_, ?_⟩, ?_⟩
 · rw [e] at hlen; simp at hlen
 ·
  have := hk q hq'
  exact ⟨by rcases this.2 with h | h | h <;> rw [h] <;> decide, this.1⟩
 · exact List.pairwise_iff_getElem.1 hs i (i + 1) (by omega) hi (by omega)
 ·
  have := allQ_real T
  unfold realsO
  rw [this]
  exact hT.rel
 ·
  rcases two v hv with h | ⟨e, i, j, he, hev, hij, h⟩
  · rw [h]; rfl
  ·
   rw [h]; have mi : e ∈ lnQ T i := mem_allQ.1 (mem_atV.1 (show (i, e) ∈ atV v (allQ T) by rw [h]; simp)).1; have mj : e ∈ lnQ T j := mem_allQ.1 (mem_atV.1 (show (j, e) ∈ atV v (allQ T) by rw [h]; simp)).1; have hkk : kdQ T i ≠ kdQ T j ∨ kdQ T j = 3 := by
    rcases Nat.lt_or_gt_of_ne hij with hlt | hlt
    · exact steps hlt mi mj (by rw [hev]; exact hv)
    ·
     rcases steps hlt mj mi (by rw [hev]; exact hv) with h1 | h1
     · exact .inl fun e => h1 e.symm
     ·
      by_cases h2 : kdQ T j = 3
      · exact .inr h2
      · exact .inl fun e => h2 (e ▸ h1)
   simp only [pairB, Bool.and_eq_true, Bool.or_eq_true, decide_eq_true_eq]; exact ⟨trivial, hij, hkk⟩
 ·
  rcases two v hv with h | ⟨e, i, j, he, hev, hij, h⟩
  · left; rw [h]; rfl
  · right; rw [h]; rfl
 ·
  have hmem : ∀ v, v ∈ numsO (allQ T) ↔ v ∈ D.map fun k => k.2.2 := fun v => by
   rw [mem_numsO, List.mem_map]; constructor
   ·
    rintro ⟨hv, p, hp, hpv⟩; refine ⟨p.2, hT.memD.2 (mem_occL.2 ⟨lnQ T p.1, ?_, mem_allQ.1 hp, by rw [hpv]; exact hv⟩), hpv⟩; have hl := lnQ_mem (mem_allQ.1 hp); rw [lnQ_at hl]; exact List.mem_map_of_mem (List.getElem_mem hl)
   ·
    rintro ⟨e, he, rfl⟩; obtain ⟨x, hx, hex, hev⟩ := mem_occL.1 (hT.memD.1 he); obtain ⟨q, hq', rfl⟩ := List.mem_map.1 hx; obtain ⟨i, hi, rfl⟩ := List.getElem_of_mem hq'; exact ⟨hev, (i, e), mem_allQ.2 (by rw [lnQ_at hi]; exact hex), rfl⟩
  have l1 := nodup_len_leZ (numsO_nodup (allQ T)) fun x hx => (hmem x).1 hx
  have l2 := nodup_len_leZ hT.num fun x hx => (hmem x).2 hx
  rw [List.length_map] at l1 l2
  omega
 ·
  intro j hj
  refine Classical.byContradiction fun hno => ?_
  obtain ⟨r, hr⟩ : ∃ r : Nat → Bool, r = fun i => @decide (Con (nbQ T) (· < T.length) 0 i) (Classical.propDecidable _) := ⟨_, rfl⟩
  have hr1 : ∀ i, r i = true ↔ Con (nbQ T) (· < T.length) 0 i := fun i => by rw [hr]; simp
  have hperm : (T.map fun q => q.2).Perm (((List.range T.length).filter r).map (lnQ T) ++ ((List.range T.length).filter fun i => !r i).map (lnQ T)) := by
   rw [RightQ.links_range, ← List.map_append]; exact (List.filter_append_perm _ _).symm.map _
  have h0 : 0 < T.length := by omega
  have m0 : (0 : Nat) ∈ (List.range T.length).filter r := List.mem_filter.2 ⟨List.mem_range.2 h0, (hr1 0).2 (.refl h0)⟩
  have mj : j ∈ (List.range T.length).filter fun i => !r i := List.mem_filter.2 ⟨List.mem_range.2 hj, by
   cases hrj : r j with
   | false => rfl
   | true => exact absurd ((hr1 j).1 hrj) hno⟩
  obtain ⟨e, he1, he2⟩ := hT.con _ _ hperm (by
   intro e; rw [List.map_eq_nil_iff] at e
   rw [e] at m0; simp at m0) (by
   intro e; rw [List.map_eq_nil_iff] at e
   rw [e] at mj; simp at mj)
  obtain ⟨x, hx, hex, hev⟩ := mem_occL.1 he1
  obtain ⟨y, hy, hey, _⟩ := mem_occL.1 he2
  obtain ⟨a, ha, rfl⟩ := List.mem_map.1 hx
  obtain ⟨b, hb, rfl⟩ := List.mem_map.1 hy
  rw [List.mem_filter, List.mem_range] at ha hb
  have hca := (hr1 a).1 ha.2
  have hnb : ¬ Con (nbQ T) (· < T.length) 0 b := fun hc => by
   have h3 := (hr1 b).2 hc; have h4 := hb.2; simp [h3] at h4
  have hab : a ≠ b := fun e => hnb (e ▸ hca)
  exact hnb (hca.step (mem_nbQ.2 (adjQ_iff.2 ⟨hab, e, e, hex, hey, hev, rfl⟩)) hb.1)
theorem TreeTo.rightQ {ls : List Lk} {T : List Pt} (h : TreeTo kindL ls T) (h2 : twoL ls = true) (hv : ∀ k ∈ ls, k.2.2 = 0) (h3 : 3 ≤ ls.length) : RightQ T := by
 obtain ⟨h4, h5, h6⟩ := h.qd h2 hv h3
 exact (h.qi (two_right h2) hv h3).rightQ h4.kind h5 h6
end Go.Proofs.YtagcbnpahgfgmaaGreat
namespace Go.Proofs.YtagcbnpahgfgmaaGreat
open Go Go.RowKit Go.ChangeShapes Go.WideShapes Go.ChangeAt Go.Joins Go.Deep
theorem rowOwn : ownKnob Tryz.prog.godebug = none := by kernel_rfl
theorem rowLaid : laidOutB Tryz.prog = true := by kernel_rfl
theorem rowInt : Tryz.prog.cellsOf 3 = 1 := by kernel_rfl
theorem rowLink : Tryz.prog.cellsOf 38 = 3 := by kernel_rfl
theorem no_far {w : World} {b o : Nat} {s : Option Nat} {x : Value} (h : w.cell? ⟨b, o, s⟩ = some x) : s = none := by
 cases s with
 | none => rfl
 | some k =>
  exfalso
  simp only [World.cell?] at h
  split at h <;> simp at h
section
variable {H : Type} {enc : TypeId × Value → H} {W : World} {base fuel : Nat} {spare : Nat → Bool} {held : Bool}
set_option maxRecDepth 100000 in
theorem link_of {cs : List Value} {x : DataW H × List MemPlace} (h : DataW.trod enc Tryz.prog W base spare held fuel 38 cs = some x) :
  ∃ k : Lk, cs = [.int .i64 k.1, .int .i64 k.2.1, .int .i64 k.2.2] ∧ WfZ k.1 ∧ WfZ k.2.1 ∧ WfZ k.2.2 := by
 obtain ⟨xs, n, rfl, rfl, hl, hx, hi⟩ := DataW.trod_struct Tryz.underlying38 h
 rw [rowLink] at hl
 match cs, hl with
 | [u, v, t], _ =>
  have h0 : DataW.trod enc Tryz.prog W base spare held n 3 [u] = xs[0]? := by have := hi 0 _ rfl; simpa [rowInt] using this
  have h1 : DataW.trod enc Tryz.prog W base spare held n 3 [v] = xs[1]? := by have := hi 1 _ rfl; simpa [rowInt] using this
  have h2 : DataW.trod enc Tryz.prog W base spare held n 3 [t] = xs[2]? := by have := hi 2 _ rfl; simpa [rowInt] using this
  simp at hx
  rw [List.getElem?_eq_getElem (by omega)] at h0 h1 h2
  obtain ⟨a, e0, _, w0⟩ := DataW.trod_int Tryz.underlying3 h0
  obtain ⟨b, e1, _, w1⟩ := DataW.trod_int Tryz.underlying3 h1
  obtain ⟨c, e2, _, w2⟩ := DataW.trod_int Tryz.underlying3 h2
  simp at e0 e1 e2
  exact ⟨(a, b, c), by rw [e0, e1, e2], w0, w1, w2⟩
set_option maxRecDepth 100000 in
theorem open_links {r : Reach} {b0 : Nat} {v : Value} {d : DataW H} {p : List MemPlace} (hv : Value.okWide Tryz.prog W r b0 22 v) (h : DataW.Trod enc Tryz.prog W base spare held 22 v d p) :
  ∃ (a : Option Addr) (cap : Nat) (ls : List Lk), v = .slice a ls.length cap ∧ RdL W a ls ∧ ls.length ≤ cap ∧ cap ≤ maxLen ∧ ∀ k ∈ ls, WfZ k.1 ∧ WfZ k.2.1 ∧ WfZ k.2.2 := by
 obtain ⟨fuel, hf⟩ := h
 obtain ⟨a1, l1, c1, rfl⟩ := okWide_slice Tryz.underlying22 hv
 rcases open_slice Tryz.underlying22 hf with ⟨e, _⟩ | ⟨a, len, cap, m, n, D, Pl, e, _, hl, hm, hmm, _, hx⟩
 ·
  simp [Value.cells] at e
  obtain ⟨rfl, rfl, rfl⟩ := e
  exact ⟨none, 0, [], rfl, rdL_nil _ _, by simp, by unfold maxLen; omega, fun k hk => by simp at hk⟩
 ·
  simp [Value.cells] at e
  obtain ⟨rfl, rfl, rfl⟩ := e
  have hle : l1 ≤ m := by rw [hmm]; split <;> omega
  have hp : ∀ i, i < l1 → ∃ k : Lk, (W.cell? (a.add (i * 3)) = some (.int .i64 k.1) ∧ W.cell? ((a.add (i * 3)).add 1) = some (.int .i64 k.2.1) ∧ W.cell? ((a.add (i * 3)).add 2) = some (.int .i64 k.2.2)) ∧ WfZ k.1 ∧ WfZ k.2.1 ∧ WfZ k.2.2 := by
   intro i hi; obtain ⟨cs', h1, h2⟩ := hx i (by omega); rw [rowLink] at h1; obtain ⟨k, rfl, hw⟩ := link_of h2; obtain ⟨_, _, h5⟩ := World.cells?_some h1; exact ⟨k, ⟨by simpa [Addr.add] using h5 0 (by omega), by simpa using h5 1 (by omega), by simpa using h5 2 (by omega)⟩, hw⟩
  obtain ⟨f, hf2⟩ := choose_lt (p := fun i (k : Lk) => (W.cell? (a.add (i * 3)) = some (.int .i64 k.1) ∧ W.cell? ((a.add (i * 3)).add 1) = some (.int .i64 k.2.1) ∧ W.cell? ((a.add (i * 3)).add 2) = some (.int .i64 k.2.2)) ∧ WfZ k.1 ∧ WfZ k.2.1 ∧ WfZ k.2.2) hp
  refine ⟨some a, c1, (List.range l1).map f, by simp, ?_, by simpa using hl, hm, ?_⟩
  ·
   intro i u hu; have hi := (List.getElem?_eq_some_iff.1 hu).1; rw [lkCells_length] at hi; simp only [List.length_map, List.length_range] at hi; have hk : i / 3 < l1 := by omega
   obtain ⟨b, o, sp⟩ := a; obtain ⟨⟨h1, h2, h3⟩, _⟩ := hf2 (i / 3) hk; have hsp : sp = none := by
    obtain ⟨⟨h1, _⟩, _⟩ := hf2 0 (by omega); have h2 : W.cell? ⟨b, o, sp⟩ = some (.int .i64 (f 0).1) := by simpa [Addr.add] using h1
    exact no_far h2
   subst hsp; refine ⟨b, o, rfl, ?_⟩; obtain ⟨g1, g2, g3⟩ := lkCells_get ((List.range l1).map f) (i / 3) (by simpa using hk); simp only [List.getElem_map, List.getElem_range] at g1 g2 g3; rw [Addr.add_lit] at h1 h2 h3; rw [Addr.add_lit] at h2 h3; have hmod : i % 3 = 0 ∨ i % 3 = 1 ∨ i % 3 = 2 := by omega
   rcases hmod with h | h | h
   ·
    rw [show i / 3 * 3 = i by omega] at g1 h1; rw [g1] at hu; cases hu; exact h1
   ·
    rw [show i / 3 * 3 + 1 = i by omega] at g2; rw [g2] at hu; cases hu; rw [show o + i = o + i / 3 * 3 + 1 by omega]; exact h2
   ·
    rw [show i / 3 * 3 + 2 = i by omega] at g3; rw [g3] at hu; cases hu; rw [show o + i = o + i / 3 * 3 + 2 by omega]; exact h3
  ·
   intro k hk; obtain ⟨i, hi, rfl⟩ := List.mem_map.1 hk; exact (hf2 i (List.mem_range.1 hi)).2
end
end Go.Proofs.YtagcbnpahgfgmaaGreat
namespace Go.Proofs.YtagcbnpahgfgmaaGreat
open Go Go.RowKit Go.ChangeShapes Go.WideShapes Go.ChangeAt Go.Joins Go.Deep
theorem twoR_facts {ls : List Lk} (h : twoR ls = true) : twoL ls = true ∧ (∀ k ∈ ls, k.2.2 = 0) ∧ 3 ≤ ls.length ∧ wantT ls = true ∧ ls.length ≤ 40 := by
 unfold twoR at h
 simp only [Bool.and_eq_true, Bool.not_eq_true', decide_eq_true_eq] at h
 obtain ⟨h1, h2, h3, h4⟩ := h
 refine ⟨h3, fun k hk => ?_, three_links h3 h4, ?_, h2⟩
 ·
  have := List.any_eq_false.1 h1 k hk
  simpa using this
 ·
  unfold wantT
  rw [h3, h1, decide_eq_true h4]; rfl
theorem TreeTo.few {ls : List Lk} {T : List Pt} (h : TreeTo kindL ls T) (hR : RightL ls) (hv : ∀ k ∈ ls, k.2.2 = 0) (h3 : 3 ≤ ls.length) : T.length ≤ 1000 := by
 have h1 := (h.qi hR hv h3).len
 have := hR.1
 omega
end Go.Proofs.YtagcbnpahgfgmaaGreat
