/- Links that no pair parts. No program in sight. -/
import Derived.Test.YtagjakgbmmbmhaaPaT
namespace Go.Proofs.Ytagjakgbmmbmhaa

theorem least {P : Nat → Prop} {n : Nat} (h : P n) : ∃ m, P m ∧ m ≤ n ∧ ∀ k, k < m → ¬ P k := by
  induction n using Nat.strongRecOn with
  | _ n ih =>
    by_cases hk : ∃ k, k < n ∧ P k
    · obtain ⟨k, hk, hp⟩ := hk
      obtain ⟨m, h1, h2, h3⟩ := ih k hk hp
      exact ⟨m, h1, by omega, h3⟩
    · exact ⟨n, h, Nat.le_refl _, fun k hkn hp => hk ⟨k, hkn, hp⟩⟩
theorem first_ex {B : Nat → Nat → Bool} {n i k : Nat} (hik : i < k) (hk : k < n) (hb : B i k = true) : ∃ i' k', FirstAt B n i' k' := by
  obtain ⟨i', ⟨k1, h1, h2, h3⟩, _, hmin⟩ := least (P := fun i => ∃ k, i < k ∧ k < n ∧ B i k = true) ⟨k, hik, hk, hb⟩
  obtain ⟨k', ⟨h4, h5, h6⟩, _, hmin2⟩ := least (P := fun k => i' < k ∧ k < n ∧ B i' k = true) ⟨h1, h2, h3⟩
  refine ⟨i', k', h4, h5, h6, fun k2 a1 a2 => ?_, fun i2 k2 a1 a2 a3 => ?_⟩
  · cases h : B i' k2 with
    | false => rfl
    | true => exact absurd ⟨a1, by omega, h⟩ (hmin2 k2 a2)
  · cases h : B i2 k2 with
    | false => rfl
    | true => exact absurd ⟨k2, a2, a3, h⟩ (hmin i2 a1)
/-- no pair parts -/
noncomputable def noneP (ls : List Lk) : Bool := !(firstL ls).2.2.1 && (firstL ls).2.2.2 == 0
theorem noneP_iff {ls : List Lk} (h : twoL ls = true) : noneP ls = true ↔ ∀ i k, i < k → k < (vertsL ls).length → pairAt ls i k = false := by
  unfold noneP
  constructor
  · intro hn i k hik hk
    cases hb : pairAt ls i k with
    | false => rfl
    | true =>
      obtain ⟨i', k', hf⟩ := first_ex hik hk hb
      rw [first_at h hf] at hn; simp at hn
  · intro hn
    rw [first_none h hn]; rfl
theorem noneP_v {ls : List Lk} (h : twoL ls = true) : noneP ls = true ↔ ∀ x y, x ∈ vertsL ls → y ∈ vertsL ls → x < y → pairP ls x y = false := by
  rw [noneP_iff h]
  have hs := vertsL_sorted ls
  constructor
  · intro hn x y hx hy hxy
    obtain ⟨i, hi, rfl⟩ := List.getElem_of_mem hx
    obtain ⟨k, hk, rfl⟩ := List.getElem_of_mem hy
    have hik : i < k := by
      rcases Nat.lt_trichotomy i k with e | e | e
      · exact e
      · subst e; omega
      · have := List.pairwise_iff_getElem.1 hs k i hk hi e; omega
    have := hn i k hik hk
    unfold pairAt at this
    simpa [List.getD, hi, hk] using this
  · intro hn i k hik hk
    unfold pairAt
    have hi : i < (vertsL ls).length := by omega
    have := hn _ _ (List.getElem_mem hi) (List.getElem_mem hk) (List.pairwise_iff_getElem.1 hs i k hi hk hik)
    simpa [List.getD, hi, hk] using this
/-- three links are parted by no pair -/
theorem none_few {ls : List Lk} (h : twoL ls = true) (h3 : ls.length ≤ 3) : noneP ls = true := by
  rw [noneP_v h]
  intro x y _ _ _
  have hR := two_right h
  cases hb : pairP ls x y with
  | false => rfl
  | true =>
    obtain ⟨i, k, _, _, h1, h2⟩ := (parts_ref _ (lens_pos hR)).1 hb
    rw [lens_sum hR] at h2; omega
theorem pairP_false {ls : List Lk} {a b : Int} (h : twoL ls = true) (h3 : 3 ≤ (vertsL ls).length) : pairP ls a b = false ↔ ¬ SplitV ls a b ∧ (dirsL ls a b).length ≤ 1 := by
  have := pair_iff (a := a) (b := b) h h3
  constructor
  · intro hf
    rw [hf] at this
    have hn : SplitV ls a b ∨ 2 ≤ (dirsL ls a b).length → False := fun e => by have := this.2 e; simp at this
    exact ⟨fun e => hn (.inl e), Nat.le_of_not_lt fun e => hn (.inr e)⟩
  · rintro ⟨h1, h2⟩
    cases hb : pairP ls a b with
    | false => rfl
    | true =>
      rcases this.1 hb with e | e
      · exact absurd e h1
      · omega

/-! ### three vertices -/
theorem tri_sum {v0 v1 v2 : Int} (h01 : v0 ≠ v1) (h02 : v0 ≠ v2) (h12 : v1 ≠ v2) : ∀ ls : List Lk, (∀ k ∈ ls, k.1 ∈ [v0, v1, v2] ∧ k.2.1 ∈ [v0, v1, v2] ∧ k.1 ≠ k.2.1) →
    ls.length = (dirsL ls v0 v1).length + (dirsL ls v0 v2).length + (dirsL ls v1 v2).length := by
  intro ls
  induction ls with
  | nil => intro _; rfl
  | cons k ls ih =>
    intro hk
    have ih' := ih fun k hk' => hk k (by simp [hk'])
    obtain ⟨k1, k2, k3⟩ := hk k (by simp)
    have hc : ∀ a b, (dirsL (k :: ls) a b).length = (if DirL a b k then 1 else 0) + (dirsL ls a b).length := fun a b => by
      unfold dirsL
      rw [List.filter_cons]
      by_cases h : DirL a b k <;> simp [h]; omega
    rw [hc, hc, hc, List.length_cons]
    have hone : (if DirL v0 v1 k then 1 else 0) + (if DirL v0 v2 k then 1 else 0) + (if DirL v1 v2 k then 1 else 0) = 1 := by
      unfold DirL
      simp only [List.mem_cons, List.not_mem_nil, or_false] at k1 k2 ⊢
      obtain ⟨p, q, z⟩ := k
      simp only at k1 k2 k3 ⊢
      rcases k1 with rfl | rfl | rfl <;> rcases k2 with rfl | rfl | rfl <;> first | exact absurd rfl k3 | (simp [h01, h02, h12, h01.symm, h02.symm, h12.symm])
    omega
theorem none_three {ls : List Lk} (h : twoL ls = true) (h3 : (vertsL ls).length = 3) : noneP ls = true ↔ ls.length = 3 := by
  have hR := two_right h
  have hs := vertsL_sorted ls
  match hv : vertsL ls, h3 with
  | [v0, v1, v2], _ =>
    rw [hv] at hs
    simp at hs
    have hm := fun z => mem_vertsL ls z
    rw [hv] at hm
    have hsum := tri_sum (v0 := v0) (v1 := v1) (v2 := v2) (by omega) (by omega) (by omega) ls fun k hk => ⟨(hm _).2 ⟨k, hk, .inl rfl⟩, (hm _).2 ⟨k, hk, .inr rfl⟩, by have := (hR.2.1 k hk).2.1; omega⟩
    have hin : ∀ z, z ∈ [v0, v1, v2] → z ∈ vertsL ls := fun z hz => by rw [hv]; exact hz
    have hge : ∀ x y z, x ∈ [v0, v1, v2] → y ∈ [v0, v1, v2] → z ∈ [v0, v1, v2] → x ≠ y → x ≠ z → y ≠ z → (∀ t, t ∈ [v0, v1, v2] → t ≠ z → t ∈ [x, y]) → 1 ≤ (dirsL ls x y).length := by
      intro x y z hx hy hz hxy hxz hyz hrest
      have hc := two_con1 h (by rw [hv]; simp) (hin z hz) (hin x hx) (hin y hy) hxz hyz
      cases hc with
      | refl => exact absurd rfl hxy
      | step _c0 h1 h2 h3 h4 =>
        rename_i k
        have e1 := hrest k.1 ((hm _).2 ⟨k, h1, .inl rfl⟩) (by simpa using h2)
        have e2 := hrest k.2.1 ((hm _).2 ⟨k, h1, .inr rfl⟩) (by simpa using h3)
        exact List.length_pos_of_mem (List.mem_filter.2 ⟨h1, by simpa [DirL] using ⟨by simpa using e1, by simpa using e2⟩⟩)
    have g01 := hge v0 v1 v2 (by simp) (by simp) (by simp) (by omega) (by omega) (by omega) (by intro t ht hn; simp at ht ⊢; omega)
    have g02 := hge v0 v2 v1 (by simp) (by simp) (by simp) (by omega) (by omega) (by omega) (by intro t ht hn; simp at ht ⊢; omega)
    have g12 := hge v1 v2 v0 (by simp) (by simp) (by simp) (by omega) (by omega) (by omega) (by intro t ht hn; simp at ht ⊢; omega)
    have hns : ∀ x y z, x ∈ [v0, v1, v2] → y ∈ [v0, v1, v2] → (∀ t, t ∈ [v0, v1, v2] → t ∉ [x, y] → t = z) → ¬ SplitV ls x y := by
      rintro x y z hx hy hrest ⟨s, t, hs', ht', hsn, htn, hc⟩
      rw [hv] at hs' ht'
      have e1 := hrest s hs' hsn
      have e2 := hrest t ht' htn
      rw [e1, e2] at hc
      exact hc .refl
    have n01 := hns v0 v1 v2 (by simp) (by simp) (by intro t ht hn; simp at ht hn; omega)
    have n02 := hns v0 v2 v1 (by simp) (by simp) (by intro t ht hn; simp at ht hn; omega)
    have n12 := hns v1 v2 v0 (by simp) (by simp) (by intro t ht hn; simp at ht hn; omega)
    have h3' : 3 ≤ (vertsL ls).length := by rw [hv]; simp
    rw [noneP_v h]
    constructor
    · intro hn
      have d01 := ((pairP_false h h3').1 (hn v0 v1 (hin _ (by simp)) (hin _ (by simp)) (by omega))).2
      have d02 := ((pairP_false h h3').1 (hn v0 v2 (hin _ (by simp)) (hin _ (by simp)) (by omega))).2
      have d12 := ((pairP_false h h3').1 (hn v1 v2 (hin _ (by simp)) (hin _ (by simp)) (by omega))).2
      omega
    · intro hl x y hx hy hxy
      rw [hv] at hx hy
      rw [pairP_false h h3']
      simp only [List.mem_cons, List.not_mem_nil, or_false] at hx hy
      rcases hx with rfl | rfl | rfl <;> rcases hy with rfl | rfl | rfl <;> first | omega | exact ⟨by assumption, by omega⟩

/-! ### four or more -/
def leftL (ls : List Lk) (x y : Int) : List Lk := ls.filter fun e => decide (e.1 ≠ x) && decide (e.1 ≠ y) && decide (e.2.1 ≠ x) && decide (e.2.1 ≠ y)
theorem mem_left {ls : List Lk} {x y : Int} {e : Lk} : e ∈ leftL ls x y ↔ e ∈ ls ∧ e.1 ∉ [x, y] ∧ e.2.1 ∉ [x, y] := by
  unfold leftL
  rw [List.mem_filter]
  simp [and_assoc]
def okP (ls : List Lk) (x y : Int) : Bool := ((vertsL ls).length == 4 && (leftL ls x y).length == 1) || (((vertsL (leftL ls x y)).length == (vertsL ls).length - 2) && joinedL (leftL ls x y))
theorem joined_iff {l : List Lk} (hR : RightL l) (hne : l ≠ []) : joinedL l = true ↔ ∀ u v, u ∈ vertsL l → v ∈ vertsL l → VCon l [] u v := by
  unfold joinedL
  rw [beq_iff_eq, groups_one_v ((rightL_iff l).2 hR) hne (by simp)]
  simp
theorem joined_ne {l : List Lk} (h : joinedL l = true) : l ≠ [] := fun e => by subst e; exact absurd h (by decide)
theorem len_sub2 {vs : List Int} (hn : vs.Nodup) {x y : Int} (hx : x ∈ vs) (hy : y ∈ vs) (hxy : x ≠ y) : ((vs.filter fun z => decide (z ∉ [x, y])).length + 2) = vs.length := by
  have h1 : (vs.filter fun z => decide (z ∉ [x, y])).length + (vs.filter fun z => !decide (z ∉ [x, y])).length = vs.length := by
    clear hn hx hy
    induction vs with
    | nil => rfl
    | cons v vs ih =>
      rw [List.filter_cons, List.filter_cons, List.length_cons]
      by_cases h : v ∉ [x, y]
      · simp only [h, not_false_eq_true, decide_true, if_true, Bool.not_true, Bool.false_eq_true, if_false, List.length_cons]; omega
      · simp only [h, decide_false, Bool.false_eq_true, if_false, Bool.not_false, if_true, List.length_cons]; omega
  have h2 : (vs.filter fun z => !decide (z ∉ [x, y])).length = 2 := by
    have hl : (vs.filter fun z => !decide (z ∉ [x, y])).Nodup := hn.filter _
    have e1 := nodup_len_leZ (m := [x, y]) hl fun z hz => by
      have := (List.mem_filter.1 hz).2
      simpa using this
    have e2 := nodup_len_leZ (l := [x, y]) (m := vs.filter fun z => !decide (z ∉ [x, y])) (by simpa using hxy) fun z hz => by
      rw [List.mem_filter]
      refine ⟨?_, by simpa using hz⟩
      simp at hz
      rcases hz with rfl | rfl <;> assumption
    have e3 : [x, y].length = 2 := rfl
    omega
  omega
theorem ok_iff {ls : List Lk} (h : twoL ls = true) (h4 : 4 ≤ (vertsL ls).length) {x y : Int} (hx : x ∈ vertsL ls) (hy : y ∈ vertsL ls) (hxy : x ≠ y) : okP ls x y = true ↔ ¬ SplitV ls x y := by
  have hR := two_right h
  have hlR : RightL (leftL ls x y) := right_sub hR List.filter_sublist
  have hfl := len_sub2 (verts_nodup ls) hx hy hxy
  obtain ⟨F, hF⟩ : ∃ F, F = (vertsL ls).filter fun z => decide (z ∉ [x, y]) := ⟨_, rfl⟩
  rw [← hF] at hfl
  have hFn : F.Nodup := by rw [hF]; exact (verts_nodup ls).filter _
  have hFm : ∀ z, z ∈ F ↔ z ∈ vertsL ls ∧ z ∉ [x, y] := fun z => by rw [hF, List.mem_filter]; simp
  have hsub : ∀ z, z ∈ vertsL (leftL ls x y) → z ∈ F := fun z hz => by
    obtain ⟨e, he, hze⟩ := (mem_vertsL _ z).1 hz
    obtain ⟨h1, h2, h3⟩ := mem_left.1 he
    refine (hFm z).2 ⟨(mem_vertsL _ z).2 ⟨e, h1, hze⟩, ?_⟩
    rcases hze with rfl | rfl <;> assumption
  constructor
  · rintro hok ⟨s, t, hs, ht, hsn, htn, hc⟩
    have hsF := (hFm s).2 ⟨hs, hsn⟩
    have htF := (hFm t).2 ⟨ht, htn⟩
    unfold okP at hok
    rw [Bool.or_eq_true, Bool.and_eq_true, Bool.and_eq_true, beq_iff_eq, beq_iff_eq, beq_iff_eq] at hok
    rcases hok with ⟨e4, e1⟩ | ⟨e1, e2⟩
    · obtain ⟨e, he⟩ := List.length_eq_one_iff.1 e1
      have hem : e ∈ leftL ls x y := by rw [he]; simp
      obtain ⟨h1, h2, h3⟩ := mem_left.1 hem
      have hlt := (hR.2.1 e h1).2.1
      have a1 := (hFm e.1).2 ⟨(mem_vertsL _ _).2 ⟨e, h1, .inl rfl⟩, h2⟩
      have a2 := (hFm e.2.1).2 ⟨(mem_vertsL _ _).2 ⟨e, h1, .inr rfl⟩, h3⟩
      have hall : ∀ z, z ∈ F → z = e.1 ∨ z = e.2.1 := fun z hz => by
        refine Classical.byContradiction fun hno => ?_
        have := nodup_len_leZ (l := [e.1, e.2.1, z]) (m := F) (by
          simp
          refine ⟨⟨by omega, fun e => hno (.inl e.symm)⟩, fun e => hno (.inr e.symm)⟩) fun w hw => by
            simp at hw
            rcases hw with rfl | rfl | rfl <;> assumption
        simp at this; omega
      have hlk := VCon.link h1 h2 h3
      rcases hall s hsF with rfl | rfl <;> rcases hall t htF with rfl | rfl
      · exact hc .refl
      · exact hc hlk
      · exact hc hlk.symm
      · exact hc .refl
    · have hback : ∀ z, z ∈ F → z ∈ vertsL (leftL ls x y) := fun z hz => by
        refine Classical.byContradiction fun hno => ?_
        have := nodup_len_leZ (l := z :: vertsL (leftL ls x y)) (m := F) (List.nodup_cons.2 ⟨hno, verts_nodup _⟩) fun w hw => by
          rcases List.mem_cons.1 hw with rfl | hw
          · exact hz
          · exact hsub w hw
        simp at this; omega
      have hj := (joined_iff hlR (joined_ne e2)).1 e2 s t (hback s hsF) (hback t htF)
      refine hc ?_
      have conv : ∀ w, VCon (leftL ls x y) [] s w → VCon ls [x, y] s w := fun w hw => by
        induction hw with
        | refl => exact .refl
        | step _c0 h1 h2 h3 h4 ih =>
          obtain ⟨b1, b2, b3⟩ := mem_left.1 h1
          exact ih.step b1 b2 b3 h4
      exact conv t hj
  · intro hns
    have hcon : ∀ s t, s ∈ F → t ∈ F → VCon ls [x, y] s t := fun s t hs ht => Classical.byContradiction fun hc => hns ⟨s, t, ((hFm s).1 hs).1, ((hFm t).1 ht).1, ((hFm s).1 hs).2, ((hFm t).1 ht).2, hc⟩
    have hback : ∀ z, z ∈ F → z ∈ vertsL (leftL ls x y) := fun z hz => by
      have hex : ∃ w ∈ F, w ≠ z := by
        refine Classical.byContradiction fun hno => ?_
        have := nodup_len_leZ (l := F) (m := [z]) hFn fun w hw => by
          simp
          exact Classical.byContradiction fun e => hno ⟨w, hw, e⟩
        simp at this; omega
      obtain ⟨w, hw, hwz⟩ := hex
      have := hcon w z hw hz
      cases this with
      | refl => exact absurd rfl hwz
      | step _c0 h1 h2 h3 h4 =>
        rename_i k
        refine (mem_vertsL _ z).2 ⟨k, mem_left.2 ⟨h1, h2, h3⟩, ?_⟩
        rcases h4 with ⟨_, e⟩ | ⟨_, e⟩ <;> first | exact .inr e | exact .inl e
    have e1 : (vertsL (leftL ls x y)).length + 2 = (vertsL ls).length := by
      have a1 := nodup_len_leZ (verts_nodup (leftL ls x y)) hsub
      have a2 := nodup_len_leZ hFn hback
      omega
    have hne : leftL ls x y ≠ [] := fun e => by
      rw [e, show (vertsL []).length = 0 from rfl] at e1
      omega
    have e2 : joinedL (leftL ls x y) = true := (joined_iff hlR hne).2 fun u v hu hv => by
      have hc := hcon u v (hsub u hu) (hsub v hv)
      have conv : ∀ w, VCon ls [x, y] u w → VCon (leftL ls x y) [] u w := fun w hw => by
        induction hw with
        | refl => exact .refl
        | step _c0 h1 h2 h3 h4 ih => exact ih.step (mem_left.2 ⟨h1, h2, h3⟩) (by simp) (by simp) h4
      exact conv v hc
    unfold okP
    rw [e2]
    have : (vertsL (leftL ls x y)).length = (vertsL ls).length - 2 := by omega
    simp [this]
/-- two links side by side -/
def sameB (ls : List Lk) (i k : Nat) : Bool := match ls[i]?, ls[k]? with
  | some e, some f => e.1 == f.1 && e.2.1 == f.2.1
  | _, _ => false
def sideB (ls : List Lk) : Bool := (List.range ls.length).any fun i => (List.range i).any fun k => sameB ls i k
theorem side_iff {ls : List Lk} (h : twoL ls = true) : sideB ls = false ↔ ∀ x y, x ∈ vertsL ls → y ∈ vertsL ls → x < y → (dirsL ls x y).length ≤ 1 := by
  have hR := two_right h
  have hnd := right_nodup hR
  constructor
  · intro hs x y hx hy hxy
    refine Nat.le_of_not_lt fun h2 => ?_
    obtain ⟨e, f, he, hf, hfe, hde, hdf⟩ := dirs_two h2 hnd
    obtain ⟨i, hi⟩ := List.getElem?_of_mem he
    obtain ⟨k, hk⟩ := List.getElem?_of_mem hf
    have l1 := (hR.2.1 e he).2.1
    have l2 := (hR.2.1 f hf).2.1
    unfold DirL at hde hdf
    simp only [List.mem_cons, List.not_mem_nil, or_false] at hde hdf
    have q1 : e.1 = f.1 ∧ e.2.1 = f.2.1 := by omega
    have hne : i ≠ k := fun e2 => by subst e2; rw [hi] at hk; exact hfe (Option.some.inj hk).symm
    have hil := (List.getElem?_eq_some_iff.1 hi).1
    have hkl := (List.getElem?_eq_some_iff.1 hk).1
    have hany : ∀ a b, a < ls.length → b < a → sameB ls a b = true → sideB ls = true := fun a b ha hb hab => by
      unfold sideB
      exact List.any_eq_true.2 ⟨a, List.mem_range.2 ha, List.any_eq_true.2 ⟨b, List.mem_range.2 hb, hab⟩⟩
    rcases Nat.lt_or_gt_of_ne hne with hlt | hlt
    · rw [hany k i hkl hlt (by unfold sameB; rw [hi, hk]; simp [q1.1, q1.2])] at hs; cases hs
    · rw [hany i k hil hlt (by unfold sameB; rw [hi, hk]; simp [q1.1, q1.2])] at hs; cases hs
  · intro hd
    cases hs : sideB ls with
    | false => rfl
    | true =>
      unfold sideB at hs
      obtain ⟨i, hi, hs⟩ := List.any_eq_true.1 hs
      obtain ⟨k, hk, hs⟩ := List.any_eq_true.1 hs
      rw [List.mem_range] at hi hk
      have hei : ls[i]? = some ls[i] := List.getElem?_eq_getElem hi
      have hek : ls[k]? = some (ls[k]'(by omega)) := List.getElem?_eq_getElem (by omega)
      unfold sameB at hs
      rw [hei, hek] at hs
      simp at hs
      have hm := List.getElem_mem hi
      have hm2 : ls[k]'(by omega) ∈ ls := List.getElem_mem _
      have l1 := (hR.2.1 _ hm).2.1
      have := hd ls[i].1 ls[i].2.1 ((mem_vertsL _ _).2 ⟨_, hm, .inl rfl⟩) ((mem_vertsL _ _).2 ⟨_, hm, .inr rfl⟩) l1
      have h2 := dirs_of (a := ls[i].1) (b := ls[i].2.1) hm hm2 (fun e => by
        have := nodup_idx hnd hek (by rw [hei, e])
        omega) (by unfold DirL; simp) (by unfold DirL; rw [← hs.1, ← hs.2]; simp)
      omega
def rigidB (ls : List Lk) : Bool := decide (4 ≤ (vertsL ls).length) && !sideB ls && (vertsL ls).all fun x => (vertsL ls).all fun y => decide (y ≤ x) || okP ls x y
theorem rigid_iff {ls : List Lk} (h : twoL ls = true) (h4 : 4 ≤ (vertsL ls).length) : rigidB ls = true ↔ noneP ls = true := by
  have h3 : 3 ≤ (vertsL ls).length := by omega
  rw [noneP_v h]
  unfold rigidB
  simp only [Bool.and_eq_true, decide_eq_true_eq, Bool.not_eq_true', List.all_eq_true, Bool.or_eq_true]
  rw [side_iff h]
  constructor
  · rintro ⟨⟨_, hs⟩, hr⟩ x y hx hy hxy
    rw [pairP_false h h3]
    exact ⟨(ok_iff h h4 hx hy (by omega)).1 ((hr x hx y hy).resolve_left (by omega)), hs x y hx hy hxy⟩
  · intro hn
    refine ⟨⟨h4, fun x y hx hy hxy => ((pairP_false h h3).1 (hn x y hx hy hxy)).2⟩, fun x hx y hy => ?_⟩
    by_cases hxy : y ≤ x
    · exact .inl hxy
    · exact .inr ((ok_iff h h4 hx hy (by omega)).2 ((pairP_false h h3).1 (hn x y hx hy (by omega))).1)
/-- what the law wants -/
def wantN (ls : List Lk) : Bool := decide (ls.length ≤ 2) || (((vertsL ls).length == 2) && (ls.length == 3)) || (((vertsL ls).length == 3) && (ls.length == 3)) || rigidB ls
theorem want_none {ls : List Lk} (h : twoL ls = true) : noneP ls = wantN ls := by
  rw [Bool.eq_iff_iff]
  unfold wantN
  have hv := two_verts h
  by_cases h2 : ls.length ≤ 2
  · simp only [h2, decide_true, Bool.true_or, iff_true]
    exact none_few h (by omega)
  · simp only [h2, decide_false, Bool.false_or]
    by_cases v2 : (vertsL ls).length = 2
    · have hr : rigidB ls = false := by unfold rigidB; simp; omega
      simp only [v2, beq_self_eq_true, Bool.true_and, hr, Bool.or_false, show ((2 : Nat) == 3) = false from rfl, Bool.false_and, beq_iff_eq]
      rw [noneP_iff h]
      constructor
      · intro hn
        have := hn 0 1 (by omega) (by omega)
        rw [pair_small (two_right h) v2] at this
        simp at this; omega
      · intro hl i k hik hk
        obtain rfl : k = 1 := by omega
        obtain rfl : i = 0 := by omega
        rw [pair_small (two_right h) v2]; simp; omega
    · by_cases v3 : (vertsL ls).length = 3
      · have hr : rigidB ls = false := by unfold rigidB; simp; omega
        simp only [v3, hr, Bool.or_false, show ((3 : Nat) == 2) = false from rfl, Bool.false_and, Bool.false_or, beq_self_eq_true, Bool.true_and, beq_iff_eq]
        exact none_three h v3
      · have e2 : ((vertsL ls).length == 2) = false := by simpa using v2
        have e3 : ((vertsL ls).length == 3) = false := by simpa using v3
        simp only [e2, e3, Bool.false_and, Bool.false_or]
        exact (rigid_iff h (by omega)).symm
end Go.Proofs.Ytagjakgbmmbmhaa
