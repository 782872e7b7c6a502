/- The first pair that parts links: by search, by cuts. No program in sight. -/
import Derived.Test.YtagcbnpahgfgmaaPaP
import Derived.Test.YtagcbnpahgfgmaaCutQ
namespace Go.Proofs.Ytagcbnpahgfgmaa

/-- what the search without one vertex tells of the other ones -/
theorem split_cut {ls : List Lk} (h : twoL ls = true) (h3 : 3 ≤ (vertsL ls).length) {i u : Nat} {a b : Int} (hi : (vertsL ls)[i]? = some a) (hu : (vertsL ls)[u]? = some b) (hiu : i ≠ u)
    {j : Bool} {cut : Nat → Bool} (hc : CutSpec (vertsL ls).length (nbN (vertsL ls) ls) (i : Int) j cut) : cut u = true ↔ SplitV ls a b := by
  have hR := two_right h
  have hok := hR.2.1
  have hil := (List.getElem?_eq_some_iff.1 hi).1
  have hul := (List.getElem?_eq_some_iff.1 hu).1
  have hid : ∀ x y z : Nat, (vertsL ls)[x]? = some a → x = i := fun x _ _ hx => nodup_idx (verts_nodup ls) hx hi
  have pres : ∀ x, Pres (vertsL ls).length (i : Int) x ↔ x < (vertsL ls).length ∧ x ≠ i := fun x => ⟨fun hx => ⟨hx.1, fun e => hx.2 (by rw [e])⟩, fun hx => ⟨hx.1, fun e => hx.2 (by omega)⟩⟩
  have hS1 : ∀ x, x < (vertsL ls).length → (Pres (vertsL ls).length (i : Int) x ↔ ∀ v, (vertsL ls)[x]? = some v → v ∉ [a]) := fun x hx => by
    rw [pres]
    constructor
    · rintro ⟨_, hne⟩ v hv hva
      simp at hva; subst hva
      exact hne (nodup_idx (verts_nodup ls) hv hi)
    · intro hv
      exact ⟨hx, fun e => hv a (by rw [e]; exact hi) (by simp)⟩
  have hS2 : ∀ x, x < (vertsL ls).length → (Av (vertsL ls).length (i : Int) u x ↔ ∀ v, (vertsL ls)[x]? = some v → v ∉ [a, b]) := fun x hx => by
    unfold Av
    rw [pres]
    constructor
    · rintro ⟨⟨_, hne⟩, hne2⟩ v hv hva
      simp at hva
      rcases hva with rfl | rfl
      · exact hne (nodup_idx (verts_nodup ls) hv hi)
      · exact hne2 (nodup_idx (verts_nodup ls) hv hu)
    · intro hv
      exact ⟨⟨hx, fun e => hv a (by rw [e]; exact hi) (by simp)⟩, fun e => hv b (by rw [e]; exact hu) (by simp)⟩
  have hav : ∀ x, Av (vertsL ls).length (i : Int) u x → x < (vertsL ls).length := fun x hx => ((pres x).1 hx.1).1
  have ham : a ∈ vertsL ls := List.mem_of_getElem? hi
  have hj : j = true := hc.join_iff.2 fun x y hx hy => by
    have hx' := (pres x).1 hx; have hy' := (pres y).1 hy
    have nx := (hS1 x hx'.1).1 hx _ (List.getElem?_eq_getElem hx'.1)
    have ny := (hS1 y hy'.1).1 hy _ (List.getElem?_eq_getElem hy'.1)
    have := (con_vcon hok hS1 (List.getElem_mem hx'.1) (List.getElem_mem hy'.1) nx ny).2 (two_con1 h h3 ham (List.getElem_mem _) (List.getElem_mem _) (by simpa using nx) (by simpa using ny))
    rwa [idxOf_get (verts_nodup ls) hx'.1, idxOf_get (verts_nodup ls) hy'.1] at this
  have hci := hc.cut_iff hj u ((pres u).2 ⟨hul, fun e => hiu e.symm⟩)
  rw [hci]
  constructor
  · rintro ⟨x, y, hx, hy, hno⟩
    have hx' := hav x hx; have hy' := hav y hy
    have nx := (hS2 x hx').1 hx _ (List.getElem?_eq_getElem hx')
    have ny := (hS2 y hy').1 hy _ (List.getElem?_eq_getElem hy')
    refine ⟨_, _, List.getElem_mem hx', List.getElem_mem hy', nx, ny, fun hv => hno ?_⟩
    have := (con_vcon hok hS2 (List.getElem_mem hx') (List.getElem_mem hy') nx ny).2 hv
    rwa [idxOf_get (verts_nodup ls) hx', idxOf_get (verts_nodup ls) hy'] at this
  · rintro ⟨x, y, hx, hy, nx, ny, hno⟩
    have sx := (hS2 _ (List.idxOf_lt_length_of_mem hx)).2 fun z hz => by rw [get_idxOf hx] at hz; cases hz; exact nx
    have sy := (hS2 _ (List.idxOf_lt_length_of_mem hy)).2 fun z hz => by rw [get_idxOf hy] at hz; cases hz; exact ny
    exact ⟨_, _, sx, sy, fun hc => hno ((con_vcon hok hS2 hx hy nx ny).1 hc)⟩

/-- how often a place stands beside another one: the links between them -/
theorem nb_count {vs : List Int} {i u : Nat} {a b : Int} (hn : vs.Nodup) (hi : vs[i]? = some a) (hu : vs[u]? = some b) (hiu : i ≠ u) : ∀ (ls : List Lk), (∀ k ∈ ls, k.1 ∈ vs ∧ k.2.1 ∈ vs ∧ k.1 ≠ k.2.1) → (nbN vs ls i).count u = (dirsL ls a b).length := by
  have ix : ∀ x, x ∈ vs → (vs.idxOf x = i ↔ x = a) := fun x hx => ⟨fun e => by have := get_idxOf hx; rw [e, hi] at this; exact (Option.some.inj this).symm, fun e => by subst e; exact nodup_idx hn (get_idxOf hx) hi⟩
  have ux : ∀ x, x ∈ vs → (vs.idxOf x = u ↔ x = b) := fun x hx => ⟨fun e => by have := get_idxOf hx; rw [e, hu] at this; exact (Option.some.inj this).symm, fun e => by subst e; exact nodup_idx hn (get_idxOf hx) hu⟩
  have hab : a ≠ b := fun e => by subst e; exact hiu (nodup_idx hn hi hu)
  intro ls
  induction ls with
  | nil => intro _; simp [nbN, dirsL]
  | cons k ls ih =>
    intro hk
    obtain ⟨k1, k2, k3⟩ := hk k (by simp)
    have ih' := ih fun k hk' => hk k (by simp [hk'])
    have e1 : nbN vs (k :: ls) i = (if vs.idxOf k.1 = i then [vs.idxOf k.2.1] else if vs.idxOf k.2.1 = i then [vs.idxOf k.1] else []) ++ nbN vs ls i := by unfold nbN; rw [List.flatMap_cons]
    have e2 : (dirsL (k :: ls) a b).length = (if DirL a b k then 1 else 0) + (dirsL ls a b).length := by
      unfold dirsL
      rw [List.filter_cons]
      by_cases h : DirL a b k <;> simp [h]; omega
    rw [e1, e2, List.count_append, ih']
    congr 1
    unfold DirL
    simp only [ix _ k1, ix _ k2, List.mem_cons, List.not_mem_nil, or_false]
    by_cases c1 : k.1 = a
    · rw [if_pos c1]
      by_cases c2 : k.2.1 = b
      · have := (ux _ k2).2 c2
        rw [this, if_pos (by simp [c1, c2])]; simp
      · have : ¬ vs.idxOf k.2.1 = u := fun e => c2 ((ux _ k2).1 e)
        have c3 : ¬ k.2.1 = a := fun e => k3 (c1.trans e.symm)
        rw [if_neg (by rintro ⟨_, h | h⟩ <;> contradiction)]
        rw [List.count_eq_zero]; simpa using fun e => this e.symm
    · rw [if_neg c1]
      by_cases c2 : k.2.1 = a
      · rw [if_pos c2]
        by_cases c3 : k.1 = b
        · have := (ux _ k1).2 c3
          rw [this, if_pos (by simp [c2, c3])]; simp
        · have : ¬ vs.idxOf k.1 = u := fun e => c3 ((ux _ k1).1 e)
          rw [if_neg (by rintro ⟨h | h, _⟩ <;> contradiction)]
          rw [List.count_eq_zero]; simpa using fun e => this e.symm
      · rw [if_neg c2, if_neg]
        · rfl
        · rintro ⟨h | h, h' | h'⟩ <;> try contradiction
          exact k3 (h.trans h'.symm)
theorem nb_dirs {ls : List Lk} (hR : RightL ls) {i u : Nat} {a b : Int} (hi : (vertsL ls)[i]? = some a) (hu : (vertsL ls)[u]? = some b) (hiu : i ≠ u) : (nbN (vertsL ls) ls i).count u = (dirsL ls a b).length :=
  nb_count (verts_nodup ls) hi hu hiu ls fun k hk => ⟨(mem_vertsL ls _).2 ⟨k, hk, .inl rfl⟩, (mem_vertsL ls _).2 ⟨k, hk, .inr rfl⟩, by have := (hR.2.1 k hk).2.1; omega⟩
/-- what the closure asks -/
theorem pair_ask {ls : List Lk} (h : twoL ls = true) (h3 : 3 ≤ (vertsL ls).length) {i u : Nat} {a b : Int} (hi : (vertsL ls)[i]? = some a) (hu : (vertsL ls)[u]? = some b) (hiu : i ≠ u)
    {j : Bool} {cut : Nat → Bool} (hc : CutSpec (vertsL ls).length (nbN (vertsL ls) ls) (i : Int) j cut) : (cut u || decide (1 < (nbN (vertsL ls) ls i).count u)) = pairP ls a b := by
  rw [Bool.eq_iff_iff, pair_iff h h3, ← split_cut h h3 hi hu hiu hc, nb_dirs (two_right h) hi hu hiu]
  simp only [Bool.or_eq_true, decide_eq_true_eq]
  exact Iff.rfl

/-! ### the first one -/
structure FirstAt (B : Nat → Nat → Bool) (n i k : Nat) : Prop where
  lt : i < k
  ltn : k < n
  yes : B i k = true
  row : ∀ k', i < k' → k' < k → B i k' = false
  rows : ∀ i' k', i' < i → i' < k' → k' < n → B i' k' = false
theorem FirstAt.one {B : Nat → Nat → Bool} {n i k i' k' : Nat} (h : FirstAt B n i k) (h' : FirstAt B n i' k') : i = i' ∧ k = k' := by
  have hi : i = i' := by
    rcases Nat.lt_trichotomy i i' with e | e | e
    · have := h'.rows i k e h.lt h.ltn; rw [h.yes] at this; cases this
    · exact e
    · have := h.rows i' k' e h'.lt h'.ltn; rw [h'.yes] at this; cases this
  subst hi
  refine ⟨rfl, ?_⟩
  rcases Nat.lt_trichotomy k k' with e | e | e
  · have := h'.row k h.lt e; rw [h.yes] at this; cases this
  · exact e
  · have := h.row k' h'.lt e; rw [h'.yes] at this; cases this
def pairAt (ls : List Lk) (i k : Nat) : Bool := pairP ls ((vertsL ls).getD i 0) ((vertsL ls).getD k 0)
open Classical in
noncomputable def firstL (ls : List Lk) : Int × Int × Bool × Int :=
  if twoL ls = true then if h : ∃ p : Nat × Nat, FirstAt (pairAt ls) (vertsL ls).length p.1 p.2 then ((vertsL ls).getD h.choose.1 0, (vertsL ls).getD h.choose.2 0, true, 0) else (0, 0, false, 0) else (0, 0, false, 130)
theorem first_no {ls : List Lk} (h : twoL ls = false) : firstL ls = (0, 0, false, 130) := by unfold firstL; rw [if_neg (by rw [h]; simp)]
theorem first_at {ls : List Lk} (h : twoL ls = true) {i k : Nat} (hf : FirstAt (pairAt ls) (vertsL ls).length i k) : firstL ls = ((vertsL ls).getD i 0, (vertsL ls).getD k 0, true, 0) := by
  unfold firstL
  have hex : ∃ p : Nat × Nat, FirstAt (pairAt ls) (vertsL ls).length p.1 p.2 := ⟨(i, k), hf⟩
  rw [if_pos h, dif_pos hex]
  obtain ⟨e1, e2⟩ := FirstAt.one hex.choose_spec hf
  rw [e1, e2]
theorem first_none {ls : List Lk} (h : twoL ls = true) (hf : ∀ i k, i < k → k < (vertsL ls).length → pairAt ls i k = false) : firstL ls = (0, 0, false, 0) := by
  unfold firstL
  rw [if_pos h, dif_neg]
  rintro ⟨p, hp⟩
  have := hf _ _ hp.lt hp.ltn
  rw [hp.yes] at this; cases this
/-- links of two vertices -/
theorem all_dir {ls : List Lk} (hR : RightL ls) (h2 : (vertsL ls).length = 2) {e : Lk} (he : e ∈ ls) : DirL ((vertsL ls).getD 0 0) ((vertsL ls).getD 1 0) e := by
  have h1 := (mem_vertsL ls e.1).2 ⟨e, he, .inl rfl⟩
  have h3 := (mem_vertsL ls e.2.1).2 ⟨e, he, .inr rfl⟩
  match hv : vertsL ls, h2 with
  | [x, y], _ => rw [hv] at h1 h3; exact ⟨h1, h3⟩
theorem pair_small {ls : List Lk} (hR : RightL ls) (h2 : (vertsL ls).length = 2) : pairAt ls 0 1 = decide (4 ≤ ls.length) := by
  have hr := (rightL_iff ls).2 hR
  have hall : ∀ x ∈ lensL (groupsL ls [(vertsL ls).getD 0 0, (vertsL ls).getD 1 0]), x = 1 := fun x hx => by
    unfold lensL at hx
    obtain ⟨r, hrm, rfl⟩ := List.mem_map.1 hx
    obtain ⟨p, hp⟩ := List.getElem?_of_mem hrm
    obtain ⟨i, _, G⟩ := grp_at hr hp
    rw [grp_dir hR G G.self (all_dir hR h2 (G.sub.subset G.self))]; rfl
  have hs := lens_sum (wo := [(vertsL ls).getD 0 0, (vertsL ls).getD 1 0]) hR
  unfold pairAt pairP
  generalize lensL (groupsL ls [(vertsL ls).getD 0 0, (vertsL ls).getD 1 0]) = L at hall hs
  have hL : ∀ M : List Nat, (∀ x ∈ M, x = 1) → M.sum = M.length ∧ onesN M = M.length := fun M => by
    induction M with
    | nil => intro _; exact ⟨rfl, rfl⟩
    | cons a M ih =>
      intro h
      obtain ⟨i1, i2⟩ := ih fun x hx => h x (by simp [hx])
      have ha := h a (by simp)
      rw [onesN_cons, i2]
      simp [ha, i1]; omega
  obtain ⟨s1, s2⟩ := hL L hall
  unfold partsN
  rw [s2, ← hs, s1]
  by_cases c1 : L.length ≤ 1
  · rw [if_pos c1]; simp; omega
  · rw [if_neg c1]
    by_cases c2 : L.length = 2
    · rw [if_pos c2, c2]; rfl
    · rw [if_neg c2]
      by_cases c3 : L.length = 3
      · rw [if_pos c3, c3]; rfl
      · rw [if_neg c3]; simp; omega
theorem two_verts {ls : List Lk} (h : twoL ls = true) : 2 ≤ (vertsL ls).length := by
  have hR := two_right h
  obtain ⟨e, he⟩ := List.exists_mem_of_ne_nil _ (two_ne h)
  have h1 := (mem_vertsL ls e.1).2 ⟨e, he, .inl rfl⟩
  have h2 := (mem_vertsL ls e.2.1).2 ⟨e, he, .inr rfl⟩
  have h3 := (hR.2.1 e he).2.1
  match hv : vertsL ls with
  | [] => rw [hv] at h1; simp at h1
  | [x] => rw [hv] at h1 h2; simp at h1 h2; omega
  | x :: y :: l => simp
def mayB (ls : List Lk) (a b : Int) : Bool := !(a == b) && twoL ls && (vertsL ls).contains a && (vertsL ls).contains b
def classesL (ls : List Lk) (a b : Int) : List (List Lk) × Int := if mayB ls a b then (groupsL ls [a, b], 0) else ([], 130)
def partsL2 (ls : List Lk) (a b : Int) : Bool × Int := if mayB ls a b then (pairP ls a b, 0) else (false, 130)
theorem mayB_at {ls : List Lk} (h : twoL ls = true) {i k : Nat} (hik : i ≠ k) (hi : i < (vertsL ls).length) (hk : k < (vertsL ls).length) : mayB ls ((vertsL ls).getD i 0) ((vertsL ls).getD k 0) = true := by
  have e1 : (vertsL ls).getD i 0 = (vertsL ls)[i] := by simp [List.getD, hi]
  have e2 : (vertsL ls).getD k 0 = (vertsL ls)[k] := by simp [List.getD, hk]
  rw [e1, e2]
  unfold mayB
  rw [h]
  simp only [Bool.and_true, Bool.and_eq_true, Bool.not_eq_true', beq_eq_false_iff_ne, ne_eq, List.contains_iff_mem]
  exact ⟨⟨fun e => hik ((List.getElem_inj (verts_nodup ls)).1 e), List.getElem_mem _⟩, List.getElem_mem _⟩
end Go.Proofs.Ytagcbnpahgfgmaa
