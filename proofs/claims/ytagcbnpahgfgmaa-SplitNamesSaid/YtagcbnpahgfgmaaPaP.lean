/- Pairs of vertices that part two-connected links. No program in sight. -/
import Derived.Test.YtagcbnpahgfgmaaLGP
import Derived.Test.YtagcbnpahgfgmaaTwoP
namespace Go.Proofs.Ytagcbnpahgfgmaa

/-! ### by the classes' sizes -/
def onesN (L : List Nat) : Nat := (L.filter fun x => x == 1).length
def partsN (L : List Nat) : Bool := if L.length ≤ 1 then false else if L.length = 2 then onesN L == 0 else if L.length = 3 then decide (onesN L < 3) else true
def szN (L : List Nat) (i k : Nat) : Nat := L.getD i 0 + if i < k then L.getD k 0 else 0
def refN (total : Nat) (L : List Nat) : Prop := ∃ i k, i ≤ k ∧ k < L.length ∧ 2 ≤ szN L i k ∧ 2 + szN L i k ≤ total
theorem onesN_cons (a : Nat) (L : List Nat) : onesN (a :: L) = (if a = 1 then 1 else 0) + onesN L := by
  unfold onesN
  by_cases h : a = 1
  · simp [h]; omega
  · simp [h]
theorem onesN_nil : onesN [] = 0 := rfl
theorem sum_ge (L : List Nat) (h : ∀ x ∈ L, 1 ≤ x) : L.length ≤ L.sum := by
  induction L with
  | nil => simp
  | cons a L ih =>
    have h1 := h a (by simp)
    have h2 := ih fun x hx => h x (by simp [hx])
    simp only [List.length_cons, List.sum_cons]; omega
theorem parts_ref (L : List Nat) (h : ∀ x ∈ L, 1 ≤ x) : partsN L = true ↔ refN L.sum L := by
  match L, h with
  | [], _ => 
    simp only [partsN, List.length_nil, Nat.zero_le, if_true]
    constructor
    · intro h; cases h
    · rintro ⟨i, k, _, h2, _⟩; simp at h2
  | [a], h =>
    simp only [partsN, List.length_cons, List.length_nil]
    constructor
    · intro h; simp at h
    · rintro ⟨i, k, h1, h2, h3, h4⟩
      simp only [List.length_cons, List.length_nil] at h2
      obtain rfl : k = 0 := by omega
      obtain rfl : i = 0 := by omega
      simp [szN] at h3 h4; omega
  | [a, b], h =>
    have ha := h a (by simp)
    have hb := h b (by simp)
    simp only [partsN, List.length_cons, List.length_nil, onesN_cons, onesN_nil]
    constructor
    · intro h2
      refine ⟨0, 0, by omega, by simp, ?_, ?_⟩
      · simp [szN]; split at h2 <;> simp_all; omega
      · simp [szN]; by_cases e : b = 1
        · subst e; simp at h2
        · omega
    · rintro ⟨i, k, h1, h2, h3, h4⟩
      simp only [List.length_cons, List.length_nil] at h2
      have hk : k = 0 ∨ k = 1 := by omega
      rcases hk with rfl | rfl
      · obtain rfl : i = 0 := by omega
        simp [szN] at h3 h4
        have e1 : a ≠ 1 := by omega
        have e2 : b ≠ 1 := by omega
        simp [e1, e2]
      · have hi : i = 0 ∨ i = 1 := by omega
        rcases hi with rfl | rfl
        · simp [szN] at h3 h4; omega
        · simp [szN] at h3 h4
          have e1 : a ≠ 1 := by omega
          have e2 : b ≠ 1 := by omega
          simp [e1, e2]
  | [a, b, c], h =>
    have ha := h a (by simp)
    have hb := h b (by simp)
    have hc := h c (by simp)
    simp only [partsN, List.length_cons, List.length_nil, onesN_cons, onesN_nil]
    by_cases e : a = 1 ∧ b = 1 ∧ c = 1
    · obtain ⟨rfl, rfl, rfl⟩ := e
      simp
      rintro ⟨i, k, h1, h2, h3, h4⟩
      omega
    · constructor
      · intro _
        by_cases e1 : a = 1
        · by_cases e2 : b = 1
          · exact ⟨2, 2, by omega, by simp, by simp [szN]; omega, by simp [szN]; omega⟩
          · exact ⟨1, 1, by omega, by simp, by simp [szN]; omega, by simp [szN]; omega⟩
        · exact ⟨0, 0, by omega, by simp, by simp [szN]; omega, by simp [szN]; omega⟩
      · intro _
        by_cases e1 : a = 1 <;> by_cases e2 : b = 1 <;> by_cases e3 : c = 1 <;> simp_all
  | a :: b :: c :: d :: L, h =>
    have ha := h a (by simp)
    have hb := h b (by simp)
    have hc := h c (by simp)
    have hd := h d (by simp)
    simp only [partsN, List.length_cons]
    constructor
    · intro _
      exact ⟨0, 1, by omega, by simp, by simp [szN]; omega, by simp [szN]; omega⟩
    · intro _
      rw [if_neg (by omega), if_neg (by omega), if_neg (by omega)]

/-! ### by vertices -/
def lensL (g : List (List Lk)) : List Nat := g.map List.length
def pairP (ls : List Lk) (a b : Int) : Bool := partsN (lensL (groupsL ls [a, b]))
theorem lens_sum {ls : List Lk} {wo : List Int} (hR : RightL ls) : (lensL (groupsL ls wo)).sum = ls.length := by
  unfold lensL
  rw [← List.length_flatten]
  exact (grp_perm hR).length_eq
theorem lens_pos {ls : List Lk} {wo : List Int} (hR : RightL ls) : ∀ x ∈ lensL (groupsL ls wo), 1 ≤ x := fun x hx => by
  unfold lensL at hx
  obtain ⟨r, hr, rfl⟩ := List.mem_map.1 hx
  obtain ⟨p, hp⟩ := List.getElem?_of_mem hr
  obtain ⟨i, _, G⟩ := grp_at ((rightL_iff ls).2 hR) hp
  exact List.length_pos_of_mem G.self
/-- a link between the pair -/
def DirL (a b : Int) (k : Lk) : Prop := k.1 ∈ [a, b] ∧ k.2.1 ∈ [a, b]
instance instDirL (a b : Int) (k : Lk) : Decidable (DirL a b k) := by unfold DirL; infer_instance
def dirsL (ls : List Lk) (a b : Int) : List Lk := ls.filter fun k => decide (DirL a b k)
/-- two vertices besides that don't hang together without the pair -/
def SplitV (ls : List Lk) (a b : Int) : Prop := ∃ x y, x ∈ vertsL ls ∧ y ∈ vertsL ls ∧ x ∉ [a, b] ∧ y ∉ [a, b] ∧ ¬ VCon ls [a, b] x y
theorem two_right {ls : List Lk} (h : twoL ls = true) : RightL ls := by
  unfold twoL joinedL groupsL at h
  cases hr : rightL ls with
  | true => exact (rightL_iff ls).1 hr
  | false => rw [hr] at h; simp at h
theorem two_ne {ls : List Lk} (h : twoL ls = true) : ls ≠ [] := fun e => by
  subst e; exact absurd h (by decide)
theorem two_con0 {ls : List Lk} (h : twoL ls = true) {x y : Int} (hx : x ∈ vertsL ls) (hy : y ∈ vertsL ls) : VCon ls [] x y := by
  have hR := (rightL_iff ls).2 (two_right h)
  unfold twoL at h
  rw [Bool.and_eq_true] at h
  have h1 := h.1
  unfold joinedL at h1
  rw [beq_iff_eq, groups_one_v hR (fun e => by subst e; simp [vertsL, endsL] at hx) (by simp)] at h1
  exact h1 x y hx hy (by simp) (by simp)
theorem two_con1 {ls : List Lk} (h : twoL ls = true) (h3 : 3 ≤ (vertsL ls).length) {v x y : Int} (hv : v ∈ vertsL ls) (hx : x ∈ vertsL ls) (hy : y ∈ vertsL ls) (hxv : x ≠ v) (hyv : y ≠ v) : VCon ls [v] x y := by
  have hR := (rightL_iff ls).2 (two_right h)
  unfold twoL at h
  rw [Bool.and_eq_true, Bool.or_eq_true] at h
  have h2 := h.2.resolve_left (by simp; omega)
  rw [List.all_eq_true] at h2
  have h4 := h2 v hv
  rw [beq_iff_eq, groups_one_v hR (fun e => by subst e; simp [vertsL, endsL] at hx) (by simp)] at h4
  exact h4 x y hx hy (by simpa using hxv) (by simpa using hyv)
theorem third {vs : List Int} (hn : vs.Nodup) (h3 : 3 ≤ vs.length) (x y : Int) : ∃ z ∈ vs, z ≠ x ∧ z ≠ y := by
  refine Classical.byContradiction fun hno => ?_
  have : ∀ z ∈ vs, z ∈ [x, y] := fun z hz => by
    by_cases e1 : z = x
    · simp [e1]
    · by_cases e2 : z = y
      · simp [e2]
      · exact absurd ⟨z, hz, e1, e2⟩ hno
  have := nodup_len_leZ hn this
  simp at this; omega
/-- each vertex has another link -/
theorem two_deg {ls : List Lk} (h : twoL ls = true) (h3 : 3 ≤ (vertsL ls).length) {e : Lk} (he : e ∈ ls) {x : Int} (hx : x = e.1 ∨ x = e.2.1) : ∃ f ∈ ls, f ≠ e ∧ (x = f.1 ∨ x = f.2.1) := by
  have hR := two_right h
  have ok := hR.2.1 e he
  have hne := ok.2.1
  obtain ⟨y, hy⟩ : ∃ y, y = if x = e.1 then e.2.1 else e.1 := ⟨_, rfl⟩
  have hye : (x = e.1 ∧ y = e.2.1) ∨ (x = e.2.1 ∧ y = e.1) := by
    by_cases e1 : x = e.1
    · rw [if_pos e1] at hy; exact .inl ⟨e1, hy⟩
    · rw [if_neg e1] at hy; exact .inr ⟨hx.resolve_left e1, hy⟩
  have hxy : x ≠ y := by rcases hye with ⟨a1, a2⟩ | ⟨a1, a2⟩ <;> omega
  have hxv : x ∈ vertsL ls := (mem_vertsL ls x).2 ⟨e, he, hx⟩
  have hyv : y ∈ vertsL ls := (mem_vertsL ls y).2 ⟨e, he, by rcases hye with ⟨_, a2⟩ | ⟨_, a2⟩ <;> first | exact .inr a2 | exact .inl a2⟩
  obtain ⟨z, hz, hzx, hzy⟩ := third (verts_nodup ls) h3 x y
  refine Classical.byContradiction fun hno => ?_
  have hall : ∀ f ∈ ls, (x = f.1 ∨ x = f.2.1) → f = e := fun f hf hx => Classical.byContradiction fun hfe => hno ⟨f, hf, hfe, hx⟩
  have key : ∀ t, VCon ls [y] x t → t = x := by
    intro t ht
    induction ht with
    | refl => rfl
    | step _c0 h1 h2 h3 h4 ih =>
      rename_i a c k
      subst ih
      have hk := hall k h1 (by rcases h4 with ⟨b1, _⟩ | ⟨b1, _⟩ <;> first | exact .inl b1 | exact .inr b1)
      subst hk
      simp only [List.mem_singleton] at h2 h3
      rcases hye with ⟨a1, a2⟩ | ⟨a1, a2⟩ <;> omega
  exact hzx (key z (two_con1 h h3 hyv hxv hz hxy hzy))
theorem free_end {a b : Int} {e : Lk} (h : ¬ DirL a b e) : ∃ x, x ∉ [a, b] ∧ (x = e.1 ∨ x = e.2.1) := by
  unfold DirL at h
  by_cases h1 : e.1 ∈ [a, b]
  · exact ⟨e.2.1, fun h2 => h ⟨h1, h2⟩, .inr rfl⟩
  · exact ⟨e.1, h1, .inl rfl⟩
theorem two_in {l : List Lk} {e f : Lk} (he : e ∈ l) (hf : f ∈ l) (hne : f ≠ e) : 2 ≤ l.length := by
  match l, he, hf with
  | [x], he, hf => simp at he hf; exact absurd (hf.trans he.symm) hne
  | x :: y :: l, _, _ => simp
/-- a class with more than a link between the pair has two links -/
theorem grp_two {ls : List Lk} {a b : Int} (h : twoL ls = true) (h3 : 3 ≤ (vertsL ls).length) {r : List Lk} {i : Nat} (G : GrpAt ls [a, b] r i) {e : Lk} (he : e ∈ r) (hd : ¬ DirL a b e) : 2 ≤ r.length := by
  obtain ⟨x, hx, hxe⟩ := free_end hd
  obtain ⟨f, hf, hfe, hxf⟩ := two_deg h h3 (G.sub.subset he) hxe
  obtain ⟨j, hj, hc⟩ := (G.mem e).1 he
  obtain ⟨m, hm⟩ := List.getElem?_of_mem hf
  have : f ∈ r := (G.mem f).2 ⟨m, hm, Con.step hc (mem_bsL.2 ⟨e, f, hj, hm, (touchB_iff _ _ _).2 ⟨x, hx, hxe, hxf⟩⟩) (List.getElem?_eq_some_iff.1 hm).1⟩
  exact two_in he this hfe
/-- a link between the pair is alone -/
theorem grp_dir {ls : List Lk} {a b : Int} (hR : RightL ls) {r : List Lk} {i : Nat} (G : GrpAt ls [a, b] r i) {e : Lk} (he : e ∈ r) (hd : DirL a b e) : r = [e] := by
  obtain ⟨j, hj, hc⟩ := (G.mem e).1 he
  have hall : ∀ m, LCon ls [a, b] j m → m = j := fun m hm => by
    refine Con.closed (fun t => t = j) (fun p q hp hq _ => ?_) rfl hm
    subst hp
    obtain ⟨x, y, hx, hy, ht⟩ := mem_bsL.1 hq
    rw [hj] at hx; cases hx
    obtain ⟨v, hv, hv1, _⟩ := (touchB_iff _ _ _).1 ht
    unfold DirL at hd
    rcases hv1 with rfl | rfl
    · exact absurd hd.1 hv
    · exact absurd hd.2 hv
  have hmem : ∀ f ∈ r, f = e := fun f hf => by
    obtain ⟨m, hm, hcm⟩ := (G.mem f).1 hf
    have := hall m (Con.trans (LCon.symm hc) hcm)
    subst this
    rw [hj] at hm; exact (Option.some.inj hm).symm
  have hn := right_nodup (right_sub hR G.sub)
  match r, he, hmem, hn with
  | [x], he, _, _ => simp at he; rw [he]
  | x :: y :: l, _, hm, hn =>
    have h1 := hm x (by simp)
    have h2 := hm y (by simp)
    rw [h1, h2] at hn; simp at hn
theorem dirs_two {ls : List Lk} {a b : Int} : 2 ≤ (dirsL ls a b).length → ls.Nodup → ∃ e f, e ∈ ls ∧ f ∈ ls ∧ f ≠ e ∧ DirL a b e ∧ DirL a b f := by
  intro h hn
  have hd : (dirsL ls a b).Nodup := hn.filter _
  match hl : dirsL ls a b, h with
  | e :: f :: l, _ =>
    have h1 : e ∈ dirsL ls a b := by rw [hl]; simp
    have h2 : f ∈ dirsL ls a b := by rw [hl]; simp
    unfold dirsL at h1 h2
    rw [List.mem_filter, decide_eq_true_eq] at h1 h2
    rw [hl] at hd
    refine ⟨e, f, h1.1, h2.1, fun e2 => ?_, h1.2, h2.2⟩
    subst e2; simp at hd
theorem dirs_of {ls : List Lk} {a b : Int} {e f : Lk} (he : e ∈ ls) (hf : f ∈ ls) (hne : f ≠ e) (hde : DirL a b e) (hdf : DirL a b f) : 2 ≤ (dirsL ls a b).length :=
  two_in (l := dirsL ls a b) (List.mem_filter.2 ⟨he, by simpa using hde⟩) (List.mem_filter.2 ⟨hf, by simpa using hdf⟩) hne
theorem lens_at {g : List (List Lk)} {p : Nat} {r : List Lk} (h : g[p]? = some r) : (lensL g)[p]? = some r.length := by unfold lensL; rw [List.getElem?_map, h]; rfl
theorem ones_le (L : List Nat) : onesN L ≤ L.length := List.length_filter_le _ _
theorem ones_lt {L : List Nat} {p x : Nat} (h : L[p]? = some x) (hx : x ≠ 1) : onesN L < L.length := by
  induction L generalizing p with
  | nil => simp at h
  | cons a L ih =>
    rw [onesN_cons, List.length_cons]
    cases p with
    | zero =>
      simp at h; subst h
      have := ones_le L
      simp [hx]; omega
    | succ p =>
      have := ih (by simpa using h)
      split <;> omega
theorem ones_pos {L : List Nat} {p : Nat} (h : L[p]? = some 1) : 0 < onesN L := by
  unfold onesN
  exact List.length_pos_of_mem (List.mem_filter.2 ⟨List.mem_of_getElem? h, by simp⟩)
/-- of three vertices or more: two part the links just if without both what is left comes apart, or if two links lie between them -/
theorem pair_iff {ls : List Lk} {a b : Int} (h : twoL ls = true) (h3 : 3 ≤ (vertsL ls).length) : pairP ls a b = true ↔ SplitV ls a b ∨ 2 ≤ (dirsL ls a b).length := by
  have hR := two_right h
  have hr := (rightL_iff ls).2 hR
  have hat : ∀ p, p < (groupsL ls [a, b]).length → ∃ r i, (groupsL ls [a, b])[p]? = some r ∧ (firsts (compC ls.length (bsL ls [a, b])) ls.length)[p]? = some i ∧ GrpAt ls [a, b] r i := fun p hp => by
    obtain ⟨i, hi, G⟩ := grp_at hr (List.getElem?_eq_getElem hp)
    exact ⟨_, i, List.getElem?_eq_getElem hp, hi, G⟩
  constructor
  · intro hp
    refine Classical.byContradiction fun hno => ?_
    have hnd : ¬ 2 ≤ (dirsL ls a b).length := fun e => hno (.inr e)
    have hns : ∀ x y, x ∈ vertsL ls → y ∈ vertsL ls → x ∉ [a, b] → y ∉ [a, b] → VCon ls [a, b] x y := fun x y hx hy h1 h2 => Classical.byContradiction fun hc => hno (.inl ⟨x, y, hx, hy, h1, h2, hc⟩)
    -- of any two classes one is a link between the pair, and not both are
    have pairs : ∀ p q, p ≠ q → p < (groupsL ls [a, b]).length → q < (groupsL ls [a, b]).length →
        ∃ t r e, (t = p ∨ t = q) ∧ (groupsL ls [a, b])[t]? = some r ∧ r = [e] ∧ DirL a b e ∧ ∀ s r' e', (s = p ∨ s = q) → s ≠ t → (groupsL ls [a, b])[s]? = some r' → e' ∈ r' → ¬ DirL a b e' := by
      intro p q hpq hp hq
      obtain ⟨r1, i1, hr1, hf1, G1⟩ := hat p hp
      obtain ⟨r2, i2, hr2, hf2, G2⟩ := hat q hq
      have hn := grp_differ hf1 hf2 hpq
      have hnb : ∀ e f, e ∈ r1 → f ∈ r2 → DirL a b e → DirL a b f → False := fun e f he hf hde hdf => by
        refine hnd (dirs_of (G1.sub.subset he) (G2.sub.subset hf) (fun e2 => ?_) hde hdf)
        subst e2
        obtain ⟨j, hj, hc⟩ := (G1.mem f).1 he
        exact hn (Con.trans hc (LCon.symm ((G2.con hR hj).1 hf)))
      have e1 := G1.self
      have e2 := G2.self
      by_cases d1 : DirL a b (ls[i1]'G1.lt)
      · refine ⟨p, r1, _, .inl rfl, hr1, grp_dir hR G1 e1 d1, d1, ?_⟩
        rintro s r' e' (rfl | rfl) hs hr' he' hd'
        · exact hs rfl
        · rw [hr2] at hr'; cases hr'
          exact hnb _ _ e1 he' d1 hd'
      · by_cases d2 : DirL a b (ls[i2]'G2.lt)
        · refine ⟨q, r2, _, .inr rfl, hr2, grp_dir hR G2 e2 d2, d2, ?_⟩
          rintro s r' e' (rfl | rfl) hs hr' he' hd'
          · rw [hr1] at hr'; cases hr'
            exact hnb _ _ he' e2 hd' d2
          · exact hs rfl
        · obtain ⟨x, hx, hxe⟩ := free_end d1
          obtain ⟨y, hy, hye⟩ := free_end d2
          have hxv := (mem_vertsL ls x).2 ⟨_, G1.sub.subset e1, hxe⟩
          have hyv := (mem_vertsL ls y).2 ⟨_, G2.sub.subset e2, hye⟩
          exact absurd (LCon.of_vcon (List.getElem?_eq_getElem G1.lt) (List.getElem?_eq_getElem G2.lt) hx hy hxe hye (hns x y hxv hyv hx hy)) hn
    have hlen : (lensL (groupsL ls [a, b])).length = (groupsL ls [a, b]).length := by simp [lensL]
    unfold pairP partsN at hp
    rw [hlen] at hp
    by_cases l1 : (groupsL ls [a, b]).length ≤ 1
    · rw [if_pos l1] at hp; cases hp
    · rw [if_neg l1] at hp
      obtain ⟨t, r, e, ht, hr', hre, hde, hoth⟩ := pairs 0 1 (by omega) (by omega) (by omega)
      have h1 : (lensL (groupsL ls [a, b]))[t]? = some 1 := by rw [lens_at hr', hre]; rfl
      have := ones_pos h1
      by_cases l2 : (groupsL ls [a, b]).length = 2
      · rw [if_pos l2] at hp
        simp at hp; omega
      · -- three classes: two are links between the pair, or neither
        obtain ⟨s, hs, hst⟩ : ∃ s, (s = 0 ∨ s = 1) ∧ s ≠ t := by rcases ht with rfl | rfl <;> first | exact ⟨1, by omega, by omega⟩ | exact ⟨0, by omega, by omega⟩
        have hsl : s < (groupsL ls [a, b]).length := by omega
        obtain ⟨rs, is, hrs, _, Gs⟩ := hat s hsl
        have hnds := hoth s rs _ hs hst hrs Gs.self
        obtain ⟨t2, r2, e2, ht2, hr2, hre2, hde2, hoth2⟩ := pairs 2 s (by omega) (by omega) (by omega)
        rcases ht2 with rfl | rfl
        · obtain ⟨t3, r3, e3, ht3, hr3, hre3, hde3, hoth3⟩ := pairs 2 t (by omega) (by omega) (by omega)
          rcases ht3 with rfl | rfl
          · exact hoth3 t r e (.inr rfl) (by omega) hr' (by rw [hre]; simp) hde
          · exact hoth3 2 r2 e2 (.inl rfl) (by omega) hr2 (by rw [hre2]; simp) hde2
        · rw [hrs] at hr2; cases hr2
          have hs1 := Gs.self
          obtain ⟨q, hq⟩ : ∃ q, q = ls[is]'Gs.lt := ⟨_, rfl⟩
          rw [← hq] at hs1 hnds
          rw [hre2] at hs1
          rw [List.mem_singleton.1 hs1] at hnds
          exact hnds hde2
  · intro hor
    have hfree : ∀ x, x ∈ vertsL ls → x ∉ [a, b] → ∃ (p : Nat) (r : List Lk) (i : Nat) (e : Lk), (groupsL ls [a, b])[p]? = some r ∧ (firsts (compC ls.length (bsL ls [a, b])) ls.length)[p]? = some i ∧ GrpAt ls [a, b] r i ∧ e ∈ r ∧ (x = e.1 ∨ x = e.2.1) ∧ 2 ≤ r.length := by
      intro x hx hxw
      obtain ⟨e, he, hxe⟩ := (mem_vertsL ls x).1 hx
      obtain ⟨j, hj⟩ := List.getElem?_of_mem he
      obtain ⟨p, r, hp, her⟩ := grp_all (wo := [a, b]) hR hj
      obtain ⟨i, hi, G⟩ := grp_at hr hp
      refine ⟨p, r, i, e, hp, hi, G, her, hxe, grp_two h h3 G her fun hd => ?_⟩
      unfold DirL at hd
      rcases hxe with rfl | rfl
      · exact hxw hd.1
      · exact hxw hd.2
    have hlen : (lensL (groupsL ls [a, b])).length = (groupsL ls [a, b]).length := by simp [lensL]
    rcases hor with ⟨x, y, hx, hy, hxw, hyw, hc⟩ | hd
    · obtain ⟨p, r, i, e, hp, hi, G, he, hxe, hrl⟩ := hfree x hx hxw
      obtain ⟨q, s, j, f, hq, hj, H, hf, hyf, hsl⟩ := hfree y hy hyw
      have hpq : p ≠ q := fun e2 => by
        subst e2
        rw [hp] at hq; cases hq
        obtain ⟨m, hm, hcm⟩ := (G.mem e).1 he
        obtain ⟨n, hn, hcn⟩ := (G.mem f).1 hf
        exact hc (VCon.of_lcon (Con.trans (LCon.symm hcm) hcn) hm hxw hxe hn hyw hyf)
      have hpl := (List.getElem?_eq_some_iff.1 hp).1
      have hql := (List.getElem?_eq_some_iff.1 hq).1
      unfold pairP partsN
      have o1 := ones_lt (lens_at hp) (by omega)
      rw [hlen] at o1 ⊢
      rw [if_neg (by omega)]
      by_cases l2 : (groupsL ls [a, b]).length = 2
      · rw [if_pos l2, beq_iff_eq]
        -- both have two
        have hL : ∀ x ∈ lensL (groupsL ls [a, b]), x ≠ 1 := fun x hx => by
          obtain ⟨m, hm⟩ := List.getElem?_of_mem hx
          have hml := (List.getElem?_eq_some_iff.1 hm).1
          rw [hlen] at hml
          have : m = p ∨ m = q := by omega
          rcases this with rfl | rfl
          · rw [lens_at hp] at hm; cases hm; omega
          · rw [lens_at hq] at hm; cases hm; omega
        unfold onesN
        rw [List.length_eq_zero_iff, List.filter_eq_nil_iff]
        exact fun x hx => by simpa using hL x hx
      · rw [if_neg l2]
        by_cases l3 : (groupsL ls [a, b]).length = 3
        · rw [if_pos l3, decide_eq_true_eq]; omega
        · rw [if_neg l3]
    · obtain ⟨e, f, he, hf, hfe, hde, hdf⟩ := dirs_two hd (right_nodup hR)
      obtain ⟨z, hz, hza, hzb⟩ := third (verts_nodup ls) h3 a b
      obtain ⟨p, r, i, g, hp, hi, G, hg, hzg, hrl⟩ := hfree z hz (by simp [hza, hzb])
      obtain ⟨je, hje⟩ := List.getElem?_of_mem he
      obtain ⟨jf, hjf⟩ := List.getElem?_of_mem hf
      obtain ⟨q1, s1, hq1, hes⟩ := grp_all (wo := [a, b]) hR hje
      obtain ⟨q2, s2, hq2, hfs⟩ := grp_all (wo := [a, b]) hR hjf
      obtain ⟨i1, hi1, G1⟩ := grp_at hr hq1
      obtain ⟨i2, hi2, G2⟩ := grp_at hr hq2
      have es1 := grp_dir hR G1 hes hde
      have es2 := grp_dir hR G2 hfs hdf
      have n1 : q1 ≠ q2 := fun e2 => by
        subst e2; rw [hq1] at hq2; cases hq2
        rw [es1] at hfs; simp at hfs; exact hfe hfs
      have n2 : q1 ≠ p := fun e2 => by
        subst e2; rw [hq1] at hp; cases hp
        rw [es1] at hrl; simp at hrl
      have n3 : q2 ≠ p := fun e2 => by
        subst e2; rw [hq2] at hp; cases hp
        rw [es2] at hrl; simp at hrl
      have b1 := (List.getElem?_eq_some_iff.1 hq1).1
      have b2 := (List.getElem?_eq_some_iff.1 hq2).1
      have b3 := (List.getElem?_eq_some_iff.1 hp).1
      have o1 := ones_lt (lens_at hp) (by omega)
      unfold pairP partsN
      rw [hlen] at o1 ⊢
      rw [if_neg (by omega), if_neg (by omega)]
      by_cases l3 : (groupsL ls [a, b]).length = 3
      · rw [if_pos l3, decide_eq_true_eq]; omega
      · rw [if_neg l3]
end Go.Proofs.Ytagcbnpahgfgmaa
