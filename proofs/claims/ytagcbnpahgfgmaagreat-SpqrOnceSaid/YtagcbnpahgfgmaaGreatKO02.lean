/- Facts that the claim rests on, part 3. -/
import Derived.Test.YtagcbnpahgfgmaaGreatKO01
namespace Go.Proofs.YtagcbnpahgfgmaaGreat
def onesN (L : List Nat) : Nat := (L.filter fun x => x == 1).length
def partsN (L : List Nat) : Bool := if L.length ≤ 1 then false else if L.length = 2 then onesN L == 0 else if L.length = 3 then decide (onesN L < 3) else true
def szN (L : List Nat) (i k : Nat) : Nat := L.getD i 0 + if i < k then L.getD k 0 else 0
def refN (total : Nat) (L : List Nat) : Prop := ∃ i k, i ≤ k ∧ k < L.length ∧ 2 ≤ szN L i k ∧ 2 + szN L i k ≤ total
theorem onesN_cons (a : Nat) (L : List Nat) : onesN (a :: L) = (if a = 1 then 1 else 0) + onesN L := by
 unfold onesN
 by_cases h : a = 1
 · simp [h]; omega
 · simp [h]
theorem onesN_nil : onesN [] = 0 := rfl
theorem parts_ref (L : List Nat) (h : ∀ x ∈ L, 1 ≤ x) : partsN L = true ↔ refN L.sum L := by
 match L, h with
 | [], _ => 
  simp only [partsN, List.length_nil, Nat.zero_le, if_true]
  constructor
  · intro h; cases h
  · rintro ⟨i, k, _, h2, _⟩; simp at h2
 | [a], h =>
  simp only [partsN, List.length_cons, List.length_nil]
  constructor
  · intro h; simp at h
  ·
   rintro ⟨i, k, h1, h2, h3, h4⟩; simp only [List.length_cons, List.length_nil] at h2; obtain rfl : k = 0 := by omega
   obtain rfl : i = 0 := by omega
   simp [szN] at h3 h4; omega
 | [a, b], h =>
  have ha := h a (by simp)
  have hb := h b (by simp)
  simp only [partsN, List.length_cons, List.length_nil, onesN_cons, onesN_nil]
  constructor
  ·
   intro h2; refine ⟨0, 0, by omega, by simp, ?_, ?_⟩
   · simp [szN]; split at h2 <;> simp_all; omega
   ·
    simp [szN]; by_cases e : b = 1
    · subst e; simp at h2
    · omega
  ·
   rintro ⟨i, k, h1, h2, h3, h4⟩; simp only [List.length_cons, List.length_nil] at h2; have hk : k = 0 ∨ k = 1 := by omega
   rcases hk with rfl | rfl
   ·
    obtain rfl : i = 0 := by omega
    simp [szN] at h3 h4; have e1 : a ≠ 1 := by omega
    have e2 : b ≠ 1 := by omega
    simp [e1, e2]
   ·
    have hi : i = 0 ∨ i = 1 := by omega
    rcases hi with rfl | rfl
    · simp [szN] at h3 h4; omega
    ·
     simp [szN] at h3 h4; have e1 : a ≠ 1 := by omega
     have e2 : b ≠ 1 := by omega
     simp [e1, e2]
 | [a, b, c], h =>
  have ha := h a (by simp)
  have hb := h b (by simp)
  have hc := h c (by simp)
  simp only [partsN, List.length_cons, List.length_nil, onesN_cons, onesN_nil]
  by_cases e : a = 1 ∧ b = 1 ∧ c = 1
  ·
   obtain ⟨rfl, rfl, rfl⟩ := e; simp; rintro ⟨i, k, h1, h2, h3, h4⟩; omega
  ·
   constructor
   ·
    intro _; by_cases e1 : a = 1
    ·
     by_cases e2 : b = 1
     · exact ⟨2, 2, by omega, by simp, by simp [szN]; omega, by simp [szN]; omega⟩
     · exact ⟨1, 1, by omega, by simp, by simp [szN]; omega, by simp [szN]; omega⟩
    · exact ⟨0, 0, by omega, by simp, by simp [szN]; omega, by simp [szN]; omega⟩
   ·
    intro _; by_cases e1 : a = 1 <;> by_cases e2 : b = 1 <;> by_cases e3 : c = 1 <;> simp_all
 | a :: b :: c :: d :: L, h =>
  have ha := h a (by simp)
  have hb := h b (by simp)
  have hc := h c (by simp)
  have hd := h d (by simp)
  simp only [partsN, List.length_cons]
  constructor
  ·
   intro _; exact ⟨0, 1, by omega, by simp, by simp [szN]; omega, by simp [szN]; omega⟩
  ·
   intro _; rw [if_neg (by omega), if_neg (by omega), if_neg (by omega)]
def lensL (g : List (List Lk)) : List Nat := g.map List.length
def pairP (ls : List Lk) (a b : Int) : Bool := partsN (lensL (groupsL ls [a, b]))
theorem lens_sum {ls : List Lk} {wo : List Int} (hR : RightL ls) : (lensL (groupsL ls wo)).sum = ls.length := by
 unfold lensL
 rw [← List.length_flatten]
 exact (grp_perm hR).length_eq
theorem lens_pos {ls : List Lk} {wo : List Int} (hR : RightL ls) : ∀ x ∈ lensL (groupsL ls wo), 1 ≤ x := fun x hx => by
 unfold lensL at hx
 obtain ⟨r, hr, rfl⟩ := List.mem_map.1 hx
 obtain ⟨p, hp⟩ := List.getElem?_of_mem hr
 obtain ⟨i, _, G⟩ := grp_at ((rightL_iff ls).2 hR) hp
 exact List.length_pos_of_mem G.self
def DirL (a b : Int) (k : Lk) : Prop := k.1 ∈ [a, b] ∧ k.2.1 ∈ [a, b]
instance instDirL (a b : Int) (k : Lk) : Decidable (DirL a b k) := by unfold DirL; infer_instance
def dirsL (ls : List Lk) (a b : Int) : List Lk := ls.filter fun k => decide (DirL a b k)
def SplitV (ls : List Lk) (a b : Int) : Prop := ∃ x y, x ∈ vertsL ls ∧ y ∈ vertsL ls ∧ x ∉ [a, b] ∧ y ∉ [a, b] ∧ ¬ VCon ls [a, b] x y
theorem two_right {ls : List Lk} (h : twoL ls = true) : RightL ls := by
 unfold twoL joinedL groupsL at h
 cases hr : rightL ls with
 | true => exact (rightL_iff ls).1 hr
 | false => rw [hr] at h; simp at h
theorem two_ne {ls : List Lk} (h : twoL ls = true) : ls ≠ [] := fun e => by
 subst e; exact absurd h (by decide)
theorem two_con0 {ls : List Lk} (h : twoL ls = true) {x y : Int} (hx : x ∈ vertsL ls) (hy : y ∈ vertsL ls) : VCon ls [] x y := by
 have hR := (rightL_iff ls).2 (two_right h)
 unfold twoL at h
 rw [Bool.and_eq_true] at h
 have h1 := h.1
 unfold joinedL at h1
 rw [beq_iff_eq, groups_one_v hR (fun e => by subst e; simp [vertsL, endsL] at hx) (by simp)] at h1
 exact h1 x y hx hy (by simp) (by simp)
theorem two_con1 {ls : List Lk} (h : twoL ls = true) (h3 : 3 ≤ (vertsL ls).length) {v x y : Int} (hv : v ∈ vertsL ls) (hx : x ∈ vertsL ls) (hy : y ∈ vertsL ls) (hxv : x ≠ v) (hyv : y ≠ v) : VCon ls [v] x y := by
 have hR := (rightL_iff ls).2 (two_right h)
 unfold twoL at h
 rw [Bool.and_eq_true, Bool.or_eq_true] at h
 have h2 := h.2.resolve_left (by simp; omega)
 rw [List.all_eq_true] at h2
 have h4 := h2 v hv
 rw [beq_iff_eq, groups_one_v hR (fun e => by subst e; simp [vertsL, endsL] at hx) (by simp)] at h4
 exact h4 x y hx hy (by simpa using hxv) (by simpa using hyv)
theorem third {vs : List Int} (hn : vs.Nodup) (h3 : 3 ≤ vs.length) (x y : Int) : ∃ z ∈ vs, z ≠ x ∧ z ≠ y := by
 refine Classical.byContradiction fun hno => ?_
 have : ∀ z ∈ vs, z ∈ [x, y] := fun z hz => by
  by_cases e1 : z = x
  · simp [e1]
  ·
   by_cases e2 : z = y
   · simp [e2]
   · exact absurd ⟨z, hz, e1, e2⟩ hno
 have := nodup_len_leZ hn this
 simp at this; omega
theorem two_deg {ls : List Lk} (h : twoL ls = true) (h3 : 3 ≤ (vertsL ls).length) {e : Lk} (he : e ∈ ls) {x : Int} (hx : x = e.1 ∨ x = e.2.1) : ∃ f ∈ ls, f ≠ e ∧ (x = f.1 ∨ x = f.2.1) := by
 have hR := two_right h
 have ok := hR.2.1 e he
 have hne := ok.2.1
 obtain ⟨y, hy⟩ : ∃ y, y = if x = e.1 then e.2.1 else e.1 := ⟨_, rfl⟩
 have hye : (x = e.1 ∧ y = e.2.1) ∨ (x = e.2.1 ∧ y = e.1) := by
  by_cases e1 : x = e.1
  · rw [if_pos e1] at hy; exact .inl ⟨e1, hy⟩
  · rw [if_neg e1] at hy; exact .inr ⟨hx.resolve_left e1, hy⟩
 have hxy : x ≠ y := by rcases hye with ⟨a1, a2⟩ | ⟨a1, a2⟩ <;> omega
 have hxv : x ∈ vertsL ls := (mem_vertsL ls x).2 ⟨e, he, hx⟩
 have hyv : y ∈ vertsL ls := (mem_vertsL ls y).2 ⟨e, he, by rcases hye with ⟨_, a2⟩ | ⟨_, a2⟩ <;> first | exact .inr a2 | exact .inl a2⟩
 obtain ⟨z, hz, hzx, hzy⟩ := third (verts_nodup ls) h3 x y
 refine Classical.byContradiction fun hno => ?_
 have hall : ∀ f ∈ ls, (x = f.1 ∨ x = f.2.1) → f = e := fun f hf hx => Classical.byContradiction fun hfe => hno ⟨f, hf, hfe, hx⟩
 have key : ∀ t, VCon ls [y] x t → t = x := by
  intro t ht
  induction ht with
  | refl => rfl
  | step _c0 h1 h2 h3 h4 ih =>
   rename_i a c k; subst ih; have hk := hall k h1 (by rcases h4 with ⟨b1, _⟩ | ⟨b1, _⟩ <;> first | exact .inl b1 | exact .inr b1); subst hk; simp only [List.mem_singleton] at h2 h3; rcases hye with ⟨a1, a2⟩ | ⟨a1, a2⟩ <;> omega
 exact hzx (key z (two_con1 h h3 hyv hxv hz hxy hzy))
theorem free_end {a b : Int} {e : Lk} (h : ¬ DirL a b e) : ∃ x, x ∉ [a, b] ∧ (x = e.1 ∨ x = e.2.1) := by
 unfold DirL at h
 by_cases h1 : e.1 ∈ [a, b]
 · exact ⟨e.2.1, fun h2 => h ⟨h1, h2⟩, .inr rfl⟩
 · exact ⟨e.1, h1, .inl rfl⟩
theorem two_in {l : List Lk} {e f : Lk} (he : e ∈ l) (hf : f ∈ l) (hne : f ≠ e) : 2 ≤ l.length := by
 match l, he, hf with
 | [x], he, hf => simp at he hf; exact absurd (hf.trans he.symm) hne
 | x :: y :: l, _, _ => simp
theorem grp_two {ls : List Lk} {a b : Int} (h : twoL ls = true) (h3 : 3 ≤ (vertsL ls).length) {r : List Lk} {i : Nat} (G : GrpAt ls [a, b] r i) {e : Lk} (he : e ∈ r) (hd : ¬ DirL a b e) : 2 ≤ r.length := by
 obtain ⟨x, hx, hxe⟩ := free_end hd
 obtain ⟨f, hf, hfe, hxf⟩ := two_deg h h3 (G.sub.subset he) hxe
 obtain ⟨j, hj, hc⟩ := (G.mem e).1 he
 obtain ⟨m, hm⟩ := List.getElem?_of_mem hf
 have : f ∈ r := (G.mem f).2 ⟨m, hm, Con.step hc (mem_bsL.2 ⟨e, f, hj, hm, (touchB_iff _ _ _).2 ⟨x, hx, hxe, hxf⟩⟩) (List.getElem?_eq_some_iff.1 hm).1⟩
 exact two_in he this hfe
theorem grp_dir {ls : List Lk} {a b : Int} (hR : RightL ls) {r : List Lk} {i : Nat} (G : GrpAt ls [a, b] r i) {e : Lk} (he : e ∈ r) (hd : DirL a b e) : r = [e] := by
 obtain ⟨j, hj, hc⟩ := (G.mem e).1 he
 have hall : ∀ m, LCon ls [a, b] j m → m = j := fun m hm => by
  refine Con.closed (fun t => t = j) (fun p q hp hq _ => ?_) rfl hm
  subst hp
  obtain ⟨x, y, hx, hy, ht⟩ := mem_bsL.1 hq
  rw [hj] at hx; cases hx
  obtain ⟨v, hv, hv1, _⟩ := (touchB_iff _ _ _).1 ht
  unfold DirL at hd
  rcases hv1 with rfl | rfl
  · exact absurd hd.1 hv
  · exact absurd hd.2 hv
 have hmem : ∀ f ∈ r, f = e := fun f hf => by
  obtain ⟨m, hm, hcm⟩ := (G.mem f).1 hf
  have := hall m (Con.trans (LCon.symm hc) hcm)
  subst this
  rw [hj] at hm; exact (Option.some.inj hm).symm
 have hn := right_nodup (right_sub hR G.sub)
 match r, he, hmem, hn with
 | [x], he, _, _ => simp at he; rw [he]
 | x :: y :: l, _, hm, hn =>
  have h1 := hm x (by simp)
  have h2 := hm y (by simp)
  rw [h1, h2] at hn; simp at hn
theorem dirs_two {ls : List Lk} {a b : Int} : 2 ≤ (dirsL ls a b).length → ls.Nodup → ∃ e f, e ∈ ls ∧ f ∈ ls ∧ f ≠ e ∧ DirL a b e ∧ DirL a b f := by
 intro h hn
 have hd : (dirsL ls a b).Nodup := hn.filter _
 match hl : dirsL ls a b, h with
 | e :: f :: l, _ =>
  have h1 : e ∈ dirsL ls a b := by rw [hl]; simp
  have h2 : f ∈ dirsL ls a b := by rw [hl]; simp
  unfold dirsL at h1 h2
  rw [List.mem_filter, decide_eq_true_eq] at h1 h2
  rw [hl] at hd
  refine ⟨e, f, h1.1, h2.1, fun e2 => ?_, h1.2, h2.2⟩
  subst e2; simp at hd
theorem dirs_of {ls : List Lk} {a b : Int} {e f : Lk} (he : e ∈ ls) (hf : f ∈ ls) (hne : f ≠ e) (hde : DirL a b e) (hdf : DirL a b f) : 2 ≤ (dirsL ls a b).length :=
 two_in (l := dirsL ls a b) (List.mem_filter.2 ⟨he, by simpa using hde⟩) (List.mem_filter.2 ⟨hf, by simpa using hdf⟩) hne
theorem lens_at {g : List (List Lk)} {p : Nat} {r : List Lk} (h : g[p]? = some r) : (lensL g)[p]? = some r.length := by unfold lensL; rw [List.getElem?_map, h]; rfl
theorem ones_le (L : List Nat) : onesN L ≤ L.length := List.length_filter_le _ _
theorem ones_lt {L : List Nat} {p x : Nat} (h : L[p]? = some x) (hx : x ≠ 1) : onesN L < L.length := by
 induction L generalizing p with
 | nil => simp at h
 | cons a L ih =>
  rw [onesN_cons, List.length_cons]
  cases p with
  | zero =>
   simp at h; subst h; have := ones_le L; simp [hx]; omega
  | succ p =>
   have := ih (by simpa using h); split <;> omega
theorem ones_pos {L : List Nat} {p : Nat} (h : L[p]? = some 1) : 0 < onesN L := by
 unfold onesN
 exact List.length_pos_of_mem (List.mem_filter.2 ⟨List.mem_of_getElem? h, by simp⟩)
theorem pair_iff {ls : List Lk} {a b : Int} (h : twoL ls = true) (h3 : 3 ≤ (vertsL ls).length) : pairP ls a b = true ↔ SplitV ls a b ∨ 2 ≤ (dirsL ls a b).length := by
 have hR := two_right h
 have hr := (rightL_iff ls).2 hR
 have hat : ∀ p, p < (groupsL ls [a, b]).length → ∃ r i, (groupsL ls [a, b])[p]? = some r ∧ (firsts (compC ls.length (bsL ls [a, b])) ls.length)[p]? = some i ∧ GrpAt ls [a, b] r i := fun p hp => by
  obtain ⟨i, hi, G⟩ := grp_at hr (List.getElem?_eq_getElem hp)
  exact ⟨_, i, List.getElem?_eq_getElem hp, hi, G⟩
 constructor
 ·
  intro hp
  refine Classical.byContradiction fun hno => ?_
  have hnd : ¬ 2 ≤ (dirsL ls a b).length := fun e => hno (.inr e)
  have hns : ∀ x y, x ∈ vertsL ls → y ∈ vertsL ls → x ∉ [a, b] → y ∉ [a, b] → VCon ls [a, b] x y := fun x y hx hy h1 h2 => Classical.byContradiction fun hc => hno (.inl ⟨x, y, hx, hy, h1, h2, hc⟩)
  have pairs : ∀ p q, p ≠ q → p < (groupsL ls [a, b]).length → q < (groupsL ls [a, b]).length →
    ∃ t r e, (t = p ∨ t = q) ∧ (groupsL ls [a, b])[t]? = some r ∧ r = [e] ∧ DirL a b e ∧ ∀ s r' e', (s = p ∨ s = q) → s ≠ t → (groupsL ls [a, b])[s]? = some r' → e' ∈ r' → ¬ DirL a b e' := by
   intro p q hpq hp hq; obtain ⟨r1, i1, hr1, hf1, G1⟩ := hat p hp; obtain ⟨r2, i2, hr2, hf2, G2⟩ := hat q hq; have hn := grp_differ hf1 hf2 hpq; have hnb : ∀ e f, e ∈ r1 → f ∈ r2 → DirL a b e → DirL a b f → False := fun e f he hf hde hdf => by
    refine hnd (dirs_of (G1.sub.subset he) (G2.sub.subset hf) (fun e2 => ?_) hde hdf); subst e2; obtain ⟨j, hj, hc⟩ := (G1.mem f).1 he; exact hn (Con.trans hc (LCon.symm ((G2.con hR hj).1 hf)))
   have e1 := G1.self; have e2 := G2.self; by_cases d1 : DirL a b (ls[i1]'G1.lt)
   ·
    refine ⟨p, r1, _, .inl rfl, hr1, grp_dir hR G1 e1 d1, d1, ?_⟩; rintro s r' e' (rfl | rfl) hs hr' he' hd'
    · exact hs rfl
    ·
     rw [hr2] at hr'; cases hr'; exact hnb _ _ e1 he' d1 hd'
   ·
    by_cases d2 : DirL a b (ls[i2]'G2.lt)
    ·
     refine ⟨q, r2, _, .inr rfl, hr2, grp_dir hR G2 e2 d2, d2, ?_⟩; rintro s r' e' (rfl | rfl) hs hr' he' hd'
     ·
      rw [hr1] at hr'; cases hr'; exact hnb _ _ he' e2 hd' d2
     · exact hs rfl
    ·
     obtain ⟨x, hx, hxe⟩ := free_end d1; obtain ⟨y, hy, hye⟩ := free_end d2; have hxv := (mem_vertsL ls x).2 ⟨_, G1.sub.subset e1, hxe⟩; have hyv := (mem_vertsL ls y).2 ⟨_, G2.sub.subset e2, hye⟩; exact absurd (LCon.of_vcon (List.getElem?_eq_getElem G1.lt) (List.getElem?_eq_getElem G2.lt) hx hy hxe hye (hns x y hxv hyv hx hy)) hn
  have hlen : (lensL (groupsL ls [a, b])).length = (groupsL ls [a, b]).length := by simp [lensL]
  unfold pairP partsN at hp
  rw [hlen] at hp
  by_cases l1 : (groupsL ls [a, b]).length ≤ 1
  · rw [if_pos l1] at hp; cases hp
  ·
   rw [if_neg l1] at hp; obtain ⟨t, r, e, ht, hr', hre, hde, hoth⟩ := pairs 0 1 (by omega) (by omega) (by omega); have h1 : (lensL (groupsL ls [a, b]))[t]? = some 1 := by rw [lens_at hr', hre]; rfl
   have := ones_pos h1; by_cases l2 : (groupsL ls [a, b]).length = 2
   ·
    rw [if_pos l2] at hp; simp at hp; omega
   ·
    
    obtain ⟨s, hs, hst⟩ : ∃ s, (s = 0 ∨ s = 1) ∧ s ≠ t := by rcases ht with rfl | rfl <;> first | exact ⟨1, by omega, by omega⟩ | exact ⟨0, by omega, by omega⟩
    have hsl : s < (groupsL ls [a, b]).length := by omega
    obtain ⟨rs, is, hrs, _, Gs⟩ := hat s hsl; have hnds := hoth s rs _ hs hst hrs Gs.self; obtain ⟨t2, r2, e2, ht2, hr2, hre2, hde2, hoth2⟩ := pairs 2 s (by omega) (by omega) (by omega); rcases ht2 with rfl | rfl
    ·
     obtain ⟨t3, r3, e3, ht3, hr3, hre3, hde3, hoth3⟩ := pairs 2 t (by omega) (by omega) (by omega); rcases ht3 with rfl | rfl
     · exact hoth3 t r e (.inr rfl) (by omega) hr' (by rw [hre]; simp) hde
     · exact hoth3 2 r2 e2 (.inl rfl) (by omega) hr2 (by rw [hre2]; simp) hde2
    ·
     rw [hrs] at hr2; cases hr2; have hs1 := Gs.self; obtain ⟨q, hq⟩ : ∃ q, q = ls[is]'Gs.lt := ⟨_, rfl⟩
     rw [← hq] at hs1 hnds; rw [hre2] at hs1; rw [List.mem_singleton.1 hs1] at hnds; exact hnds hde2
 ·
  intro hor
  have hfree : ∀ x, x ∈ vertsL ls → x ∉ [a, b] → ∃ (p : Nat) (r : List Lk) (i : Nat) (e : Lk), (groupsL ls [a, b])[p]? = some r ∧ (firsts (compC ls.length (bsL ls [a, b])) ls.length)[p]? = some i ∧ GrpAt ls [a, b] r i ∧ e ∈ r ∧ (x = e.1 ∨ x = e.2.1) ∧ 2 ≤ r.length := by
   intro x hx hxw; obtain ⟨e, he, hxe⟩ := (mem_vertsL ls x).1 hx; obtain ⟨j, hj⟩ := List.getElem?_of_mem he; obtain ⟨p, r, hp, her⟩ := grp_all (wo := [a, b]) hR hj; obtain ⟨i, hi, G⟩ := grp_at hr hp; refine ⟨p, r, i, e, hp, hi, G, her, hxe, grp_two h h3 G her fun hd => ?_⟩; unfold DirL at hd; rcases hxe with rfl | rfl
   · exact hxw hd.1
   · exact hxw hd.2
  have hlen : (lensL (groupsL ls [a, b])).length = (groupsL ls [a, b]).length := by simp [lensL]
  rcases hor with ⟨x, y, hx, hy, hxw, hyw, hc⟩ | hd
  ·
   obtain ⟨p, r, i, e, hp, hi, G, he, hxe, hrl⟩ := hfree x hx hxw; obtain ⟨q, s, j, f, hq, hj, H, hf, hyf, hsl⟩ := hfree y hy hyw; have hpq : p ≠ q := fun e2 => by
    subst e2; rw [hp] at hq; cases hq; obtain ⟨m, hm, hcm⟩ := (G.mem e).1 he; obtain ⟨n, hn, hcn⟩ := (G.mem f).1 hf; exact hc (VCon.of_lcon (Con.trans (LCon.symm hcm) hcn) hm hxw hxe hn hyw hyf)
   have hpl := (List.getElem?_eq_some_iff.1 hp).1; have hql := (List.getElem?_eq_some_iff.1 hq).1; unfold pairP partsN; have o1 := ones_lt (lens_at hp) (by omega); rw [hlen] at o1 ⊢; rw [if_neg (by omega)]; by_cases l2 : (groupsL ls [a, b]).length = 2
   ·
    rw [if_pos l2, beq_iff_eq]; have hL : ∀ x ∈ lensL (groupsL ls [a, b]), x ≠ 1 := fun x hx => by
     obtain ⟨m, hm⟩ := List.getElem?_of_mem hx; have hml := (List.getElem?_eq_some_iff.1 hm).1; rw [hlen] at hml; have : m = p ∨ m = q := by omega
     rcases this with rfl | rfl
     · rw [lens_at hp] at hm; cases hm; omega
     · rw [lens_at hq] at hm; cases hm; omega
    unfold onesN; rw [List.length_eq_zero_iff, List.filter_eq_nil_iff]; exact fun x hx => by simpa using hL x hx
   ·
    rw [if_neg l2]; by_cases l3 : (groupsL ls [a, b]).length = 3
    · rw [if_pos l3, decide_eq_true_eq]; omega
    · rw [if_neg l3]
  ·
   obtain ⟨e, f, he, hf, hfe, hde, hdf⟩ := dirs_two hd (right_nodup hR); obtain ⟨z, hz, hza, hzb⟩ := third (verts_nodup ls) h3 a b; obtain ⟨p, r, i, g, hp, hi, G, hg, hzg, hrl⟩ := hfree z hz (by simp [hza, hzb]); obtain ⟨je, hje⟩ := List.getElem?_of_mem he; obtain ⟨jf, hjf⟩ := List.getElem?_of_mem hf; obtain ⟨q1, s1, hq1, hes⟩ := grp_all (wo := [a, b]) hR hje; obtain ⟨q2, s2, hq2, hfs⟩ := grp_all (wo := [a, b]) hR hjf; obtain ⟨i1, hi1, G1⟩ := grp_at hr hq1; obtain ⟨i2, hi2, G2⟩ := grp_at hr hq2; have es1 := grp_dir hR G1 hes hde; have es2 := grp_dir hR G2 hfs hdf; have n1 : q1 ≠ q2 := fun e2 => by
    subst e2; rw [hq1] at hq2; cases hq2; rw [es1] at hfs; simp at hfs; exact hfe hfs
   have n2 : q1 ≠ p := fun e2 => by
    subst e2; rw [hq1] at hp; cases hp; rw [es1] at hrl; simp at hrl
   have n3 : q2 ≠ p := fun e2 => by
    subst e2; rw [hq2] at hp; cases hp; rw [es2] at hrl; simp at hrl
   have b1 := (List.getElem?_eq_some_iff.1 hq1).1; have b2 := (List.getElem?_eq_some_iff.1 hq2).1; have b3 := (List.getElem?_eq_some_iff.1 hp).1; have o1 := ones_lt (lens_at hp) (by omega); unfold pairP partsN; rw [hlen] at o1 ⊢; rw [if_neg (by omega), if_neg (by omega)]; by_cases l3 : (groupsL ls [a, b]).length = 3
   · rw [if_pos l3, decide_eq_true_eq]; omega
   · rw [if_neg l3]
end Go.Proofs.YtagcbnpahgfgmaaGreat
namespace Go.Proofs.YtagcbnpahgfgmaaGreat
theorem split_cut {ls : List Lk} (h : twoL ls = true) (h3 : 3 ≤ (vertsL ls).length) {i u : Nat} {a b : Int} (hi : (vertsL ls)[i]? = some a) (hu : (vertsL ls)[u]? = some b) (hiu : i ≠ u)
  {j : Bool} {cut : Nat → Bool} (hc : CutSpec (vertsL ls).length (nbN (vertsL ls) ls) (i : Int) j cut) : cut u = true ↔ SplitV ls a b := by
 have hR := two_right h
 have hok := hR.2.1
 have hil := (List.getElem?_eq_some_iff.1 hi).1
 have hul := (List.getElem?_eq_some_iff.1 hu).1
 have hid : ∀ x y z : Nat, (vertsL ls)[x]? = some a → x = i := fun x _ _ hx => nodup_idx (verts_nodup ls) hx hi
 have pres : ∀ x, Pres (vertsL ls).length (i : Int) x ↔ x < (vertsL ls).length ∧ x ≠ i := fun x => ⟨fun hx => ⟨hx.1, fun e => hx.2 (by rw [e])⟩, fun hx => ⟨hx.1, fun e => hx.2 (by omega)⟩⟩
 have hS1 : ∀ x, x < (vertsL ls).length → (Pres (vertsL ls).length (i : Int) x ↔ ∀ v, (vertsL ls)[x]? = some v → v ∉ [a]) := fun x hx => by
  rw [pres]
  constructor
  ·
   rintro ⟨_, hne⟩ v hv hva; simp at hva; subst hva; exact hne (nodup_idx (verts_nodup ls) hv hi)
  ·
   intro hv; exact ⟨hx, fun e => hv a (by rw [e]; exact hi) (by simp)⟩
 have hS2 : ∀ x, x < (vertsL ls).length → (Av (vertsL ls).length (i : Int) u x ↔ ∀ v, (vertsL ls)[x]? = some v → v ∉ [a, b]) := fun x hx => by
  unfold Av
  rw [pres]
  constructor
  ·
   rintro ⟨⟨_, hne⟩, hne2⟩ v hv hva; simp at hva; rcases hva with rfl | rfl
   · exact hne (nodup_idx (verts_nodup ls) hv hi)
   · exact hne2 (nodup_idx (verts_nodup ls) hv hu)
  ·
   intro hv; exact ⟨⟨hx, fun e => hv a (by rw [e]; exact hi) (by simp)⟩, fun e => hv b (by rw [e]; exact hu) (by simp)⟩
 have hav : ∀ x, Av (vertsL ls).length (i : Int) u x → x < (vertsL ls).length := fun x hx => ((pres x).1 hx.1).1
 have ham : a ∈ vertsL ls := List.mem_of_getElem? hi
 have hj : j = true := hc.join_iff.2 fun x y hx hy => by
  have hx' := (pres x).1 hx; have hy' := (pres y).1 hy
  have nx := (hS1 x hx'.1).1 hx _ (List.getElem?_eq_getElem hx'.1)
  have ny := (hS1 y hy'.1).1 hy _ (List.getElem?_eq_getElem hy'.1)
  have := (con_vcon hok hS1 (List.getElem_mem hx'.1) (List.getElem_mem hy'.1) nx ny).2 (two_con1 h h3 ham (List.getElem_mem _) (List.getElem_mem _) (by simpa using nx) (by simpa using ny))
  rwa [idxOf_get (verts_nodup ls) hx'.1, idxOf_get (verts_nodup ls) hy'.1] at this
 have hci := hc.cut_iff hj u ((pres u).2 ⟨hul, fun e => hiu e.symm⟩)
 rw [hci]
 constructor
 ·
  rintro ⟨x, y, hx, hy, hno⟩
  have hx' := hav x hx; have hy' := hav y hy
  have nx := (hS2 x hx').1 hx _ (List.getElem?_eq_getElem hx')
  have ny := (hS2 y hy').1 hy _ (List.getElem?_eq_getElem hy')
  refine ⟨_, _, List.getElem_mem hx', List.getElem_mem hy', nx, ny, fun hv => hno ?_⟩
  have := (con_vcon hok hS2 (List.getElem_mem hx') (List.getElem_mem hy') nx ny).2 hv
  rwa [idxOf_get (verts_nodup ls) hx', idxOf_get (verts_nodup ls) hy'] at this
 ·
  rintro ⟨x, y, hx, hy, nx, ny, hno⟩
  have sx := (hS2 _ (List.idxOf_lt_length_of_mem hx)).2 fun z hz => by rw [get_idxOf hx] at hz; cases hz; exact nx
  have sy := (hS2 _ (List.idxOf_lt_length_of_mem hy)).2 fun z hz => by rw [get_idxOf hy] at hz; cases hz; exact ny
  exact ⟨_, _, sx, sy, fun hc => hno ((con_vcon hok hS2 hx hy nx ny).1 hc)⟩
theorem nb_count {vs : List Int} {i u : Nat} {a b : Int} (hn : vs.Nodup) (hi : vs[i]? = some a) (hu : vs[u]? = some b) (hiu : i ≠ u) : ∀ (ls : List Lk), (∀ k ∈ ls, k.1 ∈ vs ∧ k.2.1 ∈ vs ∧ k.1 ≠ k.2.1) → (nbN vs ls i).count u = (dirsL ls a b).length := by
 have ix : ∀ x, x ∈ vs → (vs.idxOf x = i ↔ x = a) := fun x hx => ⟨fun e => by have := get_idxOf hx; rw [e, hi] at this; exact (Option.some.inj this).symm, fun e => by subst e; exact nodup_idx hn (get_idxOf hx) hi⟩
 have ux : ∀ x, x ∈ vs → (vs.idxOf x = u ↔ x = b) := fun x hx => ⟨fun e => by have := get_idxOf hx; rw [e, hu] at this; exact (Option.some.inj this).symm, fun e => by subst e; exact nodup_idx hn (get_idxOf hx) hu⟩
 have hab : a ≠ b := fun e => by subst e; exact hiu (nodup_idx hn hi hu)
 intro ls
 induction ls with
 | nil => intro _; simp [nbN, dirsL]
 | cons k ls ih =>
  intro hk
  obtain ⟨k1, k2, k3⟩ := hk k (by simp)
  have ih' := ih fun k hk' => hk k (by simp [hk'])
  have e1 : nbN vs (k :: ls) i = (if vs.idxOf k.1 = i then [vs.idxOf k.2.1] else if vs.idxOf k.2.1 = i then [vs.idxOf k.1] else []) ++ nbN vs ls i := by unfold nbN; rw [List.flatMap_cons]
  have e2 : (dirsL (k :: ls) a b).length = (if DirL a b k then 1 else 0) + (dirsL ls a b).length := by
   unfold dirsL; rw [List.filter_cons]; by_cases h : DirL a b k <;> simp [h]; omega
  rw [e1, e2, List.count_append, ih']
  congr 1
  unfold DirL
  simp only [ix _ k1, ix _ k2, List.mem_cons, List.not_mem_nil, or_false]
  by_cases c1 : k.1 = a
  ·
   rw [if_pos c1]; by_cases c2 : k.2.1 = b
   ·
    have := (ux _ k2).2 c2; rw [this, if_pos (by simp [c1, c2])]; simp
   ·
    have : ¬ vs.idxOf k.2.1 = u := fun e => c2 ((ux _ k2).1 e); have c3 : ¬ k.2.1 = a := fun e => k3 (c1.trans e.symm); rw [if_neg (by rintro ⟨_, h | h⟩ <;> contradiction)]; rw [List.count_eq_zero]; simpa using fun e => this e.symm
  ·
   rw [if_neg c1]; by_cases c2 : k.2.1 = a
   ·
    rw [if_pos c2]; by_cases c3 : k.1 = b
    ·
     have := (ux _ k1).2 c3; rw [this, if_pos (by simp [c2, c3])]; simp
    ·
     have : ¬ vs.idxOf k.1 = u := fun e => c3 ((ux _ k1).1 e); rw [if_neg (by rintro ⟨h | h, _⟩ <;> contradiction)]; rw [List.count_eq_zero]; simpa using fun e => this e.symm
   ·
    rw [if_neg c2, if_neg]
    · rfl
    ·
     rintro ⟨h | h, h' | h'⟩ <;> try contradiction
     exact k3 (h.trans h'.symm)
theorem nb_dirs {ls : List Lk} (hR : RightL ls) {i u : Nat} {a b : Int} (hi : (vertsL ls)[i]? = some a) (hu : (vertsL ls)[u]? = some b) (hiu : i ≠ u) : (nbN (vertsL ls) ls i).count u = (dirsL ls a b).length :=
 nb_count (verts_nodup ls) hi hu hiu ls fun k hk => ⟨(mem_vertsL ls _).2 ⟨k, hk, .inl rfl⟩, (mem_vertsL ls _).2 ⟨k, hk, .inr rfl⟩, by have := (hR.2.1 k hk).2.1; omega⟩
theorem pair_ask {ls : List Lk} (h : twoL ls = true) (h3 : 3 ≤ (vertsL ls).length) {i u : Nat} {a b : Int} (hi : (vertsL ls)[i]? = some a) (hu : (vertsL ls)[u]? = some b) (hiu : i ≠ u)
  {j : Bool} {cut : Nat → Bool} (hc : CutSpec (vertsL ls).length (nbN (vertsL ls) ls) (i : Int) j cut) : (cut u || decide (1 < (nbN (vertsL ls) ls i).count u)) = pairP ls a b := by
 rw [Bool.eq_iff_iff, pair_iff h h3, ← split_cut h h3 hi hu hiu hc, nb_dirs (two_right h) hi hu hiu]
 simp only [Bool.or_eq_true, decide_eq_true_eq]
 exact Iff.rfl
structure FirstAt (B : Nat → Nat → Bool) (n i k : Nat) : Prop where
 lt : i < k
 ltn : k < n
 yes : B i k = true
 row : ∀ k', i < k' → k' < k → B i k' = false
 rows : ∀ i' k', i' < i → i' < k' → k' < n → B i' k' = false
theorem FirstAt.one {B : Nat → Nat → Bool} {n i k i' k' : Nat} (h : FirstAt B n i k) (h' : FirstAt B n i' k') : i = i' ∧ k = k' := by
 have hi : i = i' := by
  rcases Nat.lt_trichotomy i i' with e | e | e
  · have := h'.rows i k e h.lt h.ltn; rw [h.yes] at this; cases this
  · exact e
  · have := h.rows i' k' e h'.lt h'.ltn; rw [h'.yes] at this; cases this
 subst hi
 refine ⟨rfl, ?_⟩
 rcases Nat.lt_trichotomy k k' with e | e | e
 · have := h'.row k h.lt e; rw [h.yes] at this; cases this
 · exact e
 · have := h.row k' h'.lt e; rw [h'.yes] at this; cases this
def pairAt (ls : List Lk) (i k : Nat) : Bool := pairP ls ((vertsL ls).getD i 0) ((vertsL ls).getD k 0)
open Classical in
noncomputable def firstL (ls : List Lk) : Int × Int × Bool × Int :=
 if twoL ls = true then if h : ∃ p : Nat × Nat, FirstAt (pairAt ls) (vertsL ls).length p.1 p.2 then ((vertsL ls).getD h.choose.1 0, (vertsL ls).getD h.choose.2 0, true, 0) else (0, 0, false, 0) else (0, 0, false, 130)
theorem first_no {ls : List Lk} (h : twoL ls = false) : firstL ls = (0, 0, false, 130) := by unfold firstL; rw [if_neg (by rw [h]; simp)]
theorem first_at {ls : List Lk} (h : twoL ls = true) {i k : Nat} (hf : FirstAt (pairAt ls) (vertsL ls).length i k) : firstL ls = ((vertsL ls).getD i 0, (vertsL ls).getD k 0, true, 0) := by
 unfold firstL
 have hex : ∃ p : Nat × Nat, FirstAt (pairAt ls) (vertsL ls).length p.1 p.2 := ⟨(i, k), hf⟩
 rw [if_pos h, dif_pos hex]
 obtain ⟨e1, e2⟩ := FirstAt.one hex.choose_spec hf
 rw [e1, e2]
theorem first_none {ls : List Lk} (h : twoL ls = true) (hf : ∀ i k, i < k → k < (vertsL ls).length → pairAt ls i k = false) : firstL ls = (0, 0, false, 0) := by
 unfold firstL
 rw [if_pos h, dif_neg]
 rintro ⟨p, hp⟩
 have := hf _ _ hp.lt hp.ltn
 rw [hp.yes] at this; cases this
theorem all_dir {ls : List Lk} (hR : RightL ls) (h2 : (vertsL ls).length = 2) {e : Lk} (he : e ∈ ls) : DirL ((vertsL ls).getD 0 0) ((vertsL ls).getD 1 0) e := by
 have h1 := (mem_vertsL ls e.1).2 ⟨e, he, .inl rfl⟩
 have h3 := (mem_vertsL ls e.2.1).2 ⟨e, he, .inr rfl⟩
 match hv : vertsL ls, h2 with
 | [x, y], _ => rw [hv] at h1 h3; exact ⟨h1, h3⟩
theorem pair_small {ls : List Lk} (hR : RightL ls) (h2 : (vertsL ls).length = 2) : pairAt ls 0 1 = decide (4 ≤ ls.length) := by
 have hr := (rightL_iff ls).2 hR
 have hall : ∀ x ∈ lensL (groupsL ls [(vertsL ls).getD 0 0, (vertsL ls).getD 1 0]), x = 1 := fun x hx => by
  unfold lensL at hx
  obtain ⟨r, hrm, rfl⟩ := List.mem_map.1 hx
  obtain ⟨p, hp⟩ := List.getElem?_of_mem hrm
  obtain ⟨i, _, G⟩ := grp_at hr hp
  rw [grp_dir hR G G.self (all_dir hR h2 (G.sub.subset G.self))]; rfl
 have hs := lens_sum (wo := [(vertsL ls).getD 0 0, (vertsL ls).getD 1 0]) hR
 unfold pairAt pairP
 generalize lensL (groupsL ls [(vertsL ls).getD 0 0, (vertsL ls).getD 1 0]) = L at hall hs
 have hL : ∀ M : List Nat, (∀ x ∈ M, x = 1) → M.sum = M.length ∧ onesN M = M.length := fun M => by
  induction M with
  | nil => intro _; exact ⟨rfl, rfl⟩
  | cons a M ih =>
   intro h; obtain ⟨i1, i2⟩ := ih fun x hx => h x (by simp [hx]); have ha := h a (by simp); rw [onesN_cons, i2]; simp [ha, i1]; omega
 obtain ⟨s1, s2⟩ := hL L hall
 unfold partsN
 rw [s2, ← hs, s1]
 by_cases c1 : L.length ≤ 1
 · rw [if_pos c1]; simp; omega
 ·
  rw [if_neg c1]
  by_cases c2 : L.length = 2
  · rw [if_pos c2, c2]; rfl
  ·
   rw [if_neg c2]; by_cases c3 : L.length = 3
   · rw [if_pos c3, c3]; rfl
   · rw [if_neg c3]; simp; omega
theorem two_verts {ls : List Lk} (h : twoL ls = true) : 2 ≤ (vertsL ls).length := by
 have hR := two_right h
 obtain ⟨e, he⟩ := List.exists_mem_of_ne_nil _ (two_ne h)
 have h1 := (mem_vertsL ls e.1).2 ⟨e, he, .inl rfl⟩
 have h2 := (mem_vertsL ls e.2.1).2 ⟨e, he, .inr rfl⟩
 have h3 := (hR.2.1 e he).2.1
 match hv : vertsL ls with
 | [] => rw [hv] at h1; simp at h1
 | [x] => rw [hv] at h1 h2; simp at h1 h2; omega
 | x :: y :: l => simp
def mayB (ls : List Lk) (a b : Int) : Bool := !(a == b) && twoL ls && (vertsL ls).contains a && (vertsL ls).contains b
def classesL (ls : List Lk) (a b : Int) : List (List Lk) × Int := if mayB ls a b then (groupsL ls [a, b], 0) else ([], 130)
end Go.Proofs.YtagcbnpahgfgmaaGreat
namespace Go.Proofs.YtagcbnpahgfgmaaGreat
def firstIK (B : Nat → Nat → Bool) (n : Nat) : Option (Nat × Nat) := (List.range n).findSome? fun i => ((List.range n).find? fun k => decide (i < k) && B i k).map fun k => (i, k)
theorem firstIK_none {B : Nat → Nat → Bool} {n : Nat} (h : firstIK B n = none) : ∀ i k, i < k → k < n → B i k = false := by
 intro i k hik hk
 unfold firstIK at h
 rw [List.findSome?_eq_none_iff] at h
 have h1 := h i (List.mem_range.2 (by omega))
 rw [Option.map_eq_none_iff, List.find?_eq_none] at h1
 have := h1 k (List.mem_range.2 hk)
 simpa [hik] using this
theorem firstIK_some {B : Nat → Nat → Bool} {n i k : Nat} (h : firstIK B n = some (i, k)) : FirstAt B n i k := by
 unfold firstIK at h
 rw [List.findSome?_eq_some_iff] at h
 obtain ⟨l1, a, l2, e, ha, hb⟩ := h
 rw [Option.map_eq_some_iff] at ha
 obtain ⟨k', hk', he⟩ := ha
 cases he
 rw [List.find?_range_eq_some] at hk'
 obtain ⟨h1, h2, h3⟩ := hk'
 simp only [Bool.and_eq_true, decide_eq_true_eq] at h1
 rw [List.mem_range] at h2
 have hl1 : l1 = List.range i := by
  have h5 := congrArg (List.take l1.length) e
  rw [List.take_left, List.take_range] at h5
  have hlen : l1.length = i := by
   have h6 := congrArg (fun l => l[l1.length]?) e; simp only [List.getElem?_append_right (Nat.le_refl _), Nat.sub_self, List.getElem?_cons_zero] at h6; rw [List.getElem?_eq_some_iff] at h6; obtain ⟨h7, h8⟩ := h6; simpa using h8
  rw [← h5, hlen, Nat.min_eq_left (by omega)]
 refine ⟨h1.1, h2, h1.2, fun k2 a1 a2 => ?_, fun i2 k2 a1 a2 a3 => ?_⟩
 ·
  have := h3 k2 a2
  simpa [a1] using this
 ·
  have h9 := hb i2 (by rw [hl1]; exact List.mem_range.2 a1)
  rw [Option.map_eq_none_iff, List.find?_eq_none] at h9
  have := h9 k2 (List.mem_range.2 a3)
  simpa [a2] using this
def firstC (ls : List Lk) : Int × Int × Bool × Int :=
 if twoL ls then match firstIK (pairAt ls) (vertsL ls).length with
  | some p => ((vertsL ls).getD p.1 0, (vertsL ls).getD p.2 0, true, 0)
  | none => (0, 0, false, 0)
 else (0, 0, false, 130)
theorem first_c (ls : List Lk) : firstL ls = firstC ls := by
 unfold firstC
 cases h : twoL ls with
 | false => rw [first_no h]; rfl
 | true =>
  simp only [if_true]
  cases hf : firstIK (pairAt ls) (vertsL ls).length with
  | none => rw [first_none h (firstIK_none hf)]
  | some p => rw [first_at h (firstIK_some hf)]
theorem firstC_true {ls : List Lk} {a b er : Int} (h : firstC ls = (a, b, true, er)) : twoL ls = true ∧ a ∈ vertsL ls ∧ b ∈ vertsL ls ∧ a < b ∧ pairP ls a b = true ∧ er = 0 := by
 unfold firstC at h
 cases h2 : twoL ls with
 | false => rw [h2] at h; simp at h
 | true =>
  rw [h2] at h
  simp only [if_true] at h
  cases hf : firstIK (pairAt ls) (vertsL ls).length with
  | none => rw [hf] at h; simp at h
  | some p =>
   rw [hf] at h; simp only [Prod.mk.injEq] at h; obtain ⟨e1, e2, _, e4⟩ := h; have hfa := firstIK_some (i := p.1) (k := p.2) hf; have hil : p.1 < (vertsL ls).length := by have := hfa.lt; have := hfa.ltn; omega
   have g1 : (vertsL ls).getD p.1 0 = (vertsL ls)[p.1] := by simp [List.getD, hil]
   have g2 : (vertsL ls).getD p.2 0 = (vertsL ls)[p.2]'hfa.ltn := by simp [List.getD, hfa.ltn]
   have hy := hfa.yes; unfold pairAt at hy; rw [e1, e2] at hy; rw [g1] at e1; rw [g2] at e2; refine ⟨rfl, by rw [← e1]; exact List.getElem_mem _, by rw [← e2]; exact List.getElem_mem _, ?_, hy, e4.symm⟩; rw [← e1, ← e2]; exact List.pairwise_iff_getElem.1 (vertsL_sorted ls) _ _ hil hfa.ltn hfa.lt
theorem mem_le_sum {L : List Nat} {x : Nat} (h : x ∈ L) : x ≤ L.sum := by
 induction L with
 | nil => simp at h
 | cons c L ih =>
  rw [List.sum_cons]
  rcases List.mem_cons.1 h with rfl | h
  · omega
  · have := ih h; omega
def chosenB (n : Nat) (c : List Lk) : Bool := decide (1 < c.length) && decide (1 < (n : Int) - (c.length : Int))
def fromTo (n : Nat) (G : List (List Lk)) : Nat × Nat := match G.findIdx? (chosenB n) with
 | some i => (i, i + 1)
 | none => (0, 2)
def inS (f t : Nat) (G : List (List Lk)) (i : Nat) : List Lk := (List.range i).flatMap fun j => if f ≤ j ∧ j < t then G.getD j [] else []
def outS (f t : Nat) (G : List (List Lk)) (i : Nat) : List Lk := (List.range i).flatMap fun j => if f ≤ j ∧ j < t then [] else G.getD j []
theorem inS_succ (f t : Nat) (G : List (List Lk)) (i : Nat) (h : i < G.length) : inS f t G (i + 1) = inS f t G i ++ if f ≤ i ∧ i < t then G[i] else [] := by
 unfold inS
 rw [List.range_succ, List.flatMap_append]; simp [List.getD, h]
theorem outS_succ (f t : Nat) (G : List (List Lk)) (i : Nat) (h : i < G.length) : outS f t G (i + 1) = outS f t G i ++ if f ≤ i ∧ i < t then [] else G[i] := by
 unfold outS
 rw [List.range_succ, List.flatMap_append]; simp [List.getD, h]
def sidesL (ls : List Lk) (a b num : Int) : List Lk × List Lk :=
 let G := groupsL ls [a, b]
 let ft := fromTo ls.length G
 (sortL ((a, b, num) :: inS ft.1 ft.2 G G.length), sortL ((a, b, num) :: outS ft.1 ft.2 G G.length))
theorem inS_len (f t : Nat) (G : List (List Lk)) : ∀ i, i ≤ G.length → (inS f t G i).length + (outS f t G i).length = (lensL (G.take i)).sum := by
 intro i
 induction i with
 | zero => intro _; simp [inS, outS, lensL]
 | succ i ih =>
  intro h
  rw [inS_succ f t G i (by omega), outS_succ f t G i (by omega), List.length_append, List.length_append, List.take_succ_eq_append_getElem (by omega)]
  have := ih (by omega)
  unfold lensL at this ⊢
  rw [List.map_append, List.sum_append]
  by_cases hc : f ≤ i ∧ i < t
  · rw [if_pos hc, if_pos hc]; simp only [List.length_nil, List.map_cons, List.map_nil, List.sum_cons, List.sum_nil]; omega
  · rw [if_neg hc, if_neg hc]; simp only [List.length_nil, List.map_cons, List.map_nil, List.sum_cons, List.sum_nil]; omega
theorem inS_one (G : List (List Lk)) (p : Nat) : ∀ i, i ≤ G.length → (inS p (p + 1) G i).length = if p < i then (G.getD p []).length else 0 := by
 intro i
 induction i with
 | zero => intro _; simp [inS]
 | succ i ih =>
  intro h
  rw [inS_succ _ _ G i (by omega), List.length_append, ih (by omega)]
  by_cases e : p = i
  ·
   subst e; rw [if_neg (by omega), if_pos (by omega), if_pos (by omega)]; simp [List.getD, show p < G.length by omega]
  ·
   rw [if_neg (show ¬ (p ≤ i ∧ i < p + 1) by omega)]; by_cases e2 : p < i
   · rw [if_pos e2, if_pos (by omega)]; simp
   · rw [if_neg e2, if_neg (by omega)]; simp
theorem sides_len {ls : List Lk} {a b num : Int} (h : twoL ls = true) (hp : pairP ls a b = true) :
  3 ≤ (sidesL ls a b num).1.length ∧ 3 ≤ (sidesL ls a b num).2.length ∧ (sidesL ls a b num).1.length + (sidesL ls a b num).2.length = ls.length + 2 := by
 have hR := two_right h
 obtain ⟨G, hG⟩ : ∃ G, G = groupsL ls [a, b] := ⟨_, rfl⟩
 have hsum : (lensL G).sum = ls.length := by rw [hG]; exact lens_sum hR
 have hpos : ∀ x ∈ lensL G, 1 ≤ x := by rw [hG]; exact lens_pos hR
 have hpn : partsN (lensL G) = true := by rw [hG]; exact hp
 have hll : (lensL G).length = G.length := by simp [lensL]
 have e1 : ∀ x : List Lk, (sortL ((a, b, num) :: x)).length = x.length + 1 := fun x => by rw [sortL_length]; rfl
 have hio := inS_len (fromTo ls.length G).1 (fromTo ls.length G).2 G G.length (Nat.le_refl _)
 rw [List.take_length, hsum] at hio
 have key : 2 ≤ (inS (fromTo ls.length G).1 (fromTo ls.length G).2 G G.length).length ∧ 2 ≤ (outS (fromTo ls.length G).1 (fromTo ls.length G).2 G G.length).length := by
  unfold fromTo at hio ⊢
  cases hf : G.findIdx? (chosenB ls.length) with
  | some i =>
   rw [hf] at hio; simp only at hio ⊢; rw [List.findIdx?_eq_some_iff_getElem] at hf; obtain ⟨hi, hc, _⟩ := hf; have h1 := inS_one G i G.length (Nat.le_refl _); rw [if_pos hi] at h1; simp only [List.getD, List.getElem?_eq_getElem hi, Option.getD_some] at h1; unfold chosenB at hc; simp only [Bool.and_eq_true, decide_eq_true_eq] at hc; omega
  | none =>
   rw [hf] at hio; simp only at hio ⊢; rw [List.findIdx?_eq_none_iff] at hf; have hall : ∀ x ∈ lensL G, x = 1 := fun x hx => by
    refine Classical.byContradiction fun hx1 => ?_; have h1 := hpos x hx; unfold lensL at hx; obtain ⟨r, hr, rfl⟩ := List.mem_map.1 hx; have hch := hf r hr; unfold chosenB at hch; simp only [Bool.and_eq_false_iff, decide_eq_false_iff_not] at hch; have hbig : ls.length ≤ r.length + 1 := by omega
    obtain ⟨i, k, hik, hk, h2, h3⟩ := (parts_ref _ hpos).1 hpn; rw [hsum] at h3; obtain ⟨m, hm⟩ := List.getElem?_of_mem hr; have hml := (List.getElem?_eq_some_iff.1 hm).1; have hlm := lens_at hm; have hone : ∀ j x, (lensL G)[j]? = some x → j ≠ m → x + r.length ≤ ls.length := fun j x hj hjm => by
     have h4 : ∀ (L : List Nat) (j m x y : Nat), j ≠ m → L[j]? = some x → L[m]? = some y → x + y ≤ L.sum := by
      intro L; induction L with
      | nil => intro j m x y _ hj; simp at hj
      | cons c L ih =>
       intro j m x y hjm hj hm; rw [List.sum_cons]; have hmem : ∀ (t z : Nat), L[t]? = some z → z ≤ L.sum := fun t z ht => by
        have := mem_le_sum (List.mem_of_getElem? ht); exact this
       cases j with
       | zero =>
        cases m with
        | zero => exact absurd rfl hjm
        | succ m => simp at hj hm; have := hmem m y hm; omega
       | succ j =>
        cases m with
        | zero => simp at hj hm; have := hmem j x hj; omega
        | succ m => simp at hj hm; have := ih j m x y (by omega) hj hm; omega
     have := h4 (lensL G) j m x r.length hjm hj hlm; rw [hsum] at this; exact this
    have hkl : k < (lensL G).length := hk; have hil : i < (lensL G).length := by omega
    unfold szN at h2 h3; have gi : (lensL G).getD i 0 = (lensL G)[i] := by simp [List.getD, hil]
    have gk : (lensL G).getD k 0 = (lensL G)[k] := by simp [List.getD, hkl]
    rw [gi, gk] at h2 h3; have pi := hpos _ (List.getElem_mem hil); have pk := hpos _ (List.getElem_mem hkl); by_cases him : i = m
    ·
     have : (lensL G)[i] = r.length := by rw [List.getElem?_eq_some_iff] at hlm; obtain ⟨_, e⟩ := hlm; subst him; exact e
     omega
    ·
     have a1 := hone i _ (List.getElem?_eq_getElem hil) him; by_cases hlt : i < k
     ·
      rw [if_pos hlt] at h2 h3; by_cases hkm : k = m
      ·
       have : (lensL G)[k] = r.length := by rw [List.getElem?_eq_some_iff] at hlm; obtain ⟨_, e⟩ := hlm; subst hkm; exact e
       omega
      ·
       have a2 := hone k _ (List.getElem?_eq_getElem hkl) hkm; have h5 : ∀ (L : List Nat) (j m t x y z : Nat), j ≠ m → j ≠ t → m ≠ t → L[j]? = some x → L[m]? = some y → L[t]? = some z → x + y + z ≤ L.sum := by
        intro L; induction L with
        | nil => intro j m t x y z _ _ _ hj; simp at hj
        | cons c L ih =>
         intro j m t x y z q1 q2 q3 hj hm ht; rw [List.sum_cons]; have h4 : ∀ (L : List Nat) (j m x y : Nat), j ≠ m → L[j]? = some x → L[m]? = some y → x + y ≤ L.sum := by
          intro L; induction L with
          | nil => intro j m x y _ hj; simp at hj
          | cons c L ih =>
           intro j m x y hjm hj hm; rw [List.sum_cons]; have hmem : ∀ (t z : Nat), L[t]? = some z → z ≤ L.sum := fun t z ht => mem_le_sum (List.mem_of_getElem? ht); cases j with
           | zero =>
            cases m with
            | zero => exact absurd rfl hjm
            | succ m => simp at hj hm; have := hmem m y hm; omega
           | succ j =>
            cases m with
            | zero => simp at hj hm; have := hmem j x hj; omega
            | succ m => simp at hj hm; have := ih j m x y (by omega) hj hm; omega
         cases j with
         | zero =>
          cases m with
          | zero => omega
          | succ m =>
           cases t with
           | zero => omega
           | succ t => simp at hj hm ht; have := h4 L m t y z (by omega) hm ht; omega
         | succ j =>
          cases m with
          | zero =>
           cases t with
           | zero => omega
           | succ t => simp at hj hm ht; have := h4 L j t x z (by omega) hj ht; omega
          | succ m =>
           cases t with
           | zero => simp at hj hm ht; have := h4 L j m x y (by omega) hj hm; omega
           | succ t => simp at hj hm ht; have := ih j m t x y z (by omega) (by omega) (by omega) hj hm ht; omega
       have a3 := h5 (lensL G) i k m _ _ _ (by omega) him hkm (List.getElem?_eq_getElem hil) (List.getElem?_eq_getElem hkl) hlm; rw [hsum] at a3; omega
     ·
      rw [if_neg hlt] at h2 h3; omega
   have hL : ∀ M : List Nat, (∀ x ∈ M, x = 1) → M.sum = M.length ∧ onesN M = M.length := fun M => by
    induction M with
    | nil => intro _; exact ⟨rfl, rfl⟩
    | cons a M ih =>
     intro h; obtain ⟨i1, i2⟩ := ih fun x hx => h x (by simp [hx]); have ha := h a (by simp); rw [onesN_cons, i2]; simp [ha, i1]; omega
   obtain ⟨s1, s2⟩ := hL _ hall; have h4 : 4 ≤ G.length := by
    unfold partsN at hpn; rw [s2, hll] at hpn; refine Classical.byContradiction fun hno => ?_; have : G.length = 0 ∨ G.length = 1 ∨ G.length = 2 ∨ G.length = 3 := by omega
    rcases this with e | e | e | e <;> rw [e] at hpn <;> simp at hpn
   have hin2 : (inS 0 2 G G.length).length = 2 := by
    have hg : ∀ i, (h : i < G.length) → G[i].length = 1 := fun i h => hall _ (List.mem_map.2 ⟨G[i], List.getElem_mem _, rfl⟩); have hst : ∀ i, 2 ≤ i → i ≤ G.length → (inS 0 2 G i).length = 2 := by
     intro i hi; induction i with
     | zero => omega
     | succ i ih =>
      intro h; rw [inS_succ 0 2 G i (by omega), List.length_append]; by_cases e : i = 1
      ·
       subst e; rw [if_pos (by omega), inS_succ 0 2 G 0 (by omega), List.length_append, if_pos (by omega), hg 0 (by omega), hg 1 (by omega)]; simp [inS]
      · rw [if_neg (by omega), ih (by omega) (by omega)]; rfl
    exact hst G.length (by omega) (Nat.le_refl _)
   rw [hin2] at hio ⊢; omega
 unfold sidesL
 simp only [← hG, e1]
 omega
end Go.Proofs.YtagcbnpahgfgmaaGreat
namespace Go.Proofs.YtagcbnpahgfgmaaGreat
structure SpS where
 todo : List (List Lk)
 out : List (List Lk)
 next : Int
def SpS.step (s : SpS) : SpS := match s.todo.getLast? with
 | none => s
 | some top =>
  if (firstC top).2.2.1 then ⟨s.todo.dropLast ++ [(sidesL top (firstC top).1 (firstC top).2.1 s.next).2, (sidesL top (firstC top).1 (firstC top).2.1 s.next).1], s.out, s.next + 1⟩
  else ⟨s.todo.dropLast, s.out ++ [top], s.next⟩
def SpS.steps : Nat → SpS → SpS
 | 0, s => s
 | k + 1, s => SpS.steps k s.step
def SplitTo (ls : List Lk) (next : Int) (out : List (List Lk)) (n : Int) : Prop := ∃ k, SpS.steps k ⟨[ls], [], next⟩ = ⟨[], out, n⟩
theorem steps_succ (k : Nat) (s : SpS) : SpS.steps (k + 1) s = (SpS.steps k s).step := by
 induction k generalizing s with
 | zero => rfl
 | succ k ih => rw [SpS.steps, ih]; rfl
def fmL (t : List (List Lk)) : Nat := (t.map fun x => x.length - 3).sum
theorem fm_append (a b : List (List Lk)) : fmL (a ++ b) = fmL a + fmL b := by unfold fmL; rw [List.map_append, List.sum_append]
theorem getLast_split {t : List (List Lk)} {x : List Lk} (h : t.getLast? = some x) : t = t.dropLast ++ [x] := by
 have hne : t ≠ [] := fun e => by subst e; simp at h
 rw [List.getLast?_eq_some_getLast hne] at h
 have := List.dropLast_concat_getLast hne
 rw [Option.some.inj h] at this
 exact this.symm
theorem fm_sides {top : List Lk} {a b er num : Int} (h : firstC top = (a, b, true, er)) : fmL [(sidesL top a b num).2, (sidesL top a b num).1] + 1 ≤ top.length - 3 ∧ 4 ≤ top.length ∧ (sidesL top a b num).1.length < top.length ∧ (sidesL top a b num).2.length < top.length := by
 obtain ⟨h2, _, _, _, hp, _⟩ := firstC_true h
 obtain ⟨l1, l2, l3⟩ := sides_len (num := num) h2 hp
 unfold fmL
 simp
 omega
section
variable {a d : Int} (ha : 1 ≤ a ∧ a ≤ 1000) (hd : 1 ≤ a + d ∧ a + d ≤ 1000)
include ha hd
omit ha hd in
theorem mem_inS {f t : Nat} {G : List (List Lk)} {i : Nat} {k : Lk} (h : k ∈ inS f t G i) : ∃ r ∈ G, k ∈ r := by
 unfold inS at h
 obtain ⟨j, _, hk⟩ := List.mem_flatMap.1 h
 split at hk
 ·
  by_cases hj : j < G.length
  ·
   simp only [List.getD, List.getElem?_eq_getElem hj, Option.getD_some] at hk; exact ⟨_, List.getElem_mem hj, hk⟩
  · simp [List.getD, List.getElem?_eq_none (Nat.le_of_not_lt hj)] at hk
 · simp at hk
omit ha hd in
theorem mem_outS {f t : Nat} {G : List (List Lk)} {i : Nat} {k : Lk} (h : k ∈ outS f t G i) : ∃ r ∈ G, k ∈ r := by
 unfold outS at h
 obtain ⟨j, _, hk⟩ := List.mem_flatMap.1 h
 split at hk
 · simp at hk
 ·
  by_cases hj : j < G.length
  ·
   simp only [List.getD, List.getElem?_eq_getElem hj, Option.getD_some] at hk; exact ⟨_, List.getElem_mem hj, hk⟩
  · simp [List.getD, List.getElem?_eq_none (Nat.le_of_not_lt hj)] at hk
omit ha hd in
theorem mem_groups {ls : List Lk} {wo : List Int} {r : List Lk} (h : r ∈ groupsL ls wo) {k : Lk} (hk : k ∈ r) : k ∈ ls := by
 cases hr : rightL ls with
 | false => unfold groupsL at h; rw [hr] at h; simp at h
 | true =>
  obtain ⟨p, hp⟩ := List.getElem?_of_mem h
  obtain ⟨i, _, G⟩ := grp_at hr hp
  exact G.sub.subset hk
end
theorem steps_end (k : Nat) {s : SpS} (h : s.todo = []) : SpS.steps k s = s := by
 induction k with
 | zero => rfl
 | succ k ih =>
  rw [SpS.steps, show s.step = s by unfold SpS.step; rw [h]; rfl]
  exact ih
theorem steps_add (j k : Nat) (s : SpS) : SpS.steps (j + k) s = SpS.steps k (SpS.steps j s) := by
 induction j generalizing s with
 | zero => rw [Nat.zero_add]; rfl
 | succ j ih => rw [show j + 1 + k = (j + k) + 1 by omega, SpS.steps, ih]; rfl
theorem SplitTo.one {ls : List Lk} {next : Int} {o1 o2 : List (List Lk)} {n1 n2 : Int} (h1 : SplitTo ls next o1 n1) (h2 : SplitTo ls next o2 n2) : o1 = o2 ∧ n1 = n2 := by
 obtain ⟨j, hj⟩ := h1
 obtain ⟨k, hk⟩ := h2
 have e1 : SpS.steps (j + k) ⟨[ls], [], next⟩ = ⟨[], o1, n1⟩ := by rw [steps_add, hj]; exact steps_end k rfl
 have e2 : SpS.steps (j + k) ⟨[ls], [], next⟩ = ⟨[], o2, n2⟩ := by rw [Nat.add_comm, steps_add, hk]; exact steps_end j rfl
 rw [e1] at e2
 simp only [SpS.mk.injEq, true_and] at e2
 exact e2
end Go.Proofs.YtagcbnpahgfgmaaGreat
namespace Go.Proofs.YtagcbnpahgfgmaaGreat
def virtL (ls : List Lk) : List Lk := ls.filter fun k => k.2.2 != 0
def realL (ls : List Lk) : List Lk := ls.filter fun k => k.2.2 == 0
def occL (P : List (List Lk)) : List Lk := P.flatMap virtL
def relL (P : List (List Lk)) : List Lk := P.flatMap realL
theorem mem_virtL {ls : List Lk} {e : Lk} : e ∈ virtL ls ↔ e ∈ ls ∧ e.2.2 ≠ 0 := by simp [virtL]
theorem mem_realL {ls : List Lk} {e : Lk} : e ∈ realL ls ↔ e ∈ ls ∧ e.2.2 = 0 := by simp [realL]
theorem mem_occL {P : List (List Lk)} {e : Lk} : e ∈ occL P ↔ ∃ x ∈ P, e ∈ x ∧ e.2.2 ≠ 0 := by simp [occL, mem_virtL]
theorem virt_len (ls : List Lk) : (virtL ls).length + (realL ls).length = ls.length := by
 induction ls with
 | nil => rfl
 | cons a ls ih =>
  unfold virtL realL at ih ⊢
  simp only [List.filter_cons, List.length_cons]
  by_cases h : a.2.2 = 0 <;> simp [h] <;> omega
theorem occL_cons (x : List Lk) (P : List (List Lk)) : occL (x :: P) = virtL x ++ occL P := rfl
theorem relL_cons (x : List Lk) (P : List (List Lk)) : relL (x :: P) = realL x ++ relL P := rfl
theorem occL_append (P Q : List (List Lk)) : occL (P ++ Q) = occL P ++ occL Q := by unfold occL; rw [List.flatMap_append]
theorem occL_perm {P Q : List (List Lk)} (h : P.Perm Q) : (occL P).Perm (occL Q) := h.flatMap_right _
theorem relL_perm {P Q : List (List Lk)} (h : P.Perm Q) : (relL P).Perm (relL Q) := h.flatMap_right _
theorem virtL_perm {a b : List Lk} (h : a.Perm b) : (virtL a).Perm (virtL b) := h.filter _
theorem realL_perm {a b : List Lk} (h : a.Perm b) : (realL a).Perm (realL b) := h.filter _
theorem virtL_append (a b : List Lk) : virtL (a ++ b) = virtL a ++ virtL b := by unfold virtL; rw [List.filter_append]
theorem realL_append (a b : List Lk) : realL (a ++ b) = realL a ++ realL b := by unfold realL; rw [List.filter_append]
theorem count_one {l : List Lk} (h : l.Nodup) {e : Lk} (he : e ∈ l) : l.count e = 1 := by rw [h.count, if_pos he]
theorem perm_head {α : Type} [BEq α] [LawfulBEq α] {x : α} {l : List α} (h : x ∈ l) : ∃ m, l.Perm (x :: m) := ⟨_, List.perm_cons_erase h⟩
structure TreeP (P : List (List Lk)) (D : List Lk) : Prop where
 occ : (occL P).Perm (D ++ D)
 num : (D.map fun k => k.2.2).Nodup
 nd : ∀ x ∈ P, x.Nodup
 len : P.length = D.length + 1
 con : ∀ S T, P.Perm (S ++ T) → S ≠ [] → T ≠ [] → ∃ e, e ∈ occL S ∧ e ∈ occL T
 rel : (relL P).Nodup
namespace TreeP
variable {P Q : List (List Lk)} {D : List Lk}
theorem perm (h : TreeP P D) (hp : P.Perm Q) : TreeP Q D :=
 ⟨(occL_perm hp).symm.trans h.occ, h.num, fun x hx => h.nd x (hp.mem_iff.2 hx), by rw [← hp.length_eq]; exact h.len,
  fun S T hs => h.con S T (hp.trans hs), (relL_perm hp).nodup_iff.1 h.rel⟩
theorem dnd (h : TreeP P D) : D.Nodup := by
 have h1 : D.Pairwise (fun a b : Lk => a.2.2 ≠ b.2.2) := List.pairwise_map.1 h.num
 exact h1.imp fun hab e => hab (by rw [e])
theorem memD (h : TreeP P D) {e : Lk} : e ∈ D ↔ e ∈ occL P := by rw [h.occ.mem_iff]; simp
theorem count2 (h : TreeP P D) {e : Lk} (he : e ∈ D) : (occL P).count e = 2 := by
 rw [h.occ.count_eq, List.count_append]
 have := count_one h.dnd he
 omega
theorem same_num (h : TreeP P D) {e f : Lk} (he : e ∈ occL P) (hf : f ∈ occL P) (hv : e.2.2 = f.2.2) : e = f := by
 have h1 := h.memD.2 he; have h2 := h.memD.2 hf
 have hn : D.Pairwise (fun a b : Lk => a.2.2 ≠ b.2.2) := List.pairwise_map.1 h.num
 obtain ⟨i, hi, rfl⟩ := List.getElem_of_mem h1
 obtain ⟨j, hj, rfl⟩ := List.getElem_of_mem h2
 rcases Nat.lt_trichotomy i j with hlt | rfl | hlt
 · exact absurd hv (List.pairwise_iff_getElem.1 hn i j hi hj hlt)
 · rfl
 · exact absurd hv.symm (List.pairwise_iff_getElem.1 hn j i hj hi hlt)
def dupL (D : List Lk) (S : List (List Lk)) : List Lk := D.filter fun e => decide (2 ≤ (occL S).count e)
theorem filter_len_lt {α : Type} {p q : α → Bool} {l : List α} (hpq : ∀ x ∈ l, p x = true → q x = true) {e : α} (he : e ∈ l) (h1 : q e = true) (h2 : p e = false) : (l.filter p).length + 1 ≤ (l.filter q).length := by
 induction l with
 | nil => simp at he
 | cons a l ih =>
  have hle : ∀ m : List α, (∀ x ∈ m, p x = true → q x = true) → (m.filter p).length ≤ (m.filter q).length := fun m => by
   induction m with
   | nil => intro _; simp
   | cons b m ih2 =>
    intro hm; have i2 := ih2 fun x hx => hm x (List.mem_cons_of_mem _ hx); have hb := hm b (List.mem_cons_self ..); simp only [List.filter_cons]; cases hpb : p b with
    | true => rw [hb hpb]; simp; exact i2
    | false => cases q b <;> simp <;> omega
  simp only [List.filter_cons]
  rcases List.mem_cons.1 he with rfl | he'
  ·
   rw [h1, h2]; have := hle l fun x hx => hpq x (List.mem_cons_of_mem _ hx); simp; omega
  ·
   have i1 := ih (fun x hx => hpq x (List.mem_cons_of_mem _ hx)) he'; have ha := hpq a (List.mem_cons_self ..); cases hpa : p a with
   | true => rw [ha hpa]; simp; omega
   | false => cases q a <;> simp <;> omega
theorem grow (h : TreeP P D) : ∀ (n : Nat) (S T : List (List Lk)), T.length = n → P.Perm (S ++ T) → S ≠ [] → T.length + (dupL D S).length ≤ D.length := by
 intro n
 induction n with
 | zero =>
  intro S T hT _ _
  rw [hT, Nat.zero_add]
  exact List.length_filter_le _ _
 | succ n ih =>
  intro S T hT hp hS
  have hT0 : T ≠ [] := fun e => by subst e; simp at hT
  obtain ⟨e, heS, heT⟩ := h.con S T hp hS hT0
  obtain ⟨t, ht, het, hev⟩ := mem_occL.1 heT
  obtain ⟨T', hT'⟩ := perm_head ht
  have hlen : T'.length = n := by have := hT'.length_eq; simp at this; omega
  have hp2 : P.Perm ((t :: S) ++ T') := by
   refine hp.trans ?_; refine ((List.Perm.refl S).append hT').trans ?_; exact List.perm_middle
  have i1 := ih (t :: S) T' hlen hp2 (by simp)
  have hcS : (occL S).count e ≤ 1 := by
   have h2 := h.count2 (e := e) (h.memD.2 ((occL_perm hp).mem_iff.2 (by rw [occL_append]; simp [heS]))); rw [(occL_perm hp).count_eq, occL_append, List.count_append] at h2; have := List.count_pos_iff.2 heT; omega
  have heD : e ∈ D := h.memD.2 ((occL_perm hp).mem_iff.2 (by rw [occL_append]; simp [heS]))
  have h3 : (dupL D S).length + 1 ≤ (dupL D (t :: S)).length := by
   unfold dupL; refine filter_len_lt (e := e) (fun x _ hx => ?_) heD ?_ ?_
   ·
    rw [occL_cons, List.count_append]; simp at hx ⊢; omega
   ·
    rw [occL_cons, List.count_append]; have a1 := List.count_pos_iff.2 (mem_virtL.2 ⟨het, hev⟩); have a2 := List.count_pos_iff.2 heS; simp; omega
   · simp; omega
  rw [hT]
  omega
theorem dup_le (h : TreeP P D) {S T : List (List Lk)} (hp : P.Perm (S ++ T)) (hS : S ≠ []) : (dupL D S).length + 1 ≤ S.length := by
 have h1 := h.grow T.length S T rfl hp hS
 have h2 := hp.length_eq
 have h3 := h.len
 rw [List.length_append] at h2
 omega
theorem share_one (h : TreeP P D) {x y : List Lk} {R : List (List Lk)} (hp : P.Perm (x :: y :: R)) {e f : Lk} (hex : e ∈ virtL x) (hey : e ∈ virtL y) (hfx : f ∈ virtL x) (hfy : f ∈ virtL y) : e = f := by
 refine Classical.byContradiction fun hne => ?_
 have h1 := h.dup_le (S := [x, y]) (T := R) hp (by simp)
 have hm : ∀ g, g ∈ virtL x → g ∈ virtL y → g ∈ dupL D [x, y] := fun g a b => by
  unfold dupL
  rw [List.mem_filter]
  refine ⟨h.memD.2 ((occL_perm hp).mem_iff.2 (by rw [occL_cons]; simp [a])), ?_⟩
  have a1 := List.count_pos_iff.2 a
  have a2 := List.count_pos_iff.2 b
  simp [occL]; omega
 have h2 := hm e hex hey
 have h3 := hm f hfx hfy
 have hl : 2 ≤ (dupL D [x, y]).length := two_in h2 h3 (fun e' => hne e'.symm)
 simp at h1
 omega
theorem single {x : List Lk} (hn : x.Nodup) (hv : ∀ k ∈ x, k.2.2 = 0) : TreeP [x] [] := by
 have h0 : virtL x = [] := by
  unfold virtL
  rw [List.filter_eq_nil_iff]
  intro k hk
  simp [hv k hk]
 refine ⟨by simp [occL, h0], by simp, fun y hy => by simp at hy; subst hy; exact hn, rfl, fun S T hp hS hT => ?_, ?_⟩
 ·
  have := hp.length_eq
  have a1 := List.length_pos_iff.2 hS
  have a2 := List.length_pos_iff.2 hT
  simp at this
  omega
 · simp [relL]; exact hn.filter _
theorem mem_split {α : Type} [BEq α] [LawfulBEq α] {x : α} {R S T : List α} (h : (x :: R).Perm (S ++ T)) : (∃ S', S.Perm (x :: S') ∧ R.Perm (S' ++ T)) ∨ (∃ T', T.Perm (x :: T') ∧ R.Perm (S ++ T')) := by
 have hm : x ∈ S ++ T := h.mem_iff.1 (by simp)
 rcases List.mem_append.1 hm with hm | hm
 ·
  obtain ⟨S', hS'⟩ := perm_head hm
  refine .inl ⟨S', hS', ?_⟩
  have h2 : (x :: R).Perm (x :: (S' ++ T)) := h.trans (hS'.append_right T)
  exact h2.cons_inv
 ·
  obtain ⟨T', hT'⟩ := perm_head hm
  refine .inr ⟨T', hT', ?_⟩
  have h2 : (x :: R).Perm (x :: (S ++ T')) := (h.trans (hT'.append_left S)).trans List.perm_middle
  exact h2.cons_inv
theorem split {x X Y x1 x2 : List Lk} {R : List (List Lk)} (h : TreeP (x :: R) D) (hx : x.Perm (X ++ Y)) {e : Lk} (hv : e.2.2 ≠ 0) (hD : ∀ d ∈ D, d.2.2 ≠ e.2.2) (h1 : x1.Perm (e :: X)) (h2 : x2.Perm (e :: Y)) : TreeP (x1 :: x2 :: R) (e :: D) := by
 have hve : ∀ Z : List Lk, virtL (e :: Z) = e :: virtL Z := fun Z => by unfold virtL; rw [List.filter_cons, if_pos (by simpa using hv)]
 have hre : ∀ Z : List Lk, realL (e :: Z) = realL Z := fun Z => by unfold realL; rw [List.filter_cons, if_neg (by simpa using hv)]
 have hvx : (virtL x).Perm (virtL X ++ virtL Y) := by rw [← virtL_append]; exact virtL_perm hx
 have heP : e ∉ x := fun hm => hD e (h.memD.2 (mem_occL.2 ⟨x, by simp, hm, hv⟩)) rfl
 have hxn := h.nd x (by simp)
 have hXY := hx.nodup_iff.1 hxn
 have heX : e ∉ X ∧ e ∉ Y := by
  constructor <;> intro hm <;> exact heP (hx.mem_iff.2 (by simp [hm]))
 have e1 : (virtL x1).Perm (e :: virtL X) := by have := virtL_perm h1; rwa [hve] at this
 have e2 : (virtL x2).Perm (e :: virtL Y) := by have := virtL_perm h2; rwa [hve] at this
 refine ⟨?_, ?_, ?_, ?_, ?_, ?_⟩
 ·
  rw [occL_cons, occL_cons]
  have ho := h.occ
  rw [occL_cons] at ho
  refine (e1.append (e2.append_right _)).trans ?_
  have s1 : (e :: virtL X ++ (e :: virtL Y ++ occL R)).Perm (e :: e :: (virtL X ++ virtL Y ++ occL R)) := by
   rw [List.cons_append, List.cons_append]; refine List.Perm.cons _ ?_; refine List.perm_middle.trans ?_; rw [List.append_assoc]
  have s2 : (e :: e :: (virtL X ++ virtL Y ++ occL R)).Perm (e :: e :: (D ++ D)) := ((hvx.symm.append_right _).trans ho).cons e |>.cons e
  refine (s1.trans s2).trans ?_
  rw [List.cons_append]
  exact (List.perm_middle.symm).cons e
 ·
  rw [List.map_cons, List.nodup_cons]
  refine ⟨fun hm => ?_, h.num⟩
  obtain ⟨d, hd, he⟩ := List.mem_map.1 hm
  exact hD d hd he
 ·
  intro y hy
  rw [List.nodup_append] at hXY
  rcases List.mem_cons.1 hy with rfl | hy
  · exact h1.nodup_iff.2 (List.nodup_cons.2 ⟨heX.1, hXY.1⟩)
  ·
   rcases List.mem_cons.1 hy with rfl | hy
   · exact h2.nodup_iff.2 (List.nodup_cons.2 ⟨heX.2, hXY.2.1⟩)
   · exact h.nd y (by simp [hy])
 ·
  have := h.len
  simp at this ⊢
  omega
 ·
  intro S T hp hS hT
  have in1 : e ∈ virtL x1 := e1.mem_iff.2 (by simp)
  have in2 : e ∈ virtL x2 := e2.mem_iff.2 (by simp)
  have sub : ∀ f, f ∈ virtL x → f ∈ virtL x1 ∨ f ∈ virtL x2 := fun f hf => by
   rcases List.mem_append.1 (hvx.mem_iff.1 hf) with hf | hf
   · exact .inl (e1.mem_iff.2 (by simp [hf]))
   · exact .inr (e2.mem_iff.2 (by simp [hf]))
  have both : ∀ A B : List (List Lk), R.Perm (A ++ B) → B ≠ [] → ∃ f, (f ∈ virtL x1 ∨ f ∈ virtL x2 ∨ f ∈ occL A) ∧ f ∈ occL B := fun A B hAB hB => by
   obtain ⟨f, f1, f2⟩ := h.con (x :: A) B (by simpa using hAB.cons x) (by simp) hB; rw [occL_cons, List.mem_append] at f1; rcases f1 with f1 | f1
   ·
    rcases sub f f1 with g | g
    · exact ⟨f, .inl g, f2⟩
    · exact ⟨f, .inr (.inl g), f2⟩
   · exact ⟨f, .inr (.inr f1), f2⟩
  have mo : ∀ {A B : List (List Lk)} {f : Lk}, A.Perm B → (f ∈ occL A ↔ f ∈ occL B) := fun hAB => (occL_perm hAB).mem_iff
  rcases mem_split hp with ⟨S1, p1, q1⟩ | ⟨T1, p1, q1⟩
  ·
   rcases mem_split q1 with ⟨S2, p2, q2⟩ | ⟨T2, p2, q2⟩
   ·
    obtain ⟨f, f1, f2⟩ := both S2 T q2 hT; refine ⟨f, (mo p1).2 ?_, f2⟩; rw [occL_cons, List.mem_append, mo p2, occL_cons, List.mem_append]; exact f1
   · exact ⟨e, (mo p1).2 (by rw [occL_cons]; simp [in1]), (mo p2).2 (by rw [occL_cons]; simp [in2])⟩
  ·
   rcases mem_split q1 with ⟨S2, p2, q2⟩ | ⟨T2, p2, q2⟩
   · exact ⟨e, (mo p2).2 (by rw [occL_cons]; simp [in2]), (mo p1).2 (by rw [occL_cons]; simp [in1])⟩
   ·
    obtain ⟨f, f1, f2⟩ := both T2 S (q2.trans List.perm_append_comm) hS; refine ⟨f, f2, (mo p1).2 ?_⟩; rw [occL_cons, List.mem_append, mo p2, occL_cons, List.mem_append]; exact f1
 ·
  rw [relL_cons, relL_cons]
  have hr := h.rel
  rw [relL_cons] at hr
  have r1 : (realL x1).Perm (realL X) := by have := realL_perm h1; rwa [hre] at this
  have r2 : (realL x2).Perm (realL Y) := by have := realL_perm h2; rwa [hre] at this
  have r3 : (realL x).Perm (realL X ++ realL Y) := by rw [← realL_append]; exact realL_perm hx
  have : (realL x1 ++ (realL x2 ++ relL R)).Perm (realL x ++ relL R) := by
   rw [← List.append_assoc]; exact ((r1.append r2).trans r3.symm).append_right _
  exact this.nodup_iff.2 hr
theorem join {x y z : List Lk} {R : List (List Lk)} (h : TreeP (x :: y :: R) D) {e : Lk} (hex : e ∈ virtL x) (hey : e ∈ virtL y) (hz : z.Perm (x.erase e ++ y.erase e)) : TreeP (z :: R) (D.erase e) := by
 have hev := (mem_virtL.1 hex).2
 have pe : ∀ {l : List Lk}, e ∈ virtL l → l.Perm (e :: l.erase e) := fun hl => List.perm_cons_erase (mem_virtL.1 hl).1
 have hve : ∀ Z : List Lk, virtL (e :: Z) = e :: virtL Z := fun Z => by unfold virtL; rw [List.filter_cons, if_pos (by simpa using hev)]
 have hre : ∀ Z : List Lk, realL (e :: Z) = realL Z := fun Z => by unfold realL; rw [List.filter_cons, if_neg (by simpa using hev)]
 have vx : (virtL x).Perm (e :: virtL (x.erase e)) := by have := virtL_perm (pe hex); rwa [hve] at this
 have vy : (virtL y).Perm (e :: virtL (y.erase e)) := by have := virtL_perm (pe hey); rwa [hve] at this
 have vz : (virtL z).Perm (virtL (x.erase e) ++ virtL (y.erase e)) := by rw [← virtL_append]; exact virtL_perm hz
 have rx : (realL x).Perm (realL (x.erase e)) := by have := realL_perm (pe hex); rwa [hre] at this
 have ry : (realL y).Perm (realL (y.erase e)) := by have := realL_perm (pe hey); rwa [hre] at this
 have rz : (realL z).Perm (realL (x.erase e) ++ realL (y.erase e)) := by rw [← realL_append]; exact realL_perm hz
 have heD : e ∈ D := h.memD.2 (by rw [occL_cons]; simp [hex])
 have hDp : D.Perm (e :: D.erase e) := List.perm_cons_erase heD
 have hxn := h.nd x (by simp)
 have hyn := h.nd y (by simp)
 have hrn := h.rel
 rw [relL_cons, relL_cons] at hrn
 have hocc : (e :: e :: (virtL z ++ occL R)).Perm (e :: e :: (D.erase e ++ D.erase e)) := by
  have h1 := h.occ
  rw [occL_cons, occL_cons] at h1
  have s1 : (virtL x ++ (virtL y ++ occL R)).Perm (e :: e :: (virtL z ++ occL R)) := by
   refine (vx.append (vy.append_right _)).trans ?_; rw [List.cons_append, List.cons_append]; refine List.Perm.cons _ ?_; refine List.perm_middle.trans ?_; refine List.Perm.cons _ ?_; rw [← List.append_assoc]; exact vz.symm.append_right _
  have s2 : (D ++ D).Perm (e :: e :: (D.erase e ++ D.erase e)) := by
   refine (hDp.append hDp).trans ?_; rw [List.cons_append]; exact List.perm_middle.cons e
  exact (s1.symm.trans h1).trans s2
 refine ⟨by rw [occL_cons]; exact hocc.cons_inv.cons_inv, ?_, ?_, ?_, ?_, ?_⟩
 ·
  have := h.num
  rw [(hDp.map _).nodup_iff, List.map_cons, List.nodup_cons] at this
  exact this.2
 ·
  intro u hu
  rcases List.mem_cons.1 hu with rfl | hu
  ·
   refine hz.nodup_iff.2 (List.nodup_append.2 ⟨hxn.erase _, hyn.erase _, fun k hk m hm hkm => ?_⟩); subst hkm; have hkx := List.mem_of_mem_erase hk; have hky := List.mem_of_mem_erase hm; by_cases h0 : k.2.2 = 0
   ·
    rw [List.nodup_append] at hrn; exact hrn.2.2 k (mem_realL.2 ⟨hkx, h0⟩) k (by simp [mem_realL.2 ⟨hky, h0⟩]) rfl
   ·
    have := h.share_one (.refl _) hex hey (mem_virtL.2 ⟨hkx, h0⟩) (mem_virtL.2 ⟨hky, h0⟩); subst this; exact hxn.not_mem_erase hk
  · exact h.nd u (by simp [hu])
 ·
  have := h.len
  have h2 := hDp.length_eq
  simp only [List.length_cons] at this h2 ⊢
  omega
 ·
  intro S T hp hS hT
  have hne : ∀ B : List (List Lk), (∃ A, R.Perm (A ++ B)) → e ∉ occL B := fun B ⟨A, hAB⟩ hm => by
   have c2 := h.count2 heD; rw [occL_cons, occL_cons, List.count_append, List.count_append, (occL_perm hAB).count_eq, occL_append, List.count_append] at c2; have a1 := List.count_pos_iff.2 hex; have a2 := List.count_pos_iff.2 hey; have a3 := List.count_pos_iff.2 hm; omega
  have both : ∀ A B : List (List Lk), R.Perm (A ++ B) → B ≠ [] → ∃ f, (f ∈ virtL z ∨ f ∈ occL A) ∧ f ∈ occL B := fun A B hAB hB => by
   obtain ⟨f, f1, f2⟩ := h.con (x :: y :: A) B (by simpa using (hAB.cons y).cons x) (by simp) hB; have hfe : f ≠ e := fun h1 => hne B ⟨A, hAB⟩ (h1 ▸ f2); rw [occL_cons, occL_cons, List.mem_append, List.mem_append] at f1; rcases f1 with f1 | f1 | f1
   ·
    have := vx.mem_iff.1 f1; simp [hfe] at this; exact ⟨f, .inl (vz.mem_iff.2 (by simp [this])), f2⟩
   ·
    have := vy.mem_iff.1 f1; simp [hfe] at this; exact ⟨f, .inl (vz.mem_iff.2 (by simp [this])), f2⟩
   · exact ⟨f, .inr f1, f2⟩
  have mo : ∀ {A B : List (List Lk)} {f : Lk}, A.Perm B → (f ∈ occL A ↔ f ∈ occL B) := fun hAB => (occL_perm hAB).mem_iff
  rcases mem_split hp with ⟨S1, p1, q1⟩ | ⟨T1, p1, q1⟩
  ·
   obtain ⟨f, f1, f2⟩ := both S1 T q1 hT; exact ⟨f, (mo p1).2 (by rw [occL_cons, List.mem_append]; exact f1), f2⟩
  ·
   obtain ⟨f, f1, f2⟩ := both T1 S (q1.trans List.perm_append_comm) hS; exact ⟨f, f2, (mo p1).2 (by rw [occL_cons, List.mem_append]; exact f1)⟩
 ·
  rw [relL_cons]
  have : (realL z ++ relL R).Perm (realL x ++ (realL y ++ relL R)) := by
   rw [← List.append_assoc]; exact ((rz.trans (rx.symm.append ry.symm))).append_right _
  exact this.nodup_iff.2 hrn
end TreeP
end Go.Proofs.YtagcbnpahgfgmaaGreat
namespace Go.Proofs.YtagcbnpahgfgmaaGreat
theorem right_sort {l : List Lk} (hn : l.Nodup) (ho : ∀ k ∈ l, OkL k) (hl : l.length ≤ 1000) : RightL (sortL l) ∧ (sortL l).Perm l := by
 have hp : (sortL l).Perm l := by have := sortL_perm l; rwa [map_swapL ho] at this
 refine ⟨⟨by rw [hp.length_eq]; exact hl, fun k hk => ho k (hp.mem_iff.1 hk), ?_⟩, hp⟩
 have h1 := sortL_sorted l
 have h2 : (sortL l).Pairwise (· ≠ ·) := hp.nodup_iff.2 hn
 exact (h1.and h2).imp fun {x y} ⟨a, b⟩ => Classical.byContradiction fun hno => b (LtL.total _ _ hno a)
theorem io_perm (f t : Nat) (G : List (List Lk)) : ∀ i, i ≤ G.length → (inS f t G i ++ outS f t G i).Perm (G.take i).flatten := by
 intro i
 induction i with
 | zero => intro _; simp [inS, outS]
 | succ i ih =>
  intro h
  rw [inS_succ f t G i (by omega), outS_succ f t G i (by omega), List.take_succ_eq_append_getElem (by omega), List.flatten_append]
  have i1 := ih (by omega)
  simp only [List.flatten_cons, List.flatten_nil, List.append_nil]
  by_cases hc : f ≤ i ∧ i < t
  ·
   rw [if_pos hc, if_pos hc, List.append_nil]; refine List.Perm.trans ?_ (i1.append_right _); rw [List.append_assoc, List.append_assoc]; exact List.Perm.append_left _ List.perm_append_comm
  ·
   rw [if_neg hc, if_neg hc, List.append_nil, ← List.append_assoc]; exact i1.append_right _
theorem sides_perm {ls : List Lk} {a b num : Int} (hR : RightL ls) (ha : 0 ≤ a) (hab : a < b) (hb : b < 1048576) (hn : 0 < num ∧ num ≤ 1048576) :
  ∃ X Y : List Lk, ls.Perm (X ++ Y) ∧ (sidesL ls a b num).1.Perm ((a, b, num) :: X) ∧ (sidesL ls a b num).2.Perm ((a, b, num) :: Y) := by
 have hok : OkL (a, b, num) := by unfold OkL; simp only; omega
 obtain ⟨G, hG⟩ : ∃ G, G = groupsL ls [a, b] := ⟨_, rfl⟩
 have hp : (groupsL ls [a, b]).flatten.Perm ls := grp_perm hR
 have hio := io_perm (fromTo ls.length G).1 (fromTo ls.length G).2 G G.length (Nat.le_refl _)
 rw [List.take_length] at hio
 rw [← hG] at hp
 have hm : ∀ k, k ∈ inS (fromTo ls.length G).1 (fromTo ls.length G).2 G G.length ++ outS (fromTo ls.length G).1 (fromTo ls.length G).2 G G.length → OkL k := fun k hk => hR.2.1 k ((hio.trans hp).mem_iff.1 hk)
 refine ⟨_, _, (hio.trans hp).symm, ?_, ?_⟩
 ·
  unfold sidesL
  simp only
  rw [← hG]
  have := sortL_perm ((a, b, num) :: inS (fromTo ls.length G).1 (fromTo ls.length G).2 G G.length)
  rwa [map_swapL] at this
  intro k hk
  rcases List.mem_cons.1 hk with rfl | hk
  · exact hok
  · exact hm k (by simp [hk])
 ·
  unfold sidesL
  simp only
  rw [← hG]
  have := sortL_perm ((a, b, num) :: outS (fromTo ls.length G).1 (fromTo ls.length G).2 G G.length)
  rwa [map_swapL] at this
  intro k hk
  rcases List.mem_cons.1 hk with rfl | hk
  · exact hok
  · exact hm k (by simp [hk])
theorem sides_sorted (ls : List Lk) (a b num : Int) : (sidesL ls a b num).1.Pairwise LeL ∧ (sidesL ls a b num).2.Pairwise LeL := by
 unfold sidesL
 exact ⟨sortL_sorted _, sortL_sorted _⟩
theorem right_of {l m : List Lk} (hp : l.Perm m) (hs : l.Pairwise LeL) (hn : l.Nodup) (ho : ∀ k ∈ m, OkL k) (hl : m.length ≤ 1000) : RightL l := by
 refine ⟨by rw [hp.length_eq]; exact hl, fun k hk => ho k (hp.mem_iff.1 hk), ?_⟩
 have h2 : l.Pairwise (· ≠ ·) := hn
 exact (hs.and h2).imp fun {x y} ⟨a, b⟩ => Classical.byContradiction fun hno => b (LtL.total _ _ hno a)
structure SpI (ls : List Lk) (s : SpS) : Prop where
 tree : ∃ D, TreeP (s.todo ++ s.out) D ∧ (∀ d ∈ D, 1 ≤ d.2.2 ∧ d.2.2 < s.next) ∧ (D.length : Int) + 1 = s.next
 right : ∀ t ∈ s.todo ++ s.out, RightL t
 three : ∀ t ∈ s.todo ++ s.out, 3 ≤ t.length
 rels : (relL (s.todo ++ s.out)).Perm ls
 hi : s.next + fmL s.todo ≤ 1 + (ls.length - 3 : Nat)
theorem rel_self {ls : List Lk} (hv : ∀ k ∈ ls, k.2.2 = 0) : relL [ls] = ls := by
 simp only [relL, List.flatMap_cons, List.flatMap_nil, List.append_nil]
 exact List.filter_eq_self.2 fun k hk => by simp [hv k hk]
theorem SpI.start {ls : List Lk} (hR : RightL ls) (hv : ∀ k ∈ ls, k.2.2 = 0) (h3 : 3 ≤ ls.length) : SpI ls ⟨[ls], [], 1⟩ := by
 have hn : ls.Nodup := right_nodup hR
 refine ⟨⟨[], by simpa using TreeP.single hn hv, by simp, by simp⟩, fun t ht => by simp at ht; subst ht; exact hR, fun t ht => by simp at ht; subst ht; exact h3, ?_, by simp [fmL]⟩
 simp only [List.append_nil]
 rw [rel_self hv]
theorem SpI.step {ls : List Lk} {s : SpS} (hl : ls.length ≤ 1000) (h : SpI ls s) : SpI ls s.step := by
 unfold SpS.step
 cases ht : s.todo.getLast? with
 | none => exact h
 | some top =>
  have hsp := getLast_split ht
  have hp1 : (s.todo ++ s.out).Perm (top :: (s.todo.dropLast ++ s.out)) := by
   conv => lhs; rw [hsp]
   rw [List.append_assoc]; exact List.perm_middle
  have htop := h.right top (hp1.mem_iff.2 (by simp))
  have hhi := h.hi
  have hfm : fmL s.todo = fmL s.todo.dropLast + (top.length - 3) := by
   have := congrArg fmL hsp; rw [fm_append] at this; rw [this]; simp [fmL]
  obtain ⟨D, hD, hDv, hDl⟩ := h.tree
  simp only
  cases hc : (firstC top).2.2.1 with
  | false =>
   simp only [Bool.false_eq_true, if_false]; have hp2 : (s.todo ++ s.out).Perm (s.todo.dropLast ++ (s.out ++ [top])) := by
    refine hp1.trans ?_; rw [← List.append_assoc]; exact (List.perm_append_singleton top _).symm
   exact ⟨⟨D, hD.perm hp2, hDv, hDl⟩, fun t ht => h.right t (hp2.mem_iff.2 ht), fun t ht => h.three t (hp2.mem_iff.2 ht), (relL_perm hp2).symm.trans h.rels, by simp only; omega⟩
  | true =>
   simp only [if_true]; have hfc : firstC top = ((firstC top).1, (firstC top).2.1, true, (firstC top).2.2.2) := by rw [← hc]
   obtain ⟨p, hpe⟩ : ∃ p, p = (firstC top).1 := ⟨_, rfl⟩
   obtain ⟨q, hqe⟩ : ∃ q, q = (firstC top).2.1 := ⟨_, rfl⟩
   rw [← hpe, ← hqe] at hfc ⊢; obtain ⟨t2, hpm, hqm, hpq, hpr, _⟩ := firstC_true hfc; obtain ⟨f1, f2, f3, f4⟩ := fm_sides (num := s.next) hfc; obtain ⟨l1, l2, l3⟩ := sides_len (num := s.next) t2 hpr; have hpo : 0 ≤ p := by
    obtain ⟨x, hx, e⟩ := (mem_vertsL top p).1 hpm; have := htop.2.1 x hx; unfold OkL at this; rcases e with rfl | rfl <;> omega
   have hqo : q < 1048576 := by
    obtain ⟨x, hx, e⟩ := (mem_vertsL top q).1 hqm; have := htop.2.1 x hx; unfold OkL at this; rcases e with rfl | rfl <;> omega
   obtain ⟨X, Y, hXY, hS1, hS2⟩ := sides_perm (num := s.next) htop hpo hpq hqo (by omega); obtain ⟨hs1, hs2⟩ := sides_sorted top p q s.next; obtain ⟨S1, hS1e⟩ : ∃ S1, S1 = (sidesL top p q s.next).1 := ⟨_, rfl⟩
   obtain ⟨S2, hS2e⟩ : ∃ S2, S2 = (sidesL top p q s.next).2 := ⟨_, rfl⟩
   rw [← hS1e] at hS1 hs1 l1 l3 f1 f3 ⊢; rw [← hS2e] at hS2 hs2 l2 l3 f1 f4 ⊢; have hT := TreeP.split (hD.perm hp1) hXY (e := (p, q, s.next)) (by simp only; omega) (fun d hd => by have := hDv d hd; simp only; omega) hS1 hS2; have hp3 : (S1 :: S2 :: (s.todo.dropLast ++ s.out)).Perm (s.todo.dropLast ++ [S2, S1] ++ s.out) := by
    rw [List.append_assoc]; refine List.Perm.trans ?_ List.perm_append_comm; rw [List.append_assoc]; refine (List.Perm.swap _ _ _).trans ?_; simp only [List.cons_append, List.nil_append]; exact ((List.perm_append_comm).cons _).cons _
   have hokm : ∀ k ∈ (p, q, s.next) :: (X ++ Y), OkL k := fun k hk => by
    rcases List.mem_cons.1 hk with rfl | hk
    · unfold OkL; simp only; omega
    · exact htop.2.1 k (hXY.mem_iff.2 hk)
   have htl := htop.1; have r1 : RightL S1 := right_of hS1 hs1 (hT.nd _ (by simp)) (fun k hk => hokm k ((List.mem_cons.1 hk).elim (fun e => List.mem_cons.2 (.inl e)) fun hk => List.mem_cons_of_mem _ (List.mem_append_left _ hk))) (by rw [← hS1.length_eq]; omega); have r2 : RightL S2 := right_of hS2 hs2 (hT.nd _ (by simp)) (fun k hk => hokm k ((List.mem_cons.1 hk).elim (fun e => List.mem_cons.2 (.inl e)) fun hk => List.mem_cons_of_mem _ (List.mem_append_right _ hk))) (by rw [← hS2.length_eq]; omega); refine ⟨⟨_, hT.perm hp3, fun d hd => ?_, by simp; omega⟩, fun t ht => ?_, fun t ht => ?_, ?_, ?_⟩
   ·
    rcases List.mem_cons.1 hd with rfl | hd
    · simp only; omega
    · have := hDv d hd; simp only; omega
   ·
    rcases List.mem_cons.1 (hp3.mem_iff.2 ht) with rfl | hm
    · exact r1
    ·
     rcases List.mem_cons.1 hm with rfl | hm
     · exact r2
     · exact h.right t (hp1.mem_iff.2 (by simp only [List.mem_cons]; exact .inr hm))
   ·
    rcases List.mem_cons.1 (hp3.mem_iff.2 ht) with rfl | hm
    · exact l1
    ·
     rcases List.mem_cons.1 hm with rfl | hm
     · exact l2
     · exact h.three t (hp1.mem_iff.2 (by simp only [List.mem_cons]; exact .inr hm))
   ·
    refine (relL_perm hp3).symm.trans (List.Perm.trans ?_ h.rels); refine List.Perm.trans ?_ (relL_perm hp1).symm; rw [relL_cons, relL_cons, relL_cons, ← List.append_assoc]; refine List.Perm.append_right _ ?_; have hre : ∀ Z : List Lk, realL ((p, q, s.next) :: Z) = realL Z := fun Z => by unfold realL; rw [List.filter_cons, if_neg (by simp; omega)]
    have a1 := realL_perm hS1; have a2 := realL_perm hS2; rw [hre] at a1 a2; have a3 := realL_perm hXY; rw [realL_append] at a3; exact (a1.append a2).trans a3.symm
   ·
    simp only; rw [fm_append]; omega
theorem SpI.steps {ls : List Lk} (hl : ls.length ≤ 1000) : ∀ (k : Nat) (s : SpS), SpI ls s → SpI ls (SpS.steps k s) := by
 intro k
 induction k with
 | zero => intro s h; exact h
 | succ k ih => intro s h; rw [SpS.steps]; exact ih _ (h.step hl)
structure PiecesOk (ls : List Lk) (out : List (List Lk)) (n : Int) : Prop where
 tree : ∃ D, TreeP out D ∧ (∀ d ∈ D, 1 ≤ d.2.2 ∧ d.2.2 < n) ∧ (D.length : Int) + 1 = n
 right : ∀ t ∈ out, RightL t
 three : ∀ t ∈ out, 3 ≤ t.length
 rels : (relL out).Perm ls
 hi : n ≤ 1 + (ls.length - 3 : Nat)
theorem SplitTo.ok {ls : List Lk} {out : List (List Lk)} {n : Int} (h : SplitTo ls 1 out n) (hR : RightL ls) (hv : ∀ k ∈ ls, k.2.2 = 0) (h3 : 3 ≤ ls.length) : PiecesOk ls out n := by
 obtain ⟨k, hk⟩ := h
 have h1 := SpI.steps hR.1 k _ (SpI.start hR hv h3)
 rw [hk] at h1
 exact ⟨by simpa using h1.tree, by simpa using h1.right, by simpa using h1.three, by simpa using h1.rels, by have := h1.hi; simpa [fmL] using this⟩
end Go.Proofs.YtagcbnpahgfgmaaGreat
namespace Go.Proofs.YtagcbnpahgfgmaaGreat
abbrev Pt := Int × List Lk
def dropV (v : Int) (x : List Lk) : List Lk := x.filter fun k => k.2.2 != v
def joinL (x y : List Lk) (v : Int) : List Lk := sortL (dropV v x ++ dropV v y)
theorem mem_dropV {v : Int} {x : List Lk} {k : Lk} : k ∈ dropV v x ↔ k ∈ x ∧ k.2.2 ≠ v := by simp [dropV]
theorem dropV_perm {v : Int} {x y : List Lk} (h : x.Perm y) : (dropV v x).Perm (dropV v y) := h.filter _
theorem dropV_append (v : Int) (x y : List Lk) : dropV v (x ++ y) = dropV v x ++ dropV v y := by unfold dropV; rw [List.filter_append]
theorem dropV_comm (v w : Int) (x : List Lk) : dropV v (dropV w x) = dropV w (dropV v x) := by
 unfold dropV
 rw [List.filter_filter, List.filter_filter]
 congr 1
 funext k
 exact Bool.and_comm _ _
theorem dropV_self {v : Int} {x : List Lk} (h : ∀ k ∈ x, k.2.2 ≠ v) : dropV v x = x := List.filter_eq_self.2 fun k hk => by simp [h k hk]
theorem dropV_erase {x : List Lk} (hn : x.Nodup) {e : Lk} (he : e ∈ x) (hu : ∀ k ∈ x, k.2.2 = e.2.2 → k = e) : dropV e.2.2 x = x.erase e := by
 rw [hn.erase_eq_filter]
 unfold dropV
 refine List.filter_congr fun k hk => ?_
 by_cases h : k = e
 · subst h; simp
 ·
  have h1 : k.2.2 ≠ e.2.2 := fun h2 => h (hu k hk h2)
  have h2 : (k.2.2 != e.2.2) = true := bne_iff_ne.2 h1
  have h3 : (k != e) = true := bne_iff_ne.2 h
  show (k.2.2 != e.2.2) = (k != e)
  rw [h2, h3]
theorem joinL_comm (x y : List Lk) (v : Int) : joinL x y v = joinL y x v := sortL_congr (List.perm_append_comm.map _)
structure QI (ls : List Lk) (Q : List Pt) : Prop where
 tree : ∃ D, TreeP (Q.map fun q => q.2) D ∧ (∀ d ∈ D, 1 ≤ d.2.2 ∧ d.2.2 ≤ 1048576)
 right : ∀ q ∈ Q, RightL q.2
 three : ∀ q ∈ Q, 3 ≤ q.2.length
 rels : (relL (Q.map fun q => q.2)).Perm ls
namespace QI
variable {ls : List Lk} {Q Q' : List Pt}
theorem perm (h : QI ls Q) (hp : Q.Perm Q') : QI ls Q' := by
 obtain ⟨D, h1, h2⟩ := h.tree
 exact ⟨⟨D, h1.perm (hp.map _), h2⟩, fun q hq => h.right q (hp.mem_iff.2 hq), fun q hq => h.three q (hp.mem_iff.2 hq), (relL_perm (hp.map _)).symm.trans h.rels⟩
theorem share (h : QI ls Q) {x y : Pt} {R : List Pt} (hp : Q.Perm (x :: y :: R)) {e f : Lk} (hex : e ∈ virtL x.2) (hey : e ∈ virtL y.2) (hfx : f ∈ virtL x.2) (hfy : f ∈ virtL y.2) : e = f := by
 obtain ⟨D, h1, _⟩ := h.tree
 exact h1.share_one (R := R.map fun q => q.2) (by simpa using hp.map fun q => q.2) hex hey hfx hfy
theorem only (h : QI ls Q) {x y : Pt} {R : List Pt} (hp : Q.Perm (x :: y :: R)) {e : Lk} (hex : e ∈ virtL x.2) (hey : e ∈ virtL y.2) : ∀ z ∈ R, ∀ k ∈ z.2, k.2.2 ≠ e.2.2 := by
 intro z hz k hk hv
 obtain ⟨D, h1, _⟩ := h.tree
 have hp2 : (Q.map fun q => q.2).Perm (x.2 :: y.2 :: R.map fun q => q.2) := by simpa using hp.map fun q => q.2
 have hev := (mem_virtL.1 hex).2
 have hke : k = e := h1.same_num (mem_occL.2 ⟨z.2, hp2.mem_iff.2 (by simp only [List.mem_cons]; exact .inr (.inr (List.mem_map_of_mem hz))), hk, by rw [hv]; exact hev⟩) (mem_occL.2 ⟨x.2, hp2.mem_iff.2 (by simp), (mem_virtL.1 hex).1, hev⟩) hv
 subst hke
 have c2 := h1.count2 (e := k) (h1.memD.2 (mem_occL.2 ⟨x.2, hp2.mem_iff.2 (by simp), (mem_virtL.1 hex).1, hev⟩))
 rw [(occL_perm hp2).count_eq, occL_cons, occL_cons, List.count_append, List.count_append] at c2
 have a1 := List.count_pos_iff.2 hex
 have a2 := List.count_pos_iff.2 hey
 have a3 : 0 < (occL (R.map fun q => q.2)).count k := List.count_pos_iff.2 (mem_occL.2 ⟨z.2, List.mem_map_of_mem hz, hk, hev⟩)
 omega
theorem uniq (h : QI ls Q) {x : Pt} (hx : x ∈ Q) {e : Lk} (he : e ∈ virtL x.2) : ∀ k ∈ x.2, k.2.2 = e.2.2 → k = e := by
 intro k hk hv
 obtain ⟨D, h1, _⟩ := h.tree
 have hev := (mem_virtL.1 he).2
 exact h1.same_num (mem_occL.2 ⟨x.2, List.mem_map_of_mem hx, hk, by rw [hv]; exact hev⟩) (mem_occL.2 ⟨x.2, List.mem_map_of_mem hx, (mem_virtL.1 he).1, hev⟩) hv
theorem sum_len (P : List (List Lk)) : (occL P).length + (relL P).length = (P.map List.length).sum := by
 induction P with
 | nil => rfl
 | cons x P ih =>
  rw [occL_cons, relL_cons, List.map_cons, List.sum_cons, List.length_append, List.length_append]
  have := virt_len x
  omega
theorem sum_three (P : List (List Lk)) (h : ∀ x ∈ P, 3 ≤ x.length) : 3 * P.length ≤ (P.map List.length).sum := by
 induction P with
 | nil => simp
 | cons x P ih =>
  rw [List.map_cons, List.sum_cons, List.length_cons]
  have := ih fun y hy => h y (by simp [hy])
  have := h x (by simp)
  omega
theorem small {P : List (List Lk)} {D : List Lk} (h : TreeP P D) {z : List Lk} {R : List (List Lk)} (hp : P.Perm (z :: R)) (h3 : ∀ x ∈ R, 3 ≤ x.length) : z.length + R.length ≤ (relL P).length := by
 have h1 := sum_len P
 rw [h.occ.length_eq, List.length_append, (hp.map List.length).sum_nat, List.map_cons, List.sum_cons] at h1
 have h2 := sum_three R h3
 have h4 := h.len
 have h5 := hp.length_eq
 simp at h5
 omega
theorem join (h : QI ls Q) (hl : ls.length ≤ 1000) {x y : Pt} {R : List Pt} (hp : Q.Perm (x :: y :: R)) {e : Lk} (hex : e ∈ virtL x.2) (hey : e ∈ virtL y.2) (k : Int) : QI ls ((k, joinL x.2 y.2 e.2.2) :: R) := by
 have hxQ : x ∈ Q := hp.mem_iff.2 (by simp)
 have hyQ : y ∈ Q := hp.mem_iff.2 (by simp)
 obtain ⟨D, h1, h2⟩ := h.tree
 have hp2 : (Q.map fun q => q.2).Perm (x.2 :: y.2 :: R.map fun q => q.2) := by simpa using hp.map fun q => q.2
 have rx := h.right x hxQ
 have ry := h.right y hyQ
 have ex := dropV_erase (right_nodup rx) (mem_virtL.1 hex).1 (h.uniq hxQ hex)
 have ey := dropV_erase (right_nodup ry) (mem_virtL.1 hey).1 (h.uniq hyQ hey)
 have hok : ∀ k ∈ dropV e.2.2 x.2 ++ dropV e.2.2 y.2, OkL k := fun k hk => by
  rcases List.mem_append.1 hk with hk | hk
  · exact rx.2.1 k (mem_dropV.1 hk).1
  · exact ry.2.1 k (mem_dropV.1 hk).1
 have hz : (joinL x.2 y.2 e.2.2).Perm (x.2.erase e ++ y.2.erase e) := by
  have := sortL_perm (dropV e.2.2 x.2 ++ dropV e.2.2 y.2)
  rw [map_swapL hok] at this
  rw [← ex, ← ey]; exact this
 have hT := (h1.perm hp2).join hex hey hz
 have l1 := List.length_erase_of_mem (mem_virtL.1 hex).1
 have l2 := List.length_erase_of_mem (mem_virtL.1 hey).1
 have t1 := h.three x hxQ
 have t2 := h.three y hyQ
 have hzl := hz.length_eq
 rw [List.length_append] at hzl
 have hrel : (relL (joinL x.2 y.2 e.2.2 :: R.map fun q => q.2)).Perm (relL (Q.map fun q => q.2)) := by
  refine List.Perm.trans ?_ (relL_perm hp2).symm
  rw [relL_cons, relL_cons, relL_cons, ← List.append_assoc]
  refine List.Perm.append_right _ ?_
  have hev := (mem_virtL.1 hex).2
  have hre : ∀ Z : List Lk, realL (e :: Z) = realL Z := fun Z => by unfold realL; rw [List.filter_cons, if_neg (by simpa using hev)]
  have a1 := realL_perm (List.perm_cons_erase (mem_virtL.1 hex).1)
  have a2 := realL_perm (List.perm_cons_erase (mem_virtL.1 hey).1)
  rw [hre] at a1 a2
  have a3 := realL_perm hz
  rw [realL_append] at a3
  exact a3.trans (a1.symm.append a2.symm)
 have hlen : (joinL x.2 y.2 e.2.2).length ≤ 1000 := by
  have s1 := small hT (.refl _) (fun u hu => by obtain ⟨q, hq, rfl⟩ := List.mem_map.1 hu; exact h.three q (hp.mem_iff.2 (by simp [hq])))
  have s2 := hrel.length_eq
  have s3 := h.rels.length_eq
  omega
 refine ⟨⟨_, hT, fun d hd => h2 d (List.mem_of_mem_erase hd)⟩, fun q hq => ?_, fun q hq => ?_, ?_⟩
 ·
  rcases List.mem_cons.1 hq with rfl | hq
  ·
   refine right_of hz (sortL_sorted _) (hT.nd _ (by simp)) (fun k hk => ?_) (by rw [← hz.length_eq]; exact hlen); rw [← ex, ← ey] at hk; exact hok k hk
  · exact h.right q (hp.mem_iff.2 (by simp [hq]))
 ·
  rcases List.mem_cons.1 hq with rfl | hq
  · simp only; omega
  · exact h.three q (hp.mem_iff.2 (by simp [hq]))
 ·
  rw [List.map_cons]
  exact hrel.trans h.rels
end QI
def MStep (e : Lk) (Q Q' : List Pt) : Prop := ∃ x y R, Q.Perm (x :: y :: R) ∧ e ∈ virtL x.2 ∧ e ∈ virtL y.2 ∧ x.1 = y.1 ∧ x.1 ≠ 3 ∧ Q'.Perm ((x.1, joinL x.2 y.2 e.2.2) :: R)
theorem MStep.perm {e : Lk} {Q Q' Q1 Q2 : List Pt} (h : MStep e Q Q') (h1 : Q.Perm Q1) (h2 : Q'.Perm Q2) : MStep e Q1 Q2 := by
 obtain ⟨x, y, R, a, b, c, d, f, g⟩ := h
 exact ⟨x, y, R, h1.symm.trans a, b, c, d, f, h2.symm.trans g⟩
theorem MStep.qi {ls : List Lk} (hl : ls.length ≤ 1000) {e : Lk} {Q Q' : List Pt} (h : QI ls Q) (hs : MStep e Q Q') : QI ls Q' := by
 obtain ⟨x, y, R, a, b, c, d, f, g⟩ := hs
 exact (h.join hl a b c _).perm g.symm
theorem MStep.len {e : Lk} {Q Q' : List Pt} (hs : MStep e Q Q') : Q'.length + 1 = Q.length := by
 obtain ⟨x, y, R, a, b, c, d, f, g⟩ := hs
 rw [a.length_eq, g.length_eq]; simp
def MNormal (Q : List Pt) : Prop := ∀ e Q', ¬ MStep e Q Q'
theorem MNormal.perm {Q Q' : List Pt} (h : MNormal Q) (hp : Q.Perm Q') : MNormal Q' := fun e Q1 hs => h e Q1 (hs.perm hp.symm (.refl _))
inductive MTo : List Pt → List Pt → Prop
 | done {Q Q' : List Pt} : Q.Perm Q' → MTo Q Q'
 | step {Q Q1 Q' : List Pt} {e : Lk} : MStep e Q Q1 → MTo Q1 Q' → MTo Q Q'
theorem MTo.permL {Q Q1 Q' : List Pt} (h : MTo Q Q') (hp : Q.Perm Q1) : MTo Q1 Q' := by
 cases h with
 | done h => exact .done (hp.symm.trans h)
 | step h k => exact .step (h.perm hp (.refl _)) k
theorem MTo.snoc {Q Q1 Q2 : List Pt} {e : Lk} (h : MTo Q Q1) (k : MStep e Q1 Q2) : MTo Q Q2 := by
 induction h with
 | done h => exact .step (k.perm h.symm (.refl _)) (.done (.refl _))
 | step h _ ih => exact .step h (ih k)
theorem MTo.qi {ls : List Lk} (hl : ls.length ≤ 1000) {Q Q' : List Pt} (hs : MTo Q Q') : QI ls Q → QI ls Q' := by
 induction hs with
 | done h => exact fun k => k.perm h
 | step h _ ih => exact fun k => ih (h.qi hl k)
theorem mto_ex : ∀ (n : Nat) (Q : List Pt), Q.length = n → ∃ N, MTo Q N ∧ MNormal N := by
 intro n
 induction n with
 | zero =>
  intro Q hQ
  refine ⟨Q, .done (.refl _), fun e Q' hs => ?_⟩
  have := hs.len
  omega
 | succ n ih =>
  intro Q hQ
  by_cases h : MNormal Q
  · exact ⟨Q, .done (.refl _), h⟩
  ·
   have : ∃ e Q', MStep e Q Q' := Classical.byContradiction fun hno => h fun e Q' hs => hno ⟨e, Q', hs⟩; obtain ⟨e, Q', hs⟩ := this; obtain ⟨N, h1, h2⟩ := ih Q' (by have := hs.len; omega); exact ⟨N, .step hs h1, h2⟩
theorem MStep.same {ls : List Lk} {e : Lk} {Q Q1 Q2 : List Pt} (h : QI ls Q) (h1 : MStep e Q Q1) (h2 : MStep e Q Q2) : Q1.Perm Q2 := by
 obtain ⟨x, y, R, a, b, c, d, f, g⟩ := h1
 obtain ⟨x', y', R', a', b', c', d', f', g'⟩ := h2
 have only := h.only a b c
 have hnR : ∀ z ∈ R, e ∉ virtL z.2 := fun z hz hm => only z hz e (mem_virtL.1 hm).1 rfl
 have hp := a'.symm.trans a
 have key : ∀ {u v : Pt}, (x' :: y' :: R').Perm (u :: v :: R) → x' = u → y' = v ∧ R'.Perm R := fun {u v} hp hx => by
  subst hx
  have h1 := hp.cons_inv
  have hy := h1.mem_iff.1 (List.mem_cons_self ..)
  rcases List.mem_cons.1 hy with rfl | hy
  · exact ⟨rfl, h1.cons_inv⟩
  · exact absurd c' (hnR _ hy)
 have hx := hp.mem_iff.1 (List.mem_cons_self ..)
 rcases List.mem_cons.1 hx with e1 | hx
 ·
  obtain ⟨rfl, hR⟩ := key hp e1
  subst e1
  exact g.trans ((hR.symm.cons _).trans g'.symm)
 ·
  rcases List.mem_cons.1 hx with e1 | hx
  ·
   obtain ⟨rfl, hR⟩ := key (hp.trans (.swap ..)) e1; subst e1; rw [d', joinL_comm] at g'; exact g.trans ((hR.symm.cons _).trans g'.symm)
  · exact absurd b' (hnR _ hx)
theorem two_steps {ls : List Lk} {e f : Lk} {Q : List Pt} (h : QI ls Q) (hne : e ≠ f) {x y x' y' : Pt} {R R' : List Pt} (a : Q.Perm (x :: y :: R)) (b : e ∈ virtL x.2) (c : e ∈ virtL y.2) (a' : Q.Perm (x' :: y' :: R')) (b' : f ∈ virtL x'.2) (c' : f ∈ virtL y'.2) :
  (∃ R1, R.Perm (x' :: y' :: R1) ∧ R'.Perm (x :: y :: R1)) ∨
  (∃ p q r R1, ((x = p ∧ y = q) ∨ (x = q ∧ y = p)) ∧ R.Perm (r :: R1) ∧ ((x' = p ∧ y' = r) ∨ (x' = r ∧ y' = p)) ∧ R'.Perm (q :: R1)) := by
 have hp := a.symm.trans a'
 have hx' : x' ∈ x :: y :: R := hp.mem_iff.2 (List.mem_cons_self ..)
 have one : ∀ {p q u v : Pt} {S : List Pt}, (p :: q :: R).Perm (u :: v :: S) → e ∈ virtL p.2 → e ∈ virtL q.2 → f ∈ virtL u.2 → f ∈ virtL v.2 → Q.Perm (p :: q :: R) → u = p → ∃ R1, R.Perm (v :: R1) ∧ S.Perm (q :: R1) := fun {p q u v S} hp e1 e2 f1 f2 hQ hu => by
  subst hu
  have h1 := hp.cons_inv
  have hv := h1.mem_iff.2 (List.mem_cons_self ..)
  rcases List.mem_cons.1 hv with rfl | hv
  · exact absurd (h.share hQ e1 e2 f1 f2) hne
  ·
   obtain ⟨R1, hR1⟩ := perm_head hv; refine ⟨R1, hR1, ?_⟩; have h2 : (v :: q :: R1).Perm (v :: S) := (((List.Perm.swap _ _ _).trans (hR1.symm.cons q))).trans h1; exact h2.cons_inv.symm
 rcases List.mem_cons.1 hx' with e1 | hx'
 ·
  obtain ⟨R1, r1, r2⟩ := one hp b c b' c' a e1
  exact .inr ⟨x, y, y', R1, .inl ⟨rfl, rfl⟩, r1, .inl ⟨e1, rfl⟩, r2⟩
 rcases List.mem_cons.1 hx' with e1 | hx'
 ·
  obtain ⟨R1, r1, r2⟩ := one ((List.Perm.swap ..).trans hp) c b b' c' (a.trans (.swap ..)) e1
  exact .inr ⟨y, x, y', R1, .inr ⟨rfl, rfl⟩, r1, .inl ⟨e1, rfl⟩, r2⟩
 have hy' : y' ∈ x :: y :: R := hp.mem_iff.2 (by simp)
 rcases List.mem_cons.1 hy' with e1 | hy'
 ·
  obtain ⟨R1, r1, r2⟩ := one (hp.trans (.swap ..)) b c c' b' a e1
  exact .inr ⟨x, y, x', R1, .inl ⟨rfl, rfl⟩, r1, .inr ⟨rfl, e1⟩, r2⟩
 rcases List.mem_cons.1 hy' with e1 | hy'
 ·
  obtain ⟨R1, r1, r2⟩ := one ((List.Perm.swap ..).trans (hp.trans (.swap ..))) c b c' b' (a.trans (.swap ..)) e1
  exact .inr ⟨y, x, x', R1, .inr ⟨rfl, rfl⟩, r1, .inr ⟨rfl, e1⟩, r2⟩
 ·
  left
  obtain ⟨R1, h1⟩ := perm_head hx'
  have h2 : (x' :: x :: y :: R1).Perm (x' :: y' :: R') := by
   refine List.Perm.trans ?_ hp; refine (List.Perm.swap _ _ _).trans ?_; refine List.Perm.cons _ ?_; exact (List.Perm.swap _ _ _).trans (h1.symm.cons y)
  have h3 := h2.cons_inv
  have hy2 : y' ∈ x :: y :: R1 := h3.mem_iff.2 (List.mem_cons_self ..)
  have hno : ∀ z ∈ [x, y], y' ≠ z := fun z hz he => by
   simp at hz; have := h.only a b c y' hy' e; rcases hz with rfl | rfl
   · exact this (by rw [he]; exact (mem_virtL.1 b).1) rfl
   · exact this (by rw [he]; exact (mem_virtL.1 c).1) rfl
  rcases List.mem_cons.1 hy2 with e1 | hy2
  · exact absurd e1 (hno x (by simp))
  rcases List.mem_cons.1 hy2 with e1 | hy2
  · exact absurd e1 (hno y (by simp))
  obtain ⟨R2, h4⟩ := perm_head hy2
  refine ⟨R2, h1.trans (h4.cons _), ?_⟩
  have h5 : (y' :: x :: y :: R2).Perm (y' :: R') := by
   refine List.Perm.trans ?_ h3; refine (List.Perm.swap _ _ _).trans ?_; refine List.Perm.cons _ ?_; exact (List.Perm.swap _ _ _).trans (h4.symm.cons y)
  exact h5.cons_inv.symm
theorem join_join {x y z : List Lk} {v w : Int} (hok : ∀ k ∈ x ++ y ++ z, OkL k) (hz : ∀ k ∈ z, k.2.2 ≠ v) (hy : ∀ k ∈ y, k.2.2 ≠ w) : joinL (joinL x y v) z w = joinL (joinL x z w) y v := by
 have sp : ∀ a : List Lk, (∀ k ∈ a, OkL k) → (sortL a).Perm a := fun a ha => by have := sortL_perm a; rwa [map_swapL ha] at this
 have hx : ∀ k ∈ x, OkL k := fun k hk => hok k (by simp [hk])
 have hyo : ∀ k ∈ y, OkL k := fun k hk => hok k (by simp [hk])
 have hzo : ∀ k ∈ z, OkL k := fun k hk => hok k (by simp [hk])
 have o1 : ∀ (a b : List Lk) (u : Int), (∀ k ∈ a, OkL k) → (∀ k ∈ b, OkL k) → ∀ k ∈ dropV u a ++ dropV u b, OkL k := fun a b u ha hb k hk => by
  rcases List.mem_append.1 hk with hk | hk
  · exact ha k (mem_dropV.1 hk).1
  · exact hb k (mem_dropV.1 hk).1
 have p1 : (joinL x y v).Perm (dropV v x ++ y.filter fun k => k.2.2 != v) := sp _ (o1 x y v hx hyo)
 have p2 : (joinL x z w).Perm (dropV w x ++ z.filter fun k => k.2.2 != w) := sp _ (o1 x z w hx hzo)
 have ez : dropV v z = z := dropV_self hz
 have ey : dropV w y = y := dropV_self hy
 refine sortL_congr (List.Perm.map _ ?_)
 have q1 := (dropV_perm (v := w) p1).append_right (dropV w z)
 have q2 := (dropV_perm (v := v) p2).append_right (dropV v y)
 refine q1.trans (List.Perm.trans ?_ q2.symm)
 rw [dropV_append, dropV_append]
 change (dropV w (dropV v x) ++ dropV w (dropV v y) ++ dropV w z).Perm (dropV v (dropV w x) ++ dropV v (dropV w z) ++ dropV v y)
 rw [dropV_comm v w x, dropV_comm w v y, ey, dropV_comm v w z, ez, List.append_assoc, List.append_assoc]
 exact List.Perm.append_left _ List.perm_append_comm
theorem MStep.cross {ls : List Lk} (hl : ls.length ≤ 1000) {e f : Lk} {Q Q1 Q2 : List Pt} (h : QI ls Q) (hne : e ≠ f) (h1 : MStep e Q Q1) (h2 : MStep f Q Q2) : ∃ Q3, MStep f Q1 Q3 ∧ MStep e Q2 Q3 := by
 obtain ⟨x, y, R, a, b, c, d, k, g⟩ := h1
 obtain ⟨x', y', R', a', b', c', d', k', g'⟩ := h2
 have hjok : ∀ {p q : Pt} {v : Int} {i : Lk}, p ∈ Q → q ∈ Q → (i ∈ virtL (joinL p.2 q.2 v) ↔ (i ∈ virtL p.2 ∨ i ∈ virtL q.2) ∧ i.2.2 ≠ v) := fun {p q v i} hp hq => by
  have hok : ∀ k ∈ dropV v p.2 ++ dropV v q.2, OkL k := fun k hk => by
   rcases List.mem_append.1 hk with hk | hk
   · exact (h.right p hp).2.1 k (mem_dropV.1 hk).1
   · exact (h.right q hq).2.1 k (mem_dropV.1 hk).1
  have hpp := sortL_perm (dropV v p.2 ++ dropV v q.2)
  rw [map_swapL hok] at hpp
  rw [mem_virtL, mem_virtL, mem_virtL]
  unfold joinL
  rw [hpp.mem_iff, List.mem_append, mem_dropV, mem_dropV]
  constructor
  ·
   rintro ⟨h1 | h1, h2⟩
   · exact ⟨.inl ⟨h1.1, h2⟩, h1.2⟩
   · exact ⟨.inr ⟨h1.1, h2⟩, h1.2⟩
  ·
   rintro ⟨h1 | h1, h2⟩
   · exact ⟨.inl ⟨h1.1, h2⟩, h1.2⟩
   · exact ⟨.inr ⟨h1.1, h2⟩, h1.2⟩
 rcases two_steps h hne a b c a' b' c' with ⟨R1, r1, r2⟩ | ⟨p, q, r, R1, hxy, r1, hxy', r2⟩
 ·
  refine ⟨(x.1, joinL x.2 y.2 e.2.2) :: (x'.1, joinL x'.2 y'.2 f.2.2) :: R1, ?_, ?_⟩
  ·
   refine ⟨x', y', (x.1, joinL x.2 y.2 e.2.2) :: R1, g.trans ((r1.cons _).trans ?_), b', c', d', k', .swap ..⟩; refine (List.Perm.swap _ _ _).trans (List.Perm.cons _ ?_); exact .swap ..
  ·
   refine ⟨x, y, (x'.1, joinL x'.2 y'.2 f.2.2) :: R1, g'.trans ((r2.cons _).trans ?_), b, c, d, k, .refl _⟩; refine (List.Perm.swap _ _ _).trans (List.Perm.cons _ ?_); exact .swap ..
 ·
  
  have main : ∀ {p q r : Pt} {R1 : List Pt}, Q.Perm (p :: q :: r :: R1) → e ∈ virtL p.2 → e ∈ virtL q.2 → f ∈ virtL p.2 → f ∈ virtL r.2 → p.1 = q.1 → p.1 = r.1 → p.1 ≠ 3 →
    MStep f ((p.1, joinL p.2 q.2 e.2.2) :: r :: R1) ((p.1, joinL (joinL p.2 q.2 e.2.2) r.2 f.2.2) :: R1) ∧ MStep e ((p.1, joinL p.2 r.2 f.2.2) :: q :: R1) ((p.1, joinL (joinL p.2 q.2 e.2.2) r.2 f.2.2) :: R1) := fun {p q r R1} hQ e1 e2 f1 f2 k1 k2 k3 => by
   have mp : p ∈ Q := hQ.mem_iff.2 (by simp); have mq : q ∈ Q := hQ.mem_iff.2 (by simp); have mr : r ∈ Q := hQ.mem_iff.2 (by simp); have hvne : f.2.2 ≠ e.2.2 := fun hv => hne (h.uniq mp f1 e (mem_virtL.1 e1).1 hv.symm); have hr := h.only hQ e1 e2 r (by simp); have hq := h.only (hQ.trans ((List.Perm.swap _ _ _).cons _)) f1 f2 q (by simp); have hok : ∀ k ∈ p.2 ++ q.2 ++ r.2, OkL k := fun k hk => by
    rcases List.mem_append.1 hk with hk | hk
    ·
     rcases List.mem_append.1 hk with hk | hk
     · exact (h.right p mp).2.1 k hk
     · exact (h.right q mq).2.1 k hk
    · exact (h.right r mr).2.1 k hk
   refine ⟨⟨_, r, R1, .refl _, (hjok mp mq).2 ⟨.inl f1, hvne⟩, f2, k2, k3, .refl _⟩, ⟨_, q, R1, .refl _, (hjok mp mr).2 ⟨.inl e1, fun hv => hvne hv.symm⟩, e2, k1, k3, ?_⟩⟩; rw [join_join hok hr hq]
  have hQ : Q.Perm (p :: q :: r :: R1) := by
   rcases hxy with ⟨rfl, rfl⟩ | ⟨rfl, rfl⟩
   · exact a.trans ((r1.cons _).cons _)
   · exact a.trans ((List.Perm.swap _ _ _).trans ((r1.cons _).cons _))
  have hep : e ∈ virtL p.2 ∧ e ∈ virtL q.2 := by rcases hxy with ⟨rfl, rfl⟩ | ⟨rfl, rfl⟩ <;> exact ⟨by assumption, by assumption⟩
  have hfp : f ∈ virtL p.2 ∧ f ∈ virtL r.2 := by rcases hxy' with ⟨rfl, rfl⟩ | ⟨rfl, rfl⟩ <;> exact ⟨by assumption, by assumption⟩
  have hk1 : p.1 = q.1 ∧ p.1 ≠ 3 := by
   rcases hxy with ⟨rfl, rfl⟩ | ⟨rfl, rfl⟩
   · exact ⟨d, k⟩
   · exact ⟨d.symm, by rw [← d]; exact k⟩
  have hk2 : p.1 = r.1 := by
   rcases hxy' with ⟨rfl, rfl⟩ | ⟨rfl, rfl⟩
   · exact d'
   · exact d'.symm
  obtain ⟨m1, m2⟩ := main hQ hep.1 hep.2 hfp.1 hfp.2 hk1.1 hk2 hk1.2
  refine ⟨_, m1.perm ?_ (.refl _), m2.perm ?_ (.refl _)⟩
  ·
   refine List.Perm.trans ?_ g.symm; have : (p.1, joinL p.2 q.2 e.2.2) = (x.1, joinL x.2 y.2 e.2.2) := by
    rcases hxy with ⟨rfl, rfl⟩ | ⟨rfl, rfl⟩
    · rfl
    · rw [joinL_comm, d]
   rw [this]; exact r1.symm.cons _
  ·
   refine List.Perm.trans ?_ g'.symm; have : (p.1, joinL p.2 r.2 f.2.2) = (x'.1, joinL x'.2 y'.2 f.2.2) := by
    rcases hxy' with ⟨rfl, rfl⟩ | ⟨rfl, rfl⟩
    · rfl
    · rw [joinL_comm, d']
   rw [this]; exact r2.symm.cons _
theorem MTo.one {ls : List Lk} (hl : ls.length ≤ 1000) : ∀ (n : Nat) (Q N1 N2 : List Pt), Q.length = n → QI ls Q → MTo Q N1 → MTo Q N2 → MNormal N1 → MNormal N2 → N1.Perm N2 := by
 intro n
 induction n with
 | zero =>
  intro Q N1 N2 hQ _ h1 h2 _ _
  cases h1 with
  | step s _ => have := s.len; omega
  | done p1 =>
   cases h2 with
   | step s _ => have := s.len; omega
   | done p2 => exact p1.symm.trans p2
 | succ n ih =>
  intro Q N1 N2 hQ hqi h1 h2 n1 n2
  cases h1 with
  | done p1 =>
   cases h2 with
   | done p2 => exact p1.symm.trans p2
   | step s _ => exact absurd (s.perm p1 (.refl _)) (n1 _ _)
  | step s1 t1 =>
   cases h2 with
   | done p2 => exact absurd (s1.perm p2 (.refl _)) (n2 _ _)
   | step s2 t2 =>
    rename_i Q1 e Q2 f; have l1 := s1.len; have l2 := s2.len; by_cases hef : e = f
    ·
     subst hef; exact ih Q1 N1 N2 (by omega) (s1.qi hl hqi) t1 (t2.permL (s2.same hqi s1)) n1 n2
    ·
     obtain ⟨Q3, s3, s4⟩ := s1.cross hl hqi hef s2; obtain ⟨N3, t3, n3⟩ := mto_ex Q3.length Q3 rfl; exact (ih Q1 N1 N3 (by omega) (s1.qi hl hqi) t1 (.step s3 t3) n1 n3).trans (ih Q2 N2 N3 (by omega) (s2.qi hl hqi) t2 (.step s4 t3) n2 n3).symm
end Go.Proofs.YtagcbnpahgfgmaaGreat
