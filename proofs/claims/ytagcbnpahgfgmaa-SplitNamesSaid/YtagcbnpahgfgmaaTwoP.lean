/- Two-connected links: by groups, and by the vertices that part them. No program in sight. -/
import Derived.Test.YtagcbnpahgfgmaaGrpP
namespace Go.Proofs.Ytagcbnpahgfgmaa

def joinedL (ls : List Lk) : Bool := (groupsL ls []).length == 1
def twoL (ls : List Lk) : Bool := joinedL ls && (decide ((vertsL ls).length ≤ 2) || (vertsL ls).all fun v => (groupsL ls [v]).length == 1)

theorem groups_one {ls : List Lk} {wo : List Int} (hr : rightL ls = true) : (groupsL ls wo).length = 1 ↔ ls ≠ [] ∧ ∀ i j, i < ls.length → j < ls.length → LCon ls wo i j := by
  unfold groupsL
  rw [if_pos hr, List.length_map, gIdx_length]
  have heq : ∀ i j, i < ls.length → j < ls.length → (compC ls.length (bsL ls wo) i = compC ls.length (bsL ls wo) j ↔ LCon ls wo i j) := fun i j hi hj => compC_eq (bsL_symm ls wo) hi hj
  constructor
  · intro h
    obtain ⟨a, ha⟩ := List.length_eq_one_iff.1 h
    have hne : ls ≠ [] := fun e => by subst e; simp [firsts] at h
    refine ⟨hne, ?_⟩
    have hall : ∀ j, j < ls.length → compC ls.length (bsL ls wo) a = compC ls.length (bsL ls wo) j := by
      intro j
      induction j using Nat.strongRecOn with
      | _ j ih =>
        intro hj
        by_cases hf : ∀ i, i < j → compC ls.length (bsL ls wo) i ≠ compC ls.length (bsL ls wo) j
        · have : j ∈ firsts (compC ls.length (bsL ls wo)) ls.length := mem_firsts.2 ⟨hj, hf⟩
          rw [ha] at this; simp at this; rw [this]
        · have : ∃ i, i < j ∧ compC ls.length (bsL ls wo) i = compC ls.length (bsL ls wo) j := Classical.byContradiction fun hno => hf fun i hi e => hno ⟨i, hi, e⟩
          obtain ⟨i, hi, e⟩ := this
          exact (ih i hi (by omega)).trans e
    intro i j hi hj
    exact (heq i j hi hj).1 ((hall i hi).symm.trans (hall j hj))
  · rintro ⟨hne, hall⟩
    have hpos : 0 < ls.length := List.length_pos_iff.2 hne
    have hf : firsts (compC ls.length (bsL ls wo)) ls.length = [0] := by
      have h0 : 0 ∈ firsts (compC ls.length (bsL ls wo)) ls.length := mem_firsts.2 ⟨hpos, fun j hj => absurd hj (Nat.not_lt_zero _)⟩
      have hu : ∀ i ∈ firsts (compC ls.length (bsL ls wo)) ls.length, i = 0 := fun i hi => by
        have h1 := mem_firsts.1 hi
        rcases Nat.eq_zero_or_pos i with e | e
        · exact e
        · exact absurd ((heq 0 i hpos h1.1).2 (hall 0 i hpos h1.1)) (h1.2 0 e)
      have hn := firsts_nodup (compC ls.length (bsL ls wo)) ls.length
      cases hl : firsts (compC ls.length (bsL ls wo)) ls.length with
      | nil => rw [hl] at h0; simp at h0
      | cons a r =>
        rw [hl] at hu hn
        have ea := hu a (by simp)
        cases r with
        | nil => rw [ea]
        | cons b r' =>
          have eb := hu b (by simp)
          rw [ea, eb] at hn; simp at hn
    rw [hf]; rfl

theorem VCon.of_lcon {ls : List Lk} {wo : List Int} {i j : Nat} (h : LCon ls wo i j) {a b : Lk} (ha : ls[i]? = some a) {u : Int} (hu : u ∉ wo) (hua : u = a.1 ∨ u = a.2.1) : ∀ (_ : ls[j]? = some b) {v : Int} (_ : v ∉ wo) (_ : v = b.1 ∨ v = b.2.1), VCon ls wo u v := by
  have same : ∀ {k : Lk}, k ∈ ls → ∀ {x y : Int}, x ∉ wo → y ∉ wo → (x = k.1 ∨ x = k.2.1) → (y = k.1 ∨ y = k.2.1) → VCon ls wo x y := fun {k} hk {x y} hx hy h1 h2 => by
    rcases h1 with rfl | rfl <;> rcases h2 with rfl | rfl
    · exact .refl
    · exact VCon.link hk hx hy
    · exact (VCon.link hk hy hx).symm
    · exact .refl
  induction h generalizing b with
  | refl _ =>
    intro hb v hv hvb
    rw [ha] at hb; cases hb
    exact same (List.mem_of_getElem? ha) hu hv hua hvb
  | step _c0 m1 m2 ih =>
    intro hb v hv hvb
    obtain ⟨c, d, hc, hd, ht⟩ := mem_bsL.1 m1
    rw [hb] at hd; cases hd
    obtain ⟨w, w1, w2, w3⟩ := (touchB_iff _ _ _).1 ht
    exact (ih hc w1 w2).trans (same (List.mem_of_getElem? hb) w1 hv w3 hvb)
theorem LCon.of_vcon {ls : List Lk} {wo : List Int} {i j : Nat} {a b : Lk} (ha : ls[i]? = some a) (hb : ls[j]? = some b) {u v : Int} (hu : u ∉ wo) (hv : v ∉ wo) (hua : u = a.1 ∨ u = a.2.1) (hvb : v = b.1 ∨ v = b.2.1) (h : VCon ls wo u v) : LCon ls wo i j := by
  have hi : i < ls.length := (List.getElem?_eq_some_iff.1 ha).1
  have key : ∀ y, VCon ls wo u y → y ∉ wo → ∀ (m : Nat) (k : Lk), ls[m]? = some k → (y = k.1 ∨ y = k.2.1) → LCon ls wo i m := by
    intro y hy
    induction hy with
    | refl =>
      intro _ m k hm hk
      exact (show Con (bsL ls wo) (· < ls.length) i i from .refl hi).step (mem_bsL.2 ⟨a, k, ha, hm, (touchB_iff _ _ _).2 ⟨u, hu, hua, hk⟩⟩) (List.getElem?_eq_some_iff.1 hm).1
    | step _c0 m1 m2 m3 m4 ih =>
      rename_i y z k'
      intro hz m k hm hk
      obtain ⟨p, hp, hpe⟩ := List.getElem_of_mem m1
      have hp2 : ls[p]? = some k' := by rw [List.getElem?_eq_getElem hp, hpe]
      have hy1 : y ∉ wo ∧ (y = k'.1 ∨ y = k'.2.1) ∧ (z = k'.1 ∨ z = k'.2.1) := by
        rcases m4 with ⟨e1, e2⟩ | ⟨e1, e2⟩
        · exact ⟨by rw [e1]; exact m2, .inl e1, .inr e2⟩
        · exact ⟨by rw [e1]; exact m3, .inr e1, .inl e2⟩
      have c1 := ih hy1.1 p k' hp2 hy1.2.1
      exact c1.step (mem_bsL.2 ⟨k', k, hp2, hm, (touchB_iff _ _ _).2 ⟨z, hz, hy1.2.2, hk⟩⟩) (List.getElem?_eq_some_iff.1 hm).1
  exact key v h hv j b hb hvb
/-- one group, said of vertices (a vertex is left out, or none) -/
theorem groups_one_v {ls : List Lk} {wo : List Int} (hr : rightL ls = true) (hne : ls ≠ []) (hwo : wo.length ≤ 1) : (groupsL ls wo).length = 1 ↔ ∀ u v, u ∈ vertsL ls → v ∈ vertsL ls → u ∉ wo → v ∉ wo → VCon ls wo u v := by
  have hR := (rightL_iff ls).1 hr
  rw [groups_one hr]
  constructor
  · rintro ⟨_, h⟩ u v hu hv huw hvw
    obtain ⟨a, ha, hua⟩ := (mem_vertsL ls u).1 hu
    obtain ⟨b, hb, hvb⟩ := (mem_vertsL ls v).1 hv
    obtain ⟨i, hi, hie⟩ := List.getElem_of_mem ha
    obtain ⟨j, hj, hje⟩ := List.getElem_of_mem hb
    exact VCon.of_lcon (h i j hi hj) (by rw [List.getElem?_eq_getElem hi, hie]) huw hua (by rw [List.getElem?_eq_getElem hj, hje]) hvw hvb
  · intro h
    refine ⟨hne, fun i j hi hj => ?_⟩
    have ends : ∀ k ∈ ls, ∃ u, u ∉ wo ∧ (u = k.1 ∨ u = k.2.1) := fun k hk => by
      have ok := hR.2.1 k hk
      by_cases h1 : k.1 ∈ wo
      · refine ⟨k.2.1, fun h2 => ?_, .inr rfl⟩
        match wo, hwo with
        | [], _ => simp at h1
        | [x], _ => simp at h1 h2; have := ok.2.1; omega
      · exact ⟨k.1, h1, .inl rfl⟩
    obtain ⟨u, u1, u2⟩ := ends _ (List.getElem_mem hi)
    obtain ⟨v, v1, v2⟩ := ends _ (List.getElem_mem hj)
    exact LCon.of_vcon (by simp) (by simp) u1 v1 u2 v2 (h u v ((mem_vertsL ls u).2 ⟨_, List.getElem_mem hi, u2⟩) ((mem_vertsL ls v).2 ⟨_, List.getElem_mem hj, v2⟩) u1 v1)

/-! ### vertices by their places -/
def nbN (vs : List Int) (ls : List Lk) (i : Nat) : List Nat := ls.flatMap fun k => if vs.idxOf k.1 = i then [vs.idxOf k.2.1] else if vs.idxOf k.2.1 = i then [vs.idxOf k.1] else []
theorem idxOf_get {vs : List Int} (h : vs.Nodup) {i : Nat} (hi : i < vs.length) : vs.idxOf vs[i] = i := List.Nodup.idxOf_getElem h i hi
theorem get_idxOf {vs : List Int} {x : Int} (h : x ∈ vs) : vs[vs.idxOf x]? = some x := by
  rw [List.getElem?_eq_getElem (List.idxOf_lt_length_of_mem h), List.getElem_idxOf]
theorem verts_nodup (ls : List Lk) : (vertsL ls).Nodup := (vertsL_sorted ls).imp fun h e => by omega
theorem idxOf_inj {vs : List Int} {x y : Int} (hx : x ∈ vs) (hy : y ∈ vs) (h : vs.idxOf x = vs.idxOf y) : x = y := by
  have h1 := get_idxOf hx
  have h2 := get_idxOf hy
  rw [h, h2] at h1
  exact (Option.some.inj h1).symm
theorem mem_nbN {ls : List Lk} (hok : ∀ k ∈ ls, OkL k) {i j : Nat} : j ∈ nbN (vertsL ls) ls i ↔ ∃ k ∈ ls, ((vertsL ls).idxOf k.1 = i ∧ (vertsL ls).idxOf k.2.1 = j) ∨ ((vertsL ls).idxOf k.2.1 = i ∧ (vertsL ls).idxOf k.1 = j) := by
  unfold nbN
  rw [List.mem_flatMap]
  constructor
  · rintro ⟨k, hk, hj⟩
    refine ⟨k, hk, ?_⟩
    split at hj
    · rename_i h; simp at hj; exact .inl ⟨h, hj.symm⟩
    · split at hj
      · rename_i h; simp at hj; exact .inr ⟨h, hj.symm⟩
      · simp at hj
  · rintro ⟨k, hk, ⟨h1, h2⟩ | ⟨h1, h2⟩⟩
    · exact ⟨k, hk, by rw [if_pos h1]; simp [h2]⟩
    · refine ⟨k, hk, ?_⟩
      have hne : (vertsL ls).idxOf k.1 ≠ i := fun e => by
        have := idxOf_inj ((mem_vertsL ls _).2 ⟨k, hk, .inl rfl⟩) ((mem_vertsL ls _).2 ⟨k, hk, .inr rfl⟩) (e.trans h1.symm)
        have := (hok k hk).2.1; omega
      rw [if_neg hne, if_pos h1]; simp [h2]
theorem nbN_symm {ls : List Lk} (hok : ∀ k ∈ ls, OkL k) : ∀ a b, b ∈ nbN (vertsL ls) ls a → a ∈ nbN (vertsL ls) ls b := fun a b h => by
  rw [mem_nbN hok] at h ⊢
  obtain ⟨k, hk, h⟩ := h
  exact ⟨k, hk, h.elim (fun e => .inr ⟨e.2, e.1⟩) (fun e => .inl ⟨e.2, e.1⟩)⟩
theorem nbN_lt {ls : List Lk} (hok : ∀ k ∈ ls, OkL k) {a b : Nat} (h : b ∈ nbN (vertsL ls) ls a) : b < (vertsL ls).length ∧ a < (vertsL ls).length := by
  obtain ⟨k, hk, h⟩ := (mem_nbN hok).1 h
  have h1 := List.idxOf_lt_length_of_mem ((mem_vertsL ls _).2 ⟨k, hk, .inl rfl⟩)
  have h2 := List.idxOf_lt_length_of_mem ((mem_vertsL ls _).2 ⟨k, hk, .inr rfl⟩)
  rcases h with ⟨e1, e2⟩ | ⟨e1, e2⟩
  · rw [← e1, ← e2]; exact ⟨h2, h1⟩
  · rw [← e1, ← e2]; exact ⟨h1, h2⟩
theorem nbN_len (vs : List Int) (ls : List Lk) (i : Nat) : (nbN vs ls i).length ≤ ls.length := by
  unfold nbN
  induction ls with
  | nil => simp
  | cons k r ih =>
    rw [List.flatMap_cons, List.length_append]
    have : (if vs.idxOf k.1 = i then [vs.idxOf k.2.1] else if vs.idxOf k.2.1 = i then [vs.idxOf k.1] else []).length ≤ 1 := by
      split
      · simp
      · split <;> simp
    simp only [List.length_cons]; omega
/-- among places, and among vertices -/
theorem con_vcon {ls : List Lk} (hok : ∀ k ∈ ls, OkL k) {wo : List Int} {S : Nat → Prop} (hS : ∀ x, x < (vertsL ls).length → (S x ↔ ∀ v, (vertsL ls)[x]? = some v → v ∉ wo)) {u v : Int} (hu : u ∈ vertsL ls) (hv : v ∈ vertsL ls) (huw : u ∉ wo) (hvw : v ∉ wo) :
    Con (nbN (vertsL ls) ls) S ((vertsL ls).idxOf u) ((vertsL ls).idxOf v) ↔ VCon ls wo u v := by
  have hSv : ∀ {x}, x ∈ vertsL ls → x ∉ wo → S ((vertsL ls).idxOf x) := fun {x} hx hxw => (hS _ (List.idxOf_lt_length_of_mem hx)).2 fun y hy => by
    rw [get_idxOf hx] at hy; cases hy; exact hxw
  constructor
  · intro h
    have key : ∀ y, Con (nbN (vertsL ls) ls) S ((vertsL ls).idxOf u) y → ∀ z, z ∈ vertsL ls → (vertsL ls).idxOf z = y → VCon ls wo u z := by
      intro y hy
      induction hy with
      | refl _ => intro z hz e; have := idxOf_inj hu hz e.symm; subst this; exact .refl
      | step c0 m1 m2 ih =>
        rename_i y z'
        intro z hz e
        obtain ⟨k, hk, hcase⟩ := (mem_nbN hok).1 m1
        have a1 := (mem_vertsL ls _).2 ⟨k, hk, .inl (rfl : k.1 = k.1)⟩
        have a2 := (mem_vertsL ls _).2 ⟨k, hk, .inr (rfl : k.2.1 = k.2.1)⟩
        have hyS := c0.right
        rcases hcase with ⟨e1, e2⟩ | ⟨e1, e2⟩
        · have ez : z = k.2.1 := idxOf_inj hz a2 (by rw [e, e2])
          have n1 : k.1 ∉ wo := (hS y (by rw [← e1]; exact List.idxOf_lt_length_of_mem a1)).1 hyS _ (by rw [← e1]; exact get_idxOf a1)
          have n2 : k.2.1 ∉ wo := (hS z' (by rw [← e2]; exact List.idxOf_lt_length_of_mem a2)).1 m2 _ (by rw [← e2]; exact get_idxOf a2)
          rw [ez]
          exact (ih k.1 a1 e1).trans (VCon.link hk n1 n2)
        · have ez : z = k.1 := idxOf_inj hz a1 (by rw [e, e2])
          have n2 : k.2.1 ∉ wo := (hS y (by rw [← e1]; exact List.idxOf_lt_length_of_mem a2)).1 hyS _ (by rw [← e1]; exact get_idxOf a2)
          have n1 : k.1 ∉ wo := (hS z' (by rw [← e2]; exact List.idxOf_lt_length_of_mem a1)).1 m2 _ (by rw [← e2]; exact get_idxOf a1)
          rw [ez]
          exact (ih k.2.1 a2 e1).trans (VCon.link hk n1 n2).symm
    exact key _ h v hv rfl
  · intro h
    have key : ∀ z, VCon ls wo u z → Con (nbN (vertsL ls) ls) S ((vertsL ls).idxOf u) ((vertsL ls).idxOf z) := by
      intro z hz
      induction hz with
      | refl => exact .refl (hSv hu huw)
      | step _c0 m1 m2 m3 m4 ih =>
        rename_i y z k
        have a1 := (mem_vertsL ls _).2 ⟨k, m1, .inl (rfl : k.1 = k.1)⟩
        have a2 := (mem_vertsL ls _).2 ⟨k, m1, .inr (rfl : k.2.1 = k.2.1)⟩
        rcases m4 with ⟨rfl, rfl⟩ | ⟨rfl, rfl⟩
        · exact ih.step ((mem_nbN hok).2 ⟨k, m1, .inl ⟨rfl, rfl⟩⟩) (hSv a2 m3)
        · exact ih.step ((mem_nbN hok).2 ⟨k, m1, .inr ⟨rfl, rfl⟩⟩) (hSv a1 m2)
    exact key v h

/-- what 'Cuts' tells of right links of three vertices or more -/
theorem two_cuts {ls : List Lk} (hr : rightL ls = true) (h3 : 3 ≤ (vertsL ls).length) {j : Bool} {cut : Nat → Bool} (h : CutSpec (vertsL ls).length (nbN (vertsL ls) ls) (-1) j cut) :
    (j = true ↔ joinedL ls = true) ∧ (j = true → ∀ u v, (vertsL ls)[u]? = some v → (cut u = false ↔ (groupsL ls [v]).length = 1)) := by
  have hR := (rightL_iff ls).1 hr
  have hne : ls ≠ [] := fun e => by subst e; simp [vertsL, endsL] at h3
  have hok := hR.2.1
  have pres : ∀ x, Pres (vertsL ls).length (-1) x ↔ x < (vertsL ls).length := fun x => ⟨fun h => h.1, fun h => ⟨h, by omega⟩⟩
  refine ⟨?_, ?_⟩
  · rw [h.join_iff]
    unfold joinedL
    rw [beq_iff_eq, groups_one_v hr hne (by simp)]
    have hS : ∀ x, x < (vertsL ls).length → (Pres (vertsL ls).length (-1) x ↔ ∀ v, (vertsL ls)[x]? = some v → v ∉ ([] : List Int)) := fun x hx => by simp [pres, hx]
    constructor
    · intro hc u v hu hv _ _
      exact (con_vcon hok hS hu hv (by simp) (by simp)).1 (hc _ _ ((pres _).2 (List.idxOf_lt_length_of_mem hu)) ((pres _).2 (List.idxOf_lt_length_of_mem hv)))
    · intro hc x y hx hy
      have hx' := (pres x).1 hx; have hy' := (pres y).1 hy
      have := (con_vcon hok hS (List.getElem_mem hx') (List.getElem_mem hy') (by simp) (by simp)).2 (hc _ _ (List.getElem_mem hx') (List.getElem_mem hy') (by simp) (by simp))
      rwa [idxOf_get (verts_nodup ls) hx', idxOf_get (verts_nodup ls) hy'] at this
  · intro hj u v hv
    have hu : u < (vertsL ls).length := (List.getElem?_eq_some_iff.1 hv).1
    have hve : (vertsL ls)[u] = v := by rw [List.getElem?_eq_getElem hu] at hv; exact Option.some.inj hv
    rw [groups_one_v hr hne (by simp)]
    have hS : ∀ x, x < (vertsL ls).length → (Av (vertsL ls).length (-1) u x ↔ ∀ z, (vertsL ls)[x]? = some z → z ∉ [v]) := fun x hx => by
      unfold Av
      rw [pres]
      constructor
      · rintro ⟨_, h2⟩ z hz hzv
        simp at hzv; subst hzv
        rw [List.getElem?_eq_getElem hx] at hz
        have e : (vertsL ls)[x] = (vertsL ls)[u] := by rw [Option.some.inj hz, hve]
        exact h2 ((List.getElem_inj (verts_nodup ls)).1 e)
      · intro h2
        exact ⟨hx, fun e => by subst e; exact h2 v hv (by simp)⟩
    have hav : ∀ x, Av (vertsL ls).length (-1) u x → x < (vertsL ls).length := fun x hx => (pres x).1 hx.1
    have hci := h.cut_iff hj u ((pres u).2 hu)
    constructor
    · intro hc a b ha hb hav1 hbv1
      refine (con_vcon hok hS ha hb hav1 hbv1).1 (Classical.byContradiction fun hno => ?_)
      have sa := (hS _ (List.idxOf_lt_length_of_mem ha)).2 fun z hz => by rw [get_idxOf ha] at hz; cases hz; exact hav1
      have sb := (hS _ (List.idxOf_lt_length_of_mem hb)).2 fun z hz => by rw [get_idxOf hb] at hz; cases hz; exact hbv1
      rw [hci.2 ⟨_, _, sa, sb, hno⟩] at hc; cases hc
    · intro hc
      refine Classical.byContradiction fun hcut => ?_
      obtain ⟨x, y, hx, hy, hno⟩ := hci.1 (by simpa using hcut)
      have hx' := hav x hx; have hy' := hav y hy
      have nx := (hS x hx').1 hx _ (List.getElem?_eq_getElem hx')
      have ny := (hS y hy').1 hy _ (List.getElem?_eq_getElem hy')
      have := (con_vcon hok hS (List.getElem_mem hx') (List.getElem_mem hy') nx ny).2 (hc _ _ (List.getElem_mem hx') (List.getElem_mem hy') nx ny)
      rw [idxOf_get (verts_nodup ls) hx', idxOf_get (verts_nodup ls) hy'] at this
      exact hno this
theorem two_many {ls : List Lk} (hr : rightL ls = true) (h3 : 3 ≤ (vertsL ls).length) {j : Bool} {cut : Nat → Bool} (h : CutSpec (vertsL ls).length (nbN (vertsL ls) ls) (-1) j cut) :
    (j && !(List.range (vertsL ls).length).any cut) = twoL ls := by
  obtain ⟨h1, h2⟩ := two_cuts hr h3 h
  unfold twoL
  cases hj : j with
  | false =>
    have : joinedL ls = false := by
      refine Classical.byContradiction fun e => ?_
      have := h1.2 (by simpa using e); rw [hj] at this; cases this
    rw [this]; rfl
  | true =>
    rw [h1.1 hj]
    rw [hj] at h2
    have hd : decide ((vertsL ls).length ≤ 2) = false := by simp; omega
    rw [hd]
    simp only [Bool.true_and, Bool.false_or]
    rw [Bool.eq_iff_iff]
    simp only [Bool.not_eq_true', List.any_eq_false, List.mem_range, List.all_eq_true, beq_iff_eq]
    constructor
    · intro hc v hv
      obtain ⟨i, hi, e⟩ := List.getElem_of_mem hv
      exact (h2 rfl i v (by rw [List.getElem?_eq_getElem hi, e])).1 (by simpa using hc i hi)
    · intro hc i hi
      have := (h2 rfl i _ (List.getElem?_eq_getElem hi)).2 (hc _ (List.getElem_mem hi))
      simp [this]
theorem nodup_len_leZ {l m : List Int} (h : l.Nodup) (hs : ∀ x ∈ l, x ∈ m) : l.length ≤ m.length := by
  induction l generalizing m with
  | nil => simp
  | cons a l ih =>
    obtain ⟨h1, h2⟩ := List.nodup_cons.1 h
    have ha := hs a (by simp)
    have h3 := ih (m := m.erase a) h2 fun x hx => by
      have hxa : x ≠ a := fun e => h1 (e ▸ hx)
      exact (List.mem_erase_of_ne hxa).2 (hs x (by simp [hx]))
    rw [List.length_erase_of_mem ha] at h3
    have := List.length_pos_of_mem ha
    simp only [List.length_cons]; omega
/-- links of two vertices -/
theorem two_few {ls : List Lk} (hr : rightL ls = true) (hne : ls ≠ []) (h3 : (vertsL ls).length < 3) : twoL ls = true := by
  have hR := (rightL_iff ls).1 hr
  unfold twoL
  rw [show decide ((vertsL ls).length ≤ 2) = true by simp; omega]
  simp only [Bool.true_or, Bool.and_true]
  unfold joinedL
  rw [beq_iff_eq, groups_one_v hr hne (by simp)]
  intro u v hu hv _ _
  obtain ⟨a, ha, hua⟩ := (mem_vertsL ls u).1 hu
  obtain ⟨b, hb, hvb⟩ := (mem_vertsL ls v).1 hv
  have oa := hR.2.1 a ha; have ob := hR.2.1 b hb
  -- at most two vertices: the ends of a are all
  have hin : ∀ z, z ∈ vertsL ls → z = a.1 ∨ z = a.2.1 := fun z hz => Classical.byContradiction fun hno => by
    have h1 : a.1 ∈ vertsL ls := (mem_vertsL ls _).2 ⟨a, ha, .inl rfl⟩
    have h2 : a.2.1 ∈ vertsL ls := (mem_vertsL ls _).2 ⟨a, ha, .inr rfl⟩
    have hnd : [z, a.1, a.2.1].Nodup := by
      simp only [List.nodup_cons, List.mem_cons, List.not_mem_nil, or_false, not_or, List.nodup_nil, and_true, not_false_eq_true]
      exact ⟨⟨fun e => hno (.inl e), fun e => hno (.inr e)⟩, fun e => by have := oa.2.1; omega⟩
    have : [z, a.1, a.2.1].length ≤ (vertsL ls).length := nodup_len_leZ hnd (fun x hx => by
      simp only [List.mem_cons, List.not_mem_nil, or_false] at hx
      rcases hx with rfl | rfl | rfl
      · exact hz
      · exact h1
      · exact h2)
    simp at this; omega
  rcases hin u hu with rfl | rfl <;> rcases hin v hv with rfl | rfl
  · exact .refl
  · exact VCon.link ha (by simp) (by simp)
  · exact (VCon.link ha (by simp) (by simp)).symm
  · exact .refl
end Go.Proofs.Ytagcbnpahgfgmaa
