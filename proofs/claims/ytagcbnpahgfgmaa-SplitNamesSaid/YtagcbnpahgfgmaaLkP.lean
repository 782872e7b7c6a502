/- Links as plain triples: their order, which are right, sorted lists, vertices. No program in sight. -/
import Derived.Tactics
import Derived.Lib.SlicesCompact
namespace Go.Proofs.Ytagcbnpahgfgmaa

/-- a link: A, B, V -/
abbrev Lk := Int × Int × Int
def cmpI (a b : Int) : Int := if a < b then -1 else if b < a then 1 else 0
def orI (x y : Int) : Int := if x = 0 then y else x
theorem cmpI_bd (a b : Int) : -1 ≤ cmpI a b ∧ cmpI a b ≤ 1 := by unfold cmpI; split <;> (try split) <;> omega
def cmpL (a b : Lk) : Int := orI (cmpI a.1 b.1) (orI (cmpI a.2.1 b.2.1) (cmpI a.2.2 b.2.2))
def LtL (a b : Lk) : Prop := a.1 < b.1 ∨ (a.1 = b.1 ∧ (a.2.1 < b.2.1 ∨ (a.2.1 = b.2.1 ∧ a.2.2 < b.2.2)))
instance instLtL : DecidableRel LtL := fun a b => by unfold LtL; infer_instance
theorem cmpL_neg (a b : Lk) : cmpL a b < 0 ↔ LtL a b := by
  unfold cmpL orI cmpI LtL
  repeat' split
  all_goals omega
theorem cmpL_bd (a b : Lk) : -1 ≤ cmpL a b ∧ cmpL a b ≤ 1 := by
  have := cmpI_bd a.1 b.1; have := cmpI_bd a.2.1 b.2.1; have := cmpI_bd a.2.2 b.2.2
  unfold cmpL orI
  repeat' split
  all_goals omega
theorem LtL.irrefl (a : Lk) : ¬ LtL a a := by unfold LtL; omega
theorem LtL.trans {a b c : Lk} (h : LtL a b) (k : LtL b c) : LtL a c := by unfold LtL at *; omega
theorem LtL.total (a b : Lk) (h : ¬ LtL a b) (k : ¬ LtL b a) : a = b := by
  obtain ⟨a1, a2, a3⟩ := a; obtain ⟨b1, b2, b3⟩ := b
  simp only [LtL] at h k
  ext <;> simp only <;> omega
theorem LtL.asymm {a b : Lk} (h : LtL a b) : ¬ LtL b a := by unfold LtL at *; omega

/-! ### which are right -/
def OkL (k : Lk) : Prop := 0 ≤ k.1 ∧ k.1 < k.2.1 ∧ k.2.1 < 1048576 ∧ 0 ≤ k.2.2 ∧ k.2.2 ≤ 1048576
instance instOkL (k : Lk) : Decidable (OkL k) := by unfold OkL; infer_instance
def RightL (ls : List Lk) : Prop := ls.length ≤ 1000 ∧ (∀ k ∈ ls, OkL k) ∧ ls.Pairwise LtL
instance instRightL (ls : List Lk) : Decidable (RightL ls) := by unfold RightL; infer_instance
def rightL (ls : List Lk) : Bool := decide (RightL ls)
theorem rightL_iff (ls : List Lk) : rightL ls = true ↔ RightL ls := by unfold rightL; rw [decide_eq_true_eq]
theorem pair_chain {α : Type} {R : α → α → Prop} (ht : ∀ a b c, R a b → R b c → R a c) (l : List α) : l.Pairwise R ↔ ∀ i (h : i + 1 < l.length), R l[i] l[i+1] := by
  rw [List.pairwise_iff_getElem]
  constructor
  · intro h i hi; exact h i (i+1) (by omega) hi (by omega)
  · intro h i j hi hj hlt
    obtain ⟨d, rfl⟩ : ∃ d, j = i + 1 + d := ⟨j - (i + 1), by omega⟩
    clear hlt
    induction d with
    | zero => exact h i (by omega)
    | succ d ih => exact ht _ _ _ (ih (by omega)) (h (i + 1 + d) (by omega))
theorem rightL_at (ls : List Lk) : rightL ls = true ↔ ls.length ≤ 1000 ∧ (∀ i (h : i < ls.length), OkL ls[i]) ∧ (∀ i (h : i + 1 < ls.length), LtL ls[i] ls[i+1]) := by
  rw [rightL_iff]; unfold RightL
  rw [pair_chain (R := LtL) (fun a b c h k => LtL.trans h k)]
  constructor
  · rintro ⟨a, b, c⟩; exact ⟨a, fun i h => b _ (List.getElem_mem h), c⟩
  · rintro ⟨a, b, c⟩
    refine ⟨a, fun k hk => ?_, c⟩
    obtain ⟨i, hi, rfl⟩ := List.getElem_of_mem hk
    exact b i hi
theorem rightL_false {ls : List Lk} (h : ¬ RightL ls) : rightL ls = false := by unfold rightL; simpa using h

/-! ### sorted -/
def insL (x : Lk) : List Lk → List Lk
  | [] => [x]
  | y :: r => if LtL x y then x :: y :: r else y :: insL x r
def swapL (k : Lk) : Lk := if k.2.1 < k.1 then (k.2.1, k.1, k.2.2) else k
def sortL (ls : List Lk) : List Lk := ls.foldl (fun o k => insL (swapL k) o) []
def LeL (a b : Lk) : Prop := ¬ LtL b a
theorem LeL.trans {a b c : Lk} (h : LeL a b) (k : LeL b c) : LeL a c := by unfold LeL LtL at *; omega
theorem insL_perm (x : Lk) (l : List Lk) : (insL x l).Perm (x :: l) := by
  induction l with
  | nil => exact .refl _
  | cons y r ih =>
    unfold insL
    split
    · exact .refl _
    · exact (ih.cons y).trans (List.Perm.swap _ _ _)
theorem insL_sorted (x : Lk) (l : List Lk) (h : l.Pairwise LeL) : (insL x l).Pairwise LeL := by
  induction l with
  | nil => simp [insL]
  | cons y r ih =>
    obtain ⟨h1, h2⟩ := List.pairwise_cons.1 h
    unfold insL
    split
    · rename_i hlt
      rw [List.pairwise_cons]
      refine ⟨fun z hz => ?_, h⟩
      have hxy : LeL x y := hlt.asymm
      rcases List.mem_cons.1 hz with rfl | hz
      · exact hxy
      · exact hxy.trans (h1 z hz)
    · rename_i hlt
      rw [List.pairwise_cons]
      refine ⟨fun z hz => ?_, ih h2⟩
      rcases List.mem_cons.1 ((insL_perm x r).mem_iff.1 hz) with rfl | hz
      · exact hlt
      · exact h1 z hz
theorem sortL_aux (ls o : List Lk) (ho : o.Pairwise LeL) : (ls.foldl (fun o k => insL (swapL k) o) o).Pairwise LeL ∧ (ls.foldl (fun o k => insL (swapL k) o) o).Perm (o ++ ls.map swapL) := by
  induction ls generalizing o with
  | nil => simp [ho]
  | cons k r ih =>
    obtain ⟨h1, h2⟩ := ih (insL (swapL k) o) (insL_sorted _ _ ho)
    refine ⟨h1, h2.trans ?_⟩
    rw [List.map_cons]
    exact ((insL_perm _ _).append_right _).trans (by simpa using (List.perm_middle (l₁ := o) (a := swapL k) (l₂ := r.map swapL)).symm)
theorem sortL_sorted (ls : List Lk) : (sortL ls).Pairwise LeL := (sortL_aux ls [] .nil).1
theorem sortL_perm (ls : List Lk) : (sortL ls).Perm (ls.map swapL) := (sortL_aux ls [] .nil).2
theorem sorted_one {a b : List Lk} (h : a.Perm b) (ha : a.Pairwise LeL) (hb : b.Pairwise LeL) : a = b :=
  h.eq_of_pairwise (fun x y _ _ h1 h2 => LtL.total x y h2 h1) ha hb
theorem sortL_length (ls : List Lk) : (sortL ls).length = ls.length := by rw [(sortL_perm ls).length_eq]; simp
theorem sortL_one {ls o : List Lk} (h : o.Perm (ls.map swapL)) (ho : o.Pairwise LeL) : o = sortL ls := sorted_one (h.trans (sortL_perm ls).symm) ho (sortL_sorted ls)
theorem sortL_merge (ls : List Lk) : (ls.map swapL).mergeSort (fun x y => !decide (cmpL y x < 0)) = sortL ls := by
  refine sortL_one (List.mergeSort_perm _ _) ?_
  have := List.pairwise_mergeSort (le := fun x y : Lk => !decide (cmpL y x < 0)) (fun a b c => by simp only [Bool.not_eq_true', decide_eq_false_iff_not, cmpL_neg]; exact LeL.trans) (fun a b => by
    simp only [Bool.or_eq_true, Bool.not_eq_true', decide_eq_false_iff_not, cmpL_neg]
    by_cases h : LtL b a
    · exact .inr h.asymm
    · exact .inl h) (ls.map swapL)
  refine this.imp fun {a b} h => ?_
  unfold LeL
  simpa [cmpL_neg] using h
theorem swapL_id {k : Lk} (h : OkL k) : swapL k = k := by unfold swapL; rw [if_neg (by unfold OkL at h; omega)]
theorem map_swapL {ls : List Lk} (h : ∀ k ∈ ls, OkL k) : ls.map swapL = ls := by
  induction ls with
  | nil => rfl
  | cons k r ih => rw [List.map_cons, swapL_id (h k (by simp)), ih fun x hx => h x (by simp [hx])]
theorem right_sorted {ls : List Lk} (h : RightL ls) : ls.Pairwise LeL := h.2.2.imp fun h => h.asymm
theorem sortL_right {ls : List Lk} (h : RightL ls) : sortL ls = ls := (sortL_one (by rw [map_swapL h.2.1]) (right_sorted h)).symm
theorem swapL_idem (k : Lk) : swapL (swapL k) = swapL k := by
  unfold swapL
  split
  · rename_i h; rw [if_neg]; simp only; omega
  · rfl
theorem sortL_idem (ls : List Lk) : sortL (sortL ls) = sortL ls := by
  symm
  refine sortL_one ?_ (sortL_sorted ls)
  have h := (sortL_perm ls).map swapL
  rw [List.map_map] at h
  have e : swapL ∘ swapL = swapL := funext swapL_idem
  rw [e] at h
  exact (sortL_perm ls).trans h.symm
theorem sortL_congr {a b : List Lk} (h : (a.map swapL).Perm (b.map swapL)) : sortL a = sortL b := sortL_one ((sortL_perm a).trans h) (sortL_sorted a)

/-! ### vertices -/
def insV (x : Int) : List Int → List Int
  | [] => [x]
  | y :: r => if x < y then x :: y :: r else if x = y then y :: r else y :: insV x r
def endsL (ls : List Lk) : List Int := ls.flatMap fun k => [k.1, k.2.1]
def vertsL (ls : List Lk) : List Int := (endsL ls).foldl (fun o v => insV v o) []
theorem mem_insV (x : Int) (l : List Int) (z : Int) : z ∈ insV x l ↔ z = x ∨ z ∈ l := by
  induction l with
  | nil => simp [insV]
  | cons y r ih =>
    unfold insV
    split
    · simp
    · split
      · rename_i h; subst h; simp
      · simp only [List.mem_cons, ih]
        constructor
        · rintro (h | h | h)
          · exact .inr (.inl h)
          · exact .inl h
          · exact .inr (.inr h)
        · rintro (h | h | h)
          · exact .inr (.inl h)
          · exact .inl h
          · exact .inr (.inr h)
theorem insV_sorted (x : Int) (l : List Int) (h : l.Pairwise (· < ·)) : (insV x l).Pairwise (· < ·) := by
  induction l with
  | nil => simp [insV]
  | cons y r ih =>
    obtain ⟨h1, h2⟩ := List.pairwise_cons.1 h
    unfold insV
    split
    · rename_i hlt
      rw [List.pairwise_cons]
      refine ⟨fun z hz => ?_, h⟩
      rcases List.mem_cons.1 hz with rfl | hz
      · exact hlt
      · have := h1 z hz; omega
    · split
      · exact h
      · rw [List.pairwise_cons]
        refine ⟨fun z hz => ?_, ih h2⟩
        rcases (mem_insV x r z).1 hz with rfl | hz
        · omega
        · exact h1 z hz
theorem vertsL_aux (vs o : List Int) (ho : o.Pairwise (· < ·)) : (vs.foldl (fun o v => insV v o) o).Pairwise (· < ·) ∧ ∀ z, z ∈ vs.foldl (fun o v => insV v o) o ↔ z ∈ o ∨ z ∈ vs := by
  induction vs generalizing o with
  | nil => simp [ho]
  | cons v r ih =>
    obtain ⟨h1, h2⟩ := ih (insV v o) (insV_sorted _ _ ho)
    refine ⟨h1, fun z => ?_⟩
    rw [List.foldl_cons, h2, mem_insV, List.mem_cons]
    constructor
    · rintro ((h | h) | h)
      · exact .inr (.inl h)
      · exact .inl h
      · exact .inr (.inr h)
    · rintro (h | h | h)
      · exact .inl (.inr h)
      · exact .inl (.inl h)
      · exact .inr h
theorem vertsL_sorted (ls : List Lk) : (vertsL ls).Pairwise (· < ·) := (vertsL_aux _ [] .nil).1
theorem mem_vertsL (ls : List Lk) (z : Int) : z ∈ vertsL ls ↔ ∃ k ∈ ls, z = k.1 ∨ z = k.2.1 := by
  unfold vertsL
  rw [(vertsL_aux _ [] .nil).2]
  simp [endsL]
theorem strict_one {a b : List Int} (ha : a.Pairwise (· < ·)) (hb : b.Pairwise (· < ·)) (h : ∀ z, z ∈ a ↔ z ∈ b) : a = b := by
  induction a generalizing b with
  | nil =>
    cases b with
    | nil => rfl
    | cons y r => have := (h y).2 (by simp); simp at this
  | cons x a ih =>
    cases b with
    | nil => have := (h x).1 (by simp); simp at this
    | cons y r =>
      obtain ⟨a1, a2⟩ := List.pairwise_cons.1 ha
      obtain ⟨b1, b2⟩ := List.pairwise_cons.1 hb
      have e : x = y := by
        have h1 := (h x).1 (by simp)
        have h2 := (h y).2 (by simp)
        rcases List.mem_cons.1 h1 with e | h1
        · exact e
        · rcases List.mem_cons.1 h2 with e | h2
          · exact e.symm
          · have := b1 x h1; have := a1 y h2; omega
      subst e
      rw [ih a2 b2 fun z => ?_]
      constructor
      · intro hz
        rcases List.mem_cons.1 ((h z).1 (by simp [hz])) with rfl | h3
        · have := a1 z hz; omega
        · exact h3
      · intro hz
        rcases List.mem_cons.1 ((h z).2 (by simp [hz])) with rfl | h3
        · have := b1 z hz; omega
        · exact h3
theorem vertsL_one {ls : List Lk} {o : List Int} (ho : o.Pairwise (· < ·)) (h : ∀ z, z ∈ o ↔ ∃ k ∈ ls, z = k.1 ∨ z = k.2.1) : o = vertsL ls :=
  strict_one ho (vertsL_sorted ls) fun z => by rw [h, mem_vertsL]
theorem endsL_length (ls : List Lk) : (endsL ls).length = ls.length * 2 := by
  induction ls with
  | nil => rfl
  | cons k r ih => unfold endsL at ih ⊢; rw [List.flatMap_cons, List.length_append, ih]; simp only [List.length_cons, List.length_nil]; omega
theorem strict_len {l o : List Int} (ho : o.Pairwise (· < ·)) (h : ∀ z ∈ o, z ∈ l) : o.length ≤ l.length := by
  induction o generalizing l with
  | nil => simp
  | cons a o ih =>
    obtain ⟨h1, h2⟩ := List.pairwise_cons.1 ho
    have ha := h a (by simp)
    have h3 := ih (l := l.erase a) h2 fun x hx => by
      have := h1 x hx
      exact (List.mem_erase_of_ne (by omega)).2 (h x (by simp [hx]))
    rw [List.length_erase_of_mem ha] at h3
    have := List.length_pos_of_mem ha
    simp only [List.length_cons]; omega
theorem vertsL_length (ls : List Lk) : (vertsL ls).length ≤ ls.length * 2 := by
  rw [← endsL_length]
  exact strict_len (vertsL_sorted ls) fun z hz => by rw [mem_vertsL] at hz; simp only [endsL, List.mem_flatMap, List.mem_cons, List.not_mem_nil, or_false]; exact hz
/-- what the library leaves of a sorted list -/
theorem compact_strict (zs : List Int) (hs : zs.Pairwise (· ≤ ·)) : (Lib.compact zs).Pairwise (· < ·) ∧ ∀ z, z ∈ Lib.compact zs ↔ z ∈ zs := by
  have hle := List.pairwise_iff_getElem.1 hs
  have hk : ∀ i, Lib.keeps zs.toArray i = true ↔ (i = 0 ∨ zs[i]! ≠ zs[i-1]!) := fun i => by simp [Lib.keeps]
  have hg : ∀ i (h : i < zs.length), zs.toArray[i]! = zs[i] := fun i h => by simp [h]
  unfold Lib.compact Lib.compactUpTo
  constructor
  · rw [List.pairwise_map, List.pairwise_filter]
    refine List.Pairwise.imp_of_mem ?_ (List.pairwise_lt_range (n := zs.length))
    intro a b ha hb hab _ hkb
    rw [List.mem_range] at ha hb
    rw [hk] at hkb
    rcases hkb with rfl | hkb
    · omega
    · rw [hg a ha, hg b hb]
      have e1 : zs[b]! = zs[b] := by simp [hb]
      have e2 : zs[b-1]! = zs[b-1] := by simp [show b - 1 < zs.length by omega]
      rw [e1, e2] at hkb
      have h1 := hle (b-1) b (by omega) hb (by omega)
      by_cases hab1 : a = b - 1
      · subst hab1; omega
      · have h2 := hle a (b-1) ha (by omega) (by omega); omega
  · intro z
    simp only [List.mem_map, List.mem_filter, List.mem_range]
    constructor
    · rintro ⟨i, ⟨hi, _⟩, rfl⟩
      rw [hg i hi]; exact List.getElem_mem hi
    · intro hz
      obtain ⟨i, hi, rfl⟩ := List.getElem_of_mem hz
      clear hz
      induction i using Nat.strongRecOn with
      | _ i ih =>
        by_cases hki : Lib.keeps zs.toArray i = true
        · exact ⟨i, ⟨hi, hki⟩, hg i hi⟩
        · rw [hk] at hki
          have hi0 : i ≠ 0 := fun e => hki (.inl e)
          have e : zs[i]! = zs[i-1]! := Classical.byContradiction fun e => hki (.inr e)
          have e1 : zs[i]! = zs[i] := by simp [hi]
          have e2 : zs[i-1]! = zs[i-1]'(by omega) := by simp [show i - 1 < zs.length by omega]
          rw [e1, e2] at e
          obtain ⟨j, hj, hje⟩ := ih (i-1) (by omega) (by omega)
          exact ⟨j, hj, by rw [hje, e]⟩
theorem vertsL_compact (ls : List Lk) : Lib.compact ((endsL ls).mergeSort fun x y => decide (x ≤ y)) = vertsL ls := by
  have hp := List.pairwise_mergeSort (le := fun x y : Int => decide (x ≤ y)) (fun a b c => by simp only [decide_eq_true_eq]; omega) (fun a b => by simp only [Bool.or_eq_true, decide_eq_true_eq]; omega) (endsL ls)
  obtain ⟨h1, h2⟩ := compact_strict _ (hp.imp fun {a b} h => by simpa using h)
  refine vertsL_one h1 fun z => ?_
  rw [h2, (List.mergeSort_perm _ _).mem_iff]
  simp [endsL]
end Go.Proofs.Ytagcbnpahgfgmaa
