/- Splitting by another number gives the same parts, but for the numbers. No program in sight. -/
import Derived.Test.YtagcbnpahgfgmaaSpP
namespace Go.Proofs.Ytagcbnpahgfgmaa

structure SpS where
  todo : List (List Lk)
  out : List (List Lk)
  next : Int
def SpS.step (s : SpS) : SpS := match s.todo.getLast? with
  | none => s
  | some top =>
    if (firstC top).2.2.1 then ⟨s.todo.dropLast ++ [(sidesL top (firstC top).1 (firstC top).2.1 s.next).2, (sidesL top (firstC top).1 (firstC top).2.1 s.next).1], s.out, s.next + 1⟩
    else ⟨s.todo.dropLast, s.out ++ [top], s.next⟩
def SpS.steps : Nat → SpS → SpS
  | 0, s => s
  | k + 1, s => SpS.steps k s.step
/-- what links are split into, from a number on -/
def SplitTo (ls : List Lk) (next : Int) (out : List (List Lk)) (n : Int) : Prop := ∃ k, SpS.steps k ⟨[ls], [], next⟩ = ⟨[], out, n⟩
theorem steps_succ (k : Nat) (s : SpS) : SpS.steps (k + 1) s = (SpS.steps k s).step := by
  induction k generalizing s with
  | zero => rfl
  | succ k ih => rw [SpS.steps, ih]; rfl
def fmL (t : List (List Lk)) : Nat := (t.map fun x => x.length - 3).sum
theorem fm_append (a b : List (List Lk)) : fmL (a ++ b) = fmL a + fmL b := by unfold fmL; rw [List.map_append, List.sum_append]
theorem getLast_split {t : List (List Lk)} {x : List Lk} (h : t.getLast? = some x) : t = t.dropLast ++ [x] := by
  have hne : t ≠ [] := fun e => by subst e; simp at h
  rw [List.getLast?_eq_some_getLast hne] at h
  have := List.dropLast_concat_getLast hne
  rw [Option.some.inj h] at this
  exact this.symm
/-- one more part: the sizes go down -/
theorem fm_sides {top : List Lk} {a b er num : Int} (h : firstC top = (a, b, true, er)) : fmL [(sidesL top a b num).2, (sidesL top a b num).1] + 1 ≤ top.length - 3 ∧ 4 ≤ top.length ∧ (sidesL top a b num).1.length < top.length ∧ (sidesL top a b num).2.length < top.length := by
  obtain ⟨h2, _, _, _, hp, _⟩ := firstC_true h
  obtain ⟨l1, l2, l3⟩ := sides_len (num := num) h2 hp
  unfold fmL
  simp
  omega

/-! ### another number -/
def shV (d : Int) (k : Lk) : Lk := (k.1, k.2.1, if k.2.2 = 0 then 0 else k.2.2 + d)
def GoodV (a : Int) (ls : List Lk) : Prop := ∀ k ∈ ls, k.2.2 = 0 ∨ (a ≤ k.2.2 ∧ k.2.2 < a + 1000)
section
variable {a d : Int} (ha : 1 ≤ a ∧ a ≤ 1000) (hd : 1 ≤ a + d ∧ a + d ≤ 1000)
include ha hd
theorem sh_lt {x y : Lk} (hx : x.2.2 = 0 ∨ (a ≤ x.2.2 ∧ x.2.2 < a + 1000)) (hy : y.2.2 = 0 ∨ (a ≤ y.2.2 ∧ y.2.2 < a + 1000)) : LtL (shV d x) (shV d y) ↔ LtL x y := by
  unfold LtL shV
  simp only
  split <;> split <;> omega
theorem sh_le {x y : Lk} (hx : x.2.2 = 0 ∨ (a ≤ x.2.2 ∧ x.2.2 < a + 1000)) (hy : y.2.2 = 0 ∨ (a ≤ y.2.2 ∧ y.2.2 < a + 1000)) : LeL (shV d x) (shV d y) ↔ LeL x y := by
  unfold LeL; rw [sh_lt ha hd hy hx]
theorem sh_ok {x : Lk} (hx : x.2.2 = 0 ∨ (a ≤ x.2.2 ∧ x.2.2 < a + 1000)) : OkL (shV d x) ↔ OkL x := by
  unfold OkL shV
  simp only
  split <;> omega
theorem sh_right {ls : List Lk} (hg : GoodV a ls) : rightL (ls.map (shV d)) = rightL ls := by
  rw [Bool.eq_iff_iff, rightL_iff, rightL_iff]
  unfold RightL
  rw [List.length_map]
  refine and_congr_right fun _ => and_congr ?_ ?_
  · constructor
    · intro h k hk
      exact (sh_ok ha hd (hg k hk)).1 (h _ (List.mem_map.2 ⟨k, hk, rfl⟩))
    · intro h k hk
      obtain ⟨x, hx, rfl⟩ := List.mem_map.1 hk
      exact (sh_ok ha hd (hg x hx)).2 (h x hx)
  · rw [List.pairwise_map]
    constructor
    · intro h
      exact h.imp_of_mem fun hx hy hlt => (sh_lt ha hd (hg _ hx) (hg _ hy)).1 hlt
    · intro h
      exact h.imp_of_mem fun hx hy hlt => (sh_lt ha hd (hg _ hx) (hg _ hy)).2 hlt
omit ha hd in
theorem sh_ends (ls : List Lk) : endsL (ls.map (shV d)) = endsL ls := by
  unfold endsL
  rw [List.flatMap_map]; rfl
omit ha hd in
theorem sh_verts (ls : List Lk) : vertsL (ls.map (shV d)) = vertsL ls := by
  unfold vertsL
  rw [sh_ends]
omit ha hd in
theorem sh_bs (ls : List Lk) (wo : List Int) : bsL (ls.map (shV d)) wo = bsL ls wo := by
  funext i
  unfold bsL
  rw [List.length_map]
  refine List.filter_congr fun j _ => ?_
  rw [List.getElem?_map, List.getElem?_map]
  cases ls[i]? <;> cases ls[j]? <;> rfl
omit ha hd in
theorem sh_pick (ls : List Lk) (g : List Nat) : pickL (ls.map (shV d)) g = (pickL ls g).map (shV d) := by
  unfold pickL
  rw [List.map_filterMap]
  congr 1
  funext i
  rw [List.getElem?_map]
theorem sh_groups {ls : List Lk} (hg : GoodV a ls) (wo : List Int) : groupsL (ls.map (shV d)) wo = (groupsL ls wo).map (List.map (shV d)) := by
  unfold groupsL
  rw [sh_right ha hd hg, sh_bs, List.length_map]
  split
  · rw [List.map_map]
    refine List.map_congr_left fun g _ => ?_
    exact sh_pick ls g
  · rfl
theorem sh_two {ls : List Lk} (hg : GoodV a ls) : twoL (ls.map (shV d)) = twoL ls := by
  unfold twoL joinedL
  rw [sh_verts, sh_groups ha hd hg, List.length_map]
  congr 2
  refine List.all_congr rfl fun v => ?_
  rw [sh_groups ha hd hg, List.length_map]
omit ha hd in
theorem sh_lens (g : List (List Lk)) : lensL (g.map (List.map (shV d))) = lensL g := by
  unfold lensL
  rw [List.map_map]
  refine List.map_congr_left fun x _ => ?_
  simp
theorem sh_pairAt {ls : List Lk} (hg : GoodV a ls) : pairAt (ls.map (shV d)) = pairAt ls := by
  funext i k
  unfold pairAt pairP
  rw [sh_verts, sh_groups ha hd hg, sh_lens]
theorem sh_first {ls : List Lk} (hg : GoodV a ls) : firstC (ls.map (shV d)) = firstC ls := by
  unfold firstC
  rw [sh_two ha hd hg, sh_pairAt ha hd hg, sh_verts]
omit ha hd in
theorem sh_swap (k : Lk) : swapL (shV d k) = shV d (swapL k) := by
  unfold swapL shV
  simp only
  split <;> rfl
omit ha hd in
theorem swap_v (k : Lk) : (swapL k).2.2 = k.2.2 := by
  unfold swapL
  split <;> rfl
theorem sh_sort {ls : List Lk} (hg : GoodV a ls) : sortL (ls.map (shV d)) = (sortL ls).map (shV d) := by
  symm
  apply sortL_one
  · rw [List.map_map]
    have := (sortL_perm ls).map (shV d)
    rw [List.map_map] at this
    refine this.trans (List.Perm.of_eq ?_)
    refine List.map_congr_left fun k _ => ?_
    exact (sh_swap k).symm
  · have hg2 : ∀ k ∈ sortL ls, k.2.2 = 0 ∨ (a ≤ k.2.2 ∧ k.2.2 < a + 1000) := fun k hk => by
      obtain ⟨x, hx, rfl⟩ := List.mem_map.1 ((sortL_perm ls).mem_iff.1 hk)
      rw [swap_v]; exact hg x hx
    rw [List.pairwise_map]
    exact (sortL_sorted ls).imp_of_mem fun hx hy h => (sh_le ha hd (hg2 _ hx) (hg2 _ hy)).2 h
omit ha hd in
theorem sh_chosen (n : Nat) (c : List Lk) : chosenB n (c.map (shV d)) = chosenB n c := by unfold chosenB; rw [List.length_map]
omit ha hd in
theorem sh_fromTo (n : Nat) (G : List (List Lk)) : fromTo n (G.map (List.map (shV d))) = fromTo n G := by
  unfold fromTo
  rw [List.findIdx?_map, show (chosenB n ∘ List.map (shV d)) = chosenB n from funext fun c => sh_chosen n c]
omit ha hd in
theorem sh_getD (G : List (List Lk)) (j : Nat) : (G.map (List.map (shV d))).getD j [] = (G.getD j []).map (shV d) := by
  simp only [List.getD, List.getElem?_map]
  cases G[j]? <;> rfl
omit ha hd in
theorem sh_in (f t : Nat) (G : List (List Lk)) (i : Nat) : inS f t (G.map (List.map (shV d))) i = (inS f t G i).map (shV d) := by
  unfold inS
  rw [List.map_flatMap]
  congr 1
  funext j
  split
  · exact sh_getD G j
  · rfl
omit ha hd in
theorem sh_out (f t : Nat) (G : List (List Lk)) (i : Nat) : outS f t (G.map (List.map (shV d))) i = (outS f t G i).map (shV d) := by
  unfold outS
  rw [List.map_flatMap]
  congr 1
  funext j
  split
  · rfl
  · exact sh_getD G j
omit ha hd in
theorem sort_v {xs : List Lk} {k : Lk} (h : k ∈ sortL xs) : ∃ x ∈ xs, k.2.2 = x.2.2 := by
  obtain ⟨x, hx, rfl⟩ := List.mem_map.1 ((sortL_perm xs).mem_iff.1 h)
  exact ⟨x, hx, swap_v x⟩
omit ha hd in
theorem mem_inS {f t : Nat} {G : List (List Lk)} {i : Nat} {k : Lk} (h : k ∈ inS f t G i) : ∃ r ∈ G, k ∈ r := by
  unfold inS at h
  obtain ⟨j, _, hk⟩ := List.mem_flatMap.1 h
  split at hk
  · by_cases hj : j < G.length
    · simp only [List.getD, List.getElem?_eq_getElem hj, Option.getD_some] at hk
      exact ⟨_, List.getElem_mem hj, hk⟩
    · simp [List.getD, List.getElem?_eq_none (Nat.le_of_not_lt hj)] at hk
  · simp at hk
omit ha hd in
theorem mem_outS {f t : Nat} {G : List (List Lk)} {i : Nat} {k : Lk} (h : k ∈ outS f t G i) : ∃ r ∈ G, k ∈ r := by
  unfold outS at h
  obtain ⟨j, _, hk⟩ := List.mem_flatMap.1 h
  split at hk
  · simp at hk
  · by_cases hj : j < G.length
    · simp only [List.getD, List.getElem?_eq_getElem hj, Option.getD_some] at hk
      exact ⟨_, List.getElem_mem hj, hk⟩
    · simp [List.getD, List.getElem?_eq_none (Nat.le_of_not_lt hj)] at hk
omit ha hd in
theorem mem_groups {ls : List Lk} {wo : List Int} {r : List Lk} (h : r ∈ groupsL ls wo) {k : Lk} (hk : k ∈ r) : k ∈ ls := by
  cases hr : rightL ls with
  | false => unfold groupsL at h; rw [hr] at h; simp at h
  | true =>
    obtain ⟨p, hp⟩ := List.getElem?_of_mem h
    obtain ⟨i, _, G⟩ := grp_at hr hp
    exact G.sub.subset hk
omit ha hd in
theorem sides_v {ls : List Lk} {p q num : Int} {k : Lk} (h : k ∈ (sidesL ls p q num).1 ∨ k ∈ (sidesL ls p q num).2) : k.2.2 = num ∨ ∃ x ∈ ls, k.2.2 = x.2.2 := by
  unfold sidesL at h
  simp only at h
  rcases h with h | h
  · obtain ⟨x, hx, e⟩ := sort_v h
    rcases List.mem_cons.1 hx with rfl | hx
    · exact .inl e
    · obtain ⟨r, hr, hxr⟩ := mem_inS hx
      exact .inr ⟨x, mem_groups hr hxr, e⟩
  · obtain ⟨x, hx, e⟩ := sort_v h
    rcases List.mem_cons.1 hx with rfl | hx
    · exact .inl e
    · obtain ⟨r, hr, hxr⟩ := mem_outS hx
      exact .inr ⟨x, mem_groups hr hxr, e⟩
theorem sh_sides {ls : List Lk} (hg : GoodV a ls) {p q num : Int} (hn : a ≤ num ∧ num < a + 1000) :
    sidesL (ls.map (shV d)) p q (num + d) = ((sidesL ls p q num).1.map (shV d), (sidesL ls p q num).2.map (shV d)) := by
  have h0 : (p, q, num + d) = shV d (p, q, num) := by unfold shV; simp only; rw [if_neg (by omega)]
  have hgr : ∀ r ∈ groupsL ls [p, q], ∀ k ∈ r, k.2.2 = 0 ∨ (a ≤ k.2.2 ∧ k.2.2 < a + 1000) := fun r hr k hk => hg k (mem_groups hr hk)
  unfold sidesL
  simp only
  rw [sh_groups ha hd hg, List.length_map, List.length_map, sh_fromTo, sh_in, sh_out, h0, ← List.map_cons, ← List.map_cons, sh_sort ha hd, sh_sort ha hd]
  · intro k hk
    rcases List.mem_cons.1 hk with rfl | hk
    · exact .inr hn
    · obtain ⟨r, hr, hkr⟩ := mem_outS hk
      exact hgr r hr k hkr
  · intro k hk
    rcases List.mem_cons.1 hk with rfl | hk
    · exact .inr hn
    · obtain ⟨r, hr, hkr⟩ := mem_inS hk
      exact hgr r hr k hkr
end
/-- what stays true while it is split -/
structure SpS.Inv (a : Int) (s : SpS) : Prop where
  todo : ∀ t ∈ s.todo, GoodV a t
  out : ∀ t ∈ s.out, GoodV a t
  lo : a ≤ s.next
  hi : s.next + fmL s.todo ≤ a + 999
def SpS.sh (d : Int) (s : SpS) : SpS := ⟨s.todo.map (List.map (shV d)), s.out.map (List.map (shV d)), s.next + d⟩
theorem SpS.Inv.step {a : Int} {s : SpS} (h : s.Inv a) : s.step.Inv a := by
  unfold SpS.step
  cases hl : s.todo.getLast? with
  | none => exact h
  | some top =>
    have hsp := getLast_split hl
    have htm : top ∈ s.todo := by rw [hsp]; simp
    have hdm : ∀ t ∈ s.todo.dropLast, t ∈ s.todo := fun t ht => by rw [hsp]; simp [ht]
    have hfm : fmL s.todo = fmL s.todo.dropLast + (top.length - 3) := by
      have := congrArg fmL hsp
      rw [fm_append] at this
      rw [this]; simp [fmL]
    have hh := h.hi
    have hlo := h.lo
    simp only
    cases hc : (firstC top).2.2.1 with
    | false =>
      simp only [Bool.false_eq_true, if_false]
      refine ⟨fun t ht => h.todo t (hdm t ht), fun t ht => ?_, h.lo, ?_⟩
      · simp at ht
        rcases ht with ht | rfl
        · exact h.out t ht
        · exact h.todo _ htm
      · simp only; omega
    | true =>
      simp only [if_true]
      obtain ⟨f1, f2, f3, f4⟩ := fm_sides (num := s.next) (top := top) (a := (firstC top).1) (b := (firstC top).2.1) (er := (firstC top).2.2.2) (by rw [← hc])
      refine ⟨fun t ht => ?_, h.out, by simp only; omega, ?_⟩
      · simp only [List.mem_append, List.mem_cons, List.not_mem_nil, or_false] at ht
        rcases ht with ht | ht
        · exact h.todo t (hdm t ht)
        · intro k hk
          have : k.2.2 = s.next ∨ ∃ x ∈ top, k.2.2 = x.2.2 := by
            rcases ht with rfl | rfl
            · exact sides_v (.inr hk)
            · exact sides_v (.inl hk)
          rcases this with e | ⟨x, hx, e⟩
          · rw [e]; exact .inr ⟨hlo, by omega⟩
          · rw [e]; exact h.todo _ htm x hx
      · simp only
        rw [fm_append]
        omega
theorem SpS.Inv.sh_step {a d : Int} (ha : 1 ≤ a ∧ a ≤ 1000) (hd : 1 ≤ a + d ∧ a + d ≤ 1000) {s : SpS} (h : s.Inv a) : (s.sh d).step = s.step.sh d := by
  have e1 : (s.sh d).todo.getLast? = s.todo.getLast?.map (List.map (shV d)) := by unfold SpS.sh; simp only; rw [List.getLast?_map]
  have e2 : (s.sh d).todo.dropLast = s.todo.dropLast.map (List.map (shV d)) := by unfold SpS.sh; simp only; rw [List.map_dropLast]
  unfold SpS.step
  rw [e1, e2]
  cases hl : s.todo.getLast? with
  | none => rfl
  | some top =>
    have hsp := getLast_split hl
    have htm : top ∈ s.todo := by rw [hsp]; simp
    have hg := h.todo top htm
    have hfm : fmL s.todo = fmL s.todo.dropLast + (top.length - 3) := by
      have := congrArg fmL hsp
      rw [fm_append] at this
      rw [this]; simp [fmL]
    have hh := h.hi
    have hlo := h.lo
    simp only [Option.map_some]
    rw [sh_first ha hd hg]
    cases hc : (firstC top).2.2.1 with
    | false =>
      simp only [Bool.false_eq_true, if_false]
      unfold SpS.sh
      simp
    | true =>
      simp only [if_true]
      have hn := sh_sides ha hd hg (p := (firstC top).1) (q := (firstC top).2.1) (num := s.next) ⟨hlo, by omega⟩
      rw [show (s.sh d).next = s.next + d from rfl, hn]
      unfold SpS.sh
      simp
      omega
theorem steps_sh {a d : Int} (ha : 1 ≤ a ∧ a ≤ 1000) (hd : 1 ≤ a + d ∧ a + d ≤ 1000) : ∀ (k : Nat) (s : SpS), s.Inv a → SpS.steps k (s.sh d) = (SpS.steps k s).sh d ∧ (SpS.steps k s).Inv a := by
  intro k
  induction k with
  | zero => intro s h; exact ⟨rfl, h⟩
  | succ k ih =>
    intro s h
    rw [SpS.steps, SpS.steps, h.sh_step ha hd]
    exact ih s.step h.step
/-- .. so by another number the parts are the same, but for the numbers -/
theorem SplitTo.shift {a d : Int} (ha : 1 ≤ a ∧ a ≤ 1000) (hd : 1 ≤ a + d ∧ a + d ≤ 1000) {ls : List Lk} (hv : ∀ k ∈ ls, k.2.2 = 0) (hl : ls.length ≤ 40) {out : List (List Lk)} {n : Int} (h : SplitTo ls a out n) :
    SplitTo ls (a + d) (out.map (List.map (shV d))) (n + d) ∧ ∀ t ∈ out, GoodV a t := by
  obtain ⟨k, hk⟩ := h
  have hinv : SpS.Inv a ⟨[ls], [], a⟩ := ⟨fun t ht => by
    simp at ht; subst ht
    exact fun k hk => .inl (hv k hk), fun t ht => by simp at ht, Int.le_refl _, by simp [fmL]; omega⟩
  obtain ⟨h1, h2⟩ := steps_sh ha hd k _ hinv
  have hid : ls.map (shV d) = ls := by
    conv => rhs; rw [← List.map_id ls]
    refine List.map_congr_left fun x hx => ?_
    unfold shV
    rw [if_pos (hv x hx)]
    have := hv x hx
    obtain ⟨x1, x2, x3⟩ := x
    simp at this ⊢
    exact this.symm
  rw [hk] at h1 h2
  unfold SpS.sh at h1
  simp only [List.map_cons, List.map_nil, hid] at h1
  exact ⟨⟨k, h1⟩, h2.out⟩
/-- what it is split into, is so but once -/
theorem steps_end (k : Nat) {s : SpS} (h : s.todo = []) : SpS.steps k s = s := by
  induction k with
  | zero => rfl
  | succ k ih =>
    rw [SpS.steps, show s.step = s by unfold SpS.step; rw [h]; rfl]
    exact ih
theorem steps_add (j k : Nat) (s : SpS) : SpS.steps (j + k) s = SpS.steps k (SpS.steps j s) := by
  induction j generalizing s with
  | zero => rw [Nat.zero_add]; rfl
  | succ j ih => rw [show j + 1 + k = (j + k) + 1 by omega, SpS.steps, ih]; rfl
theorem SplitTo.one {ls : List Lk} {next : Int} {o1 o2 : List (List Lk)} {n1 n2 : Int} (h1 : SplitTo ls next o1 n1) (h2 : SplitTo ls next o2 n2) : o1 = o2 ∧ n1 = n2 := by
  obtain ⟨j, hj⟩ := h1
  obtain ⟨k, hk⟩ := h2
  have e1 : SpS.steps (j + k) ⟨[ls], [], next⟩ = ⟨[], o1, n1⟩ := by rw [steps_add, hj]; exact steps_end k rfl
  have e2 : SpS.steps (j + k) ⟨[ls], [], next⟩ = ⟨[], o2, n2⟩ := by rw [Nat.add_comm, steps_add, hk]; exact steps_end j rfl
  rw [e1] at e2
  simp only [SpS.mk.injEq, true_and] at e2
  exact e2
end Go.Proofs.Ytagcbnpahgfgmaa
