/- A row and a star of 200 vertices: how they are walked. -/
import Derived.Test.YtddndhhhmlcgjaaPartsQ
import Derived.Test.YtddndhhhmlcgjaaPathQ
import Derived.KernelRfl
namespace Go.Proofs.Ytddndhhhmlcgjaa

def rowE : List (Int × Int) := (List.range 199).map fun (a : Nat) => ((a : Int), (a : Int) + 1)
def starE : List (Int × Int) := (List.range 199).map fun (a : Nat) => ((0 : Int), (a : Int) + 1)
theorem rowE_right : rightB 200 rowE = true := by kernel_rfl
theorem starE_right : rightB 200 starE = true := by kernel_rfl
theorem rowE_len : rowE.length = 199 := by simp [rowE]
theorem starE_len : starE.length = 199 := by simp [starE]

theorem row_adj (u v : Nat) : v ∈ adj rowE u ↔ u < 200 ∧ v < 200 ∧ (v = u + 1 ∨ u = v + 1) := by
  rw [mem_adj rowE_right]
  constructor
  · rintro ⟨j, hj, he⟩
    have hj' := hj
    rw [rowE_len] at hj'
    simp only [rowE, List.getElem_map, List.getElem_range, Prod.mk.injEq] at he
    omega
  · rintro ⟨h1, h2, h3 | h3⟩
    · refine ⟨u, by rw [rowE_len]; omega, .inl ?_⟩
      simp only [rowE, List.getElem_map, List.getElem_range, Prod.mk.injEq]
      exact ⟨trivial, by omega⟩
    · refine ⟨v, by rw [rowE_len]; omega, .inr ?_⟩
      simp only [rowE, List.getElem_map, List.getElem_range, Prod.mk.injEq]
      exact ⟨trivial, by omega⟩
theorem star_adj (u v : Nat) : v ∈ adj starE u ↔ u < 200 ∧ v < 200 ∧ ((u = 0 ∧ 0 < v) ∨ (v = 0 ∧ 0 < u)) := by
  rw [mem_adj starE_right]
  constructor
  · rintro ⟨j, hj, he⟩
    have hj' := hj
    rw [starE_len] at hj'
    simp only [starE, List.getElem_map, List.getElem_range, Prod.mk.injEq] at he
    omega
  · rintro ⟨h1, h2, h3 | h3⟩
    · refine ⟨v - 1, by rw [starE_len]; omega, .inl ?_⟩
      simp only [starE, List.getElem_map, List.getElem_range, Prod.mk.injEq]
      exact ⟨by omega, by omega⟩
    · refine ⟨u - 1, by rw [starE_len]; omega, .inr ?_⟩
      simp only [starE, List.getElem_map, List.getElem_range, Prod.mk.injEq]
      exact ⟨by omega, by omega⟩

section
variable {n : Nat} {es : List (Int × Int)}
theorem fresh_least (h : rightB (n : Int) es = true) {order : List Nat} {v x : Nat} (hv : v < n) (hf : fresh (besideL n es) order v = some x) : x ∈ adj es v ∧ x ∉ order ∧ ∀ y ∈ adj es v, y ∉ order → x ≤ y := by
  obtain ⟨h1, h2⟩ := fresh_some hf
  rw [beside_getD hv] at h1
  refine ⟨h1, h2, fun y hy hyo => ?_⟩
  unfold fresh at hf
  rw [beside_getD hv, List.find?_eq_some_iff_getElem] at hf
  obtain ⟨_, j, hj, hjx, hbefore⟩ := hf
  obtain ⟨k, hk, rfl⟩ := List.getElem_of_mem hy
  rcases Nat.lt_or_ge k j with hkj | hkj
  · have := hbefore k hkj
    simp at this
    exact absurd this hyo
  · rcases Nat.eq_or_lt_of_le hkj with h7 | h7
    · subst h7; omega
    · have := List.pairwise_iff_getElem.1 (adj_rise h v) j k hj hk h7
      omega
theorem fresh_nobody (h : rightB (n : Int) es = true) {order : List Nat} {v : Nat} (hv : v < n) (hf : fresh (besideL n es) order v = none) : ∀ y ∈ adj es v, y ∈ order := by
  intro y hy
  unfold fresh at hf
  rw [beside_getD hv, List.find?_eq_none] at hf
  have := hf y hy
  simpa using this
end

/-- the row from v on -/
def rowF (v i : Nat) : Nat := if i ≤ v then v - i else i
def rowL (v k : Nat) : List Nat := (List.range k).map (rowF v)
theorem rowL_len (v k : Nat) : (rowL v k).length = k := by simp [rowL]
theorem rowL_get {v k i : Nat} (h : i < k) : (rowL v k)[i]? = some (rowF v i) := by simp [rowL, h]
theorem rowL_succ (v k : Nat) : rowL v (k + 1) = rowL v k ++ [rowF v k] := by simp [rowL, List.range_succ]
theorem rowL_mem {v k x : Nat} : x ∈ rowL v k ↔ ∃ i, i < k ∧ rowF v i = x := by simp [rowL]

/-- where the walk of the row stands -/
def RowSt (v k : Nat) (opn : List Nat) : Prop :=
  1 ≤ k ∧ k ≤ 200 ∧ (k ≤ v → opn = List.range' (v + 1 - k) k) ∧ (k = v + 1 → opn = [] ∨ ∃ i, i ≤ v ∧ opn = List.range' i (v + 1 - i)) ∧ (v + 1 < k → k < 200 → opn = [] ∨ ∃ o, opn = (k - 1) :: o)

theorem row_dfs {v : Nat} (hv : v < 200) : ∀ (f k : Nat) (opn : List Nat) (up : List Int), (∀ x ∈ opn, x < 200) → RowSt v k opn → ∃ k', 1 ≤ k' ∧ k' ≤ 200 ∧ (dfs (besideL 200 rowE) f (rowL v k) opn up).1 = rowL v k' := by
  intro f
  induction f with
  | zero => intro k opn up _ h; exact ⟨k, h.1, h.2.1, rfl⟩
  | succ f ih =>
    intro k opn up hlt h
    cases opn with
    | nil => exact ⟨k, h.1, h.2.1, rfl⟩
    | cons y o =>
      obtain ⟨h1, h2, h3, h4, h5⟩ := h
      have hy := hlt y (by simp)
      have ho : ∀ x ∈ o, x < 200 := fun x hx => hlt x (by simp [hx])
      rw [dfs]
      cases hf : fresh (besideL 200 rowE) (rowL v k) y with
      | none =>
        have hno := fresh_nobody rowE_right hy hf
        simp only
        refine ih k o up ho ⟨h1, h2, ?_, ?_, ?_⟩
        · intro hk
          exfalso
          have e := h3 hk
          have e1 : y = v + 1 - k := by
            obtain ⟨k', rfl⟩ : ∃ k', k = k' + 1 := ⟨k - 1, by omega⟩
            rw [List.range'_succ] at e
            exact (List.cons.inj e).1
          have := hno (v - k) ((row_adj _ _).2 ⟨by omega, by omega, .inr (by omega)⟩)
          obtain ⟨i, hi, he⟩ := rowL_mem.1 this
          unfold rowF at he
          rw [if_pos (by omega)] at he
          omega
        · intro hk
          rcases h4 hk with e | ⟨i, hi, e⟩
          · cases e
          · obtain ⟨d, hd⟩ : ∃ d, v + 1 - i = d + 1 := ⟨v - i, by omega⟩
            rw [hd, List.range'_succ] at e
            obtain ⟨rfl, rfl⟩ := List.cons.inj e
            by_cases hiv : y = v
            · left
              have : d = 0 := by omega
              subst this; rfl
            · right
              exact ⟨y + 1, by omega, by congr 1; omega⟩
        · intro hk hk2
          exfalso
          rcases h5 hk hk2 with e | ⟨o', e⟩
          · cases e
          · obtain ⟨rfl, _⟩ := List.cons.inj e
            have := hno k ((row_adj _ _).2 ⟨by omega, by omega, .inl (by omega)⟩)
            obtain ⟨i, hi, he⟩ := rowL_mem.1 this
            unfold rowF at he
            split at he <;> omega
      | some x =>
        obtain ⟨a1, a2, a3⟩ := fresh_least rowE_right hy hf
        simp only
        rw [row_adj] at a1
        have hx : x = rowF v k ∧ k < 200 := by
          by_cases hk : k ≤ v
          · have e := h3 hk
            have e1 : y = v + 1 - k := by
              obtain ⟨k', rfl⟩ : ∃ k', k = k' + 1 := ⟨k - 1, by omega⟩
              rw [List.range'_succ] at e
              exact (List.cons.inj e).1
            have hnm : v - k ∉ rowL v k := by
              intro hm
              obtain ⟨i, hi, he⟩ := rowL_mem.1 hm
              unfold rowF at he
              rw [if_pos (by omega)] at he
              omega
            have := a3 (v - k) ((row_adj _ _).2 ⟨by omega, by omega, .inr (by omega)⟩) hnm
            unfold rowF
            rw [if_pos hk]
            omega
          · have hall : ∀ z, z < k → z ∈ rowL v k := by
              intro z hz
              rw [rowL_mem]
              by_cases hzv : z ≤ v
              · exact ⟨v - z, by omega, by unfold rowF; rw [if_pos (by omega)]; omega⟩
              · exact ⟨z, hz, by unfold rowF; rw [if_neg (by omega)]⟩
            have hxk : k ≤ x := by
              rcases Nat.lt_or_ge x k with h6 | h6
              · exact absurd (hall x h6) a2
              · exact h6
            have hyk : y < k := by
              by_cases hk1 : k = v + 1
              · rcases h4 hk1 with e | ⟨i, hi, e⟩
                · cases e
                · have hm : y ∈ List.range' i (v + 1 - i) := by rw [← e]; simp
                  rw [List.mem_range'_1] at hm
                  omega
              · by_cases hk2 : k < 200
                · rcases h5 (by omega) hk2 with e | ⟨o', e⟩
                  · cases e
                  · obtain ⟨rfl, _⟩ := List.cons.inj e; omega
                · omega
            unfold rowF
            rw [if_neg hk]
            omega
        obtain ⟨rfl, hk200⟩ := hx
        rw [← rowL_succ]
        refine ih (k + 1) _ _ (fun z hz => ?_) ⟨by omega, by omega, ?_, ?_, ?_⟩
        · rcases List.mem_cons.1 hz with rfl | hz
          · exact a1.2.1
          · exact hlt z hz
        · intro hk
          rw [h3 (by omega)]
          unfold rowF
          rw [if_pos (by omega), show v + 1 - (k + 1) = v - k by omega, List.range'_succ]
          congr 2
          omega
        · intro hk
          right
          refine ⟨0, by omega, ?_⟩
          rw [h3 (by omega)]
          unfold rowF
          rw [if_pos (by omega), show v - k = 0 by omega, show v + 1 - 0 = k + 1 by omega, List.range'_succ]
          congr 2
          omega
        · intro hk _
          right
          exact ⟨_, by unfold rowF; rw [if_neg (by omega)]; rfl⟩

theorem row_walk {v : Nat} (hv : v < 200) : (walkL (besideL 200 rowE) v).1 = rowL v 200 := by
  obtain ⟨f', hi⟩ := walkL_inv (besideL_length 200 rowE) (beside_lt rowE_right) hv
  have e0 : [v] = rowL v 1 := by simp [rowL, rowF]
  have hd : ∃ k', 1 ≤ k' ∧ k' ≤ 200 ∧ (walkL (besideL 200 rowE) v).1 = rowL v k' := by
    unfold walkL
    rw [e0]
    refine row_dfs hv _ 1 (rowL v 1) _ (by rw [← e0]; simp; omega) ⟨by omega, by omega, fun h => ?_, fun h => ?_, fun h => by omega⟩
    · rw [← e0]; rw [show v + 1 - 1 = v by omega]; rfl
    · right; exact ⟨v, by omega, by rw [← e0, show v + 1 - v = 1 by omega]; rfl⟩
  obtain ⟨k', h1, h2, he⟩ := hd
  rw [he]
  rcases Nat.eq_or_lt_of_le h2 with h3 | h3
  · rw [h3]
  · exfalso
    have hdone : ∀ x, x ∈ rowL v k' → ∀ y, y ∈ adj rowE x → y ∈ rowL v k' := by
      intro x hx y hy
      rw [← he] at hx ⊢
      refine hi.done x hx (by simp) y ?_
      rw [beside_getD (hi.lt x hx)]; exact hy
    by_cases hk : k' ≤ v
    · have := hdone (v + 1 - k') (rowL_mem.2 ⟨k' - 1, by omega, by unfold rowF; rw [if_pos (by omega)]; omega⟩) (v - k') ((row_adj _ _).2 ⟨by omega, by omega, .inr (by omega)⟩)
      obtain ⟨i, hi, he⟩ := rowL_mem.1 this
      unfold rowF at he
      rw [if_pos (by omega)] at he
      omega
    · have hm : k' - 1 ∈ rowL v k' := by
        rw [rowL_mem]
        by_cases hkv : k' - 1 ≤ v
        · exact ⟨0, by omega, by unfold rowF; rw [if_pos (by omega)]; omega⟩
        · exact ⟨k' - 1, by omega, by unfold rowF; rw [if_neg (by omega)]⟩
      have := hdone (k' - 1) hm k' ((row_adj _ _).2 ⟨by omega, by omega, .inl (by omega)⟩)
      obtain ⟨i, hi, he⟩ := rowL_mem.1 this
      unfold rowF at he
      split at he <;> omega

theorem star_dfs : ∀ (f k : Nat) (opn : List Nat) (up : List Int), 1 ≤ k → k ≤ 200 → (opn = [] ∨ opn = [0] ∨ (opn = [k - 1, 0] ∧ 2 ≤ k)) → ∃ k', 1 ≤ k' ∧ k' ≤ 200 ∧ (dfs (besideL 200 starE) f (List.range k) opn up).1 = List.range k' := by
  intro f
  induction f with
  | zero => intro k opn up h1 h2 _; exact ⟨k, h1, h2, rfl⟩
  | succ f ih =>
    intro k opn up h1 h2 h
    cases opn with
    | nil => exact ⟨k, h1, h2, rfl⟩
    | cons y o =>
      have hy : y = 0 ∧ o = [] ∨ y = k - 1 ∧ o = [0] ∧ 2 ≤ k := by
        rcases h with h | h | h
        · cases h
        · left; obtain ⟨rfl, rfl⟩ := List.cons.inj h; exact ⟨rfl, rfl⟩
        · right; obtain ⟨rfl, rfl⟩ := List.cons.inj h.1; exact ⟨rfl, rfl, h.2⟩
      have hy2 : y < 200 := by omega
      rw [dfs]
      cases hf : fresh (besideL 200 starE) (List.range k) y with
      | none =>
        simp only
        refine ih k o up h1 h2 ?_
        rcases hy with ⟨_, rfl⟩ | ⟨_, rfl, _⟩ <;> simp
      | some x =>
        obtain ⟨a1, a2, a3⟩ := fresh_least starE_right hy2 hf
        simp only
        rw [star_adj] at a1
        have hxk : k ≤ x := by simpa using a2
        have hy0 : y = 0 := by omega
        have hk : k < 200 := by omega
        have := a3 k ((star_adj _ _).2 ⟨hy2, hk, .inl ⟨hy0, by omega⟩⟩) (by simp)
        obtain rfl : x = k := by omega
        rw [← List.range_succ]
        refine ih (x + 1) _ _ (by omega) (by omega) ?_
        right; right
        rcases hy with ⟨_, rfl⟩ | ⟨hh, rfl, h3⟩
        · rw [hy0]; exact ⟨by simp, by omega⟩
        · omega

theorem star_walk : (walkL (besideL 200 starE) 0).1 = List.range 200 := by
  obtain ⟨f', hi⟩ := walkL_inv (besideL_length 200 starE) (beside_lt starE_right) (show 0 < 200 by omega)
  have hd : ∃ k', 1 ≤ k' ∧ k' ≤ 200 ∧ (walkL (besideL 200 starE) 0).1 = List.range k' := by
    unfold walkL
    exact star_dfs _ 1 [0] _ (by omega) (by omega) (.inr (.inl rfl))
  obtain ⟨k', h1, h2, he⟩ := hd
  rw [he]
  rcases Nat.eq_or_lt_of_le h2 with h3 | h3
  · rw [h3]
  · exfalso
    have h0 : 0 ∈ (walkL (besideL 200 starE) 0).1 := by rw [he]; simp; omega
    have := hi.done 0 h0 (by simp) k' (by rw [beside_getD (by omega)]; exact (star_adj _ _).2 ⟨by omega, h3, .inl ⟨rfl, by omega⟩⟩)
    rw [he] at this
    simp at this
theorem star_up_any {B : List (List Nat)} (hB : ∀ u, u < 200 → B.getD u [] = adj starE u) {f' : Nat} {order : List Nat} {up : List Int} (hi : DInv B 200 0 f' order [] up) (ho : order = List.range 200) {i : Nat} (h0 : 0 < i) (h1 : i < 200) : up[i]? = some 0 := by
  obtain ⟨u, h2, h3, h4, _⟩ := hi.from_ i i h0 (by rw [ho]; simp [h1])
  have hu : u < 200 := hi.lt u (List.mem_of_mem_take h3)
  rw [hB u hu, star_adj] at h4
  have hu0 : u = 0 := by omega
  rw [h2, hu0]; rfl
theorem star_up {i : Nat} (h0 : 0 < i) (h1 : i < 200) : (walkL (besideL 200 starE) 0).2[i]? = some 0 := by
  obtain ⟨f', hi⟩ := walkL_inv (besideL_length 200 starE) (beside_lt starE_right) (show 0 < 200 by omega)
  exact star_up_any (fun u hu => beside_getD hu) hi star_walk h0 h1

set_option maxRecDepth 10000 in
/-- how far the row's vertices are from its end -/
theorem row_away {s : Nat} (hs : s = 0 ∨ s = 199) : awayL (besideL 200 rowE) s = (List.range 200).map fun (i : Nat) => if s = 0 then (i : Int) else 199 - (i : Int) := by
  have hs2 : s < 200 := by omega
  refine (away_dist rowE_right hs2).unique ?_
  have hget : ∀ (v : Nat) (x : Int), ((List.range 200).map fun (i : Nat) => if s = 0 then (i : Int) else 199 - (i : Int))[v]? = some x → v < 200 ∧ x = if s = 0 then (v : Int) else 199 - (v : Int) := by
    intro v x hx
    obtain ⟨hl, he⟩ := List.getElem?_eq_some_iff.1 hx
    simp at hl he
    exact ⟨hl, he.symm⟩
  have hput : ∀ (v : Nat), v < 200 → ((List.range 200).map fun (i : Nat) => if s = 0 then (i : Int) else 199 - (i : Int))[v]? = some (if s = 0 then (v : Int) else 199 - (v : Int)) := by
    intro v hv; simp [hv]
  refine ⟨by simp, ?_, ?_, ?_, ?_, ?_⟩
  · intro v x hx
    obtain ⟨h1, rfl⟩ := hget v x hx
    right; split <;> omega
  · rw [hput s hs2]; split <;> simp <;> omega
  · intro v hx
    obtain ⟨h1, h2⟩ := hget v 0 hx
    split at h2 <;> omega
  · intro v x hx h0
    obtain ⟨h1, rfl⟩ := hget v x hx
    by_cases h : s = 0
    · rw [if_pos h] at h0 ⊢
      refine ⟨v - 1, ?_, ?_⟩
      · rw [beside_getD (show v - 1 < 200 by omega), row_adj]; omega
      · rw [hput _ (show v - 1 < 200 by omega), if_pos h]; congr 1; omega
    · rw [if_neg h] at h0 ⊢
      refine ⟨v + 1, ?_, ?_⟩
      · rw [beside_getD (show v + 1 < 200 by omega), row_adj]; omega
      · rw [hput _ (show v + 1 < 200 by omega), if_neg h]; congr 1; omega
  · intro u x hx h0 w hw
    obtain ⟨h1, rfl⟩ := hget u x hx
    rw [beside_getD h1, row_adj] at hw
    refine ⟨_, hput w hw.2.1, ?_, ?_⟩
    · by_cases h : s = 0 <;> simp only [h, if_true, if_false] <;> omega
    · by_cases h : s = 0 <;> simp only [h, if_true, if_false] <;> omega

set_option maxRecDepth 10000 in
theorem row_parts : (partsL (besideL 200 rowE)).length = 1 := by
  rw [partsL_eq rowE_right, List.length_map]
  have h0 : ∀ v, v < 200 → v ∈ reachL 200 rowE 0 := by
    intro v hv
    rw [reach_dist rowE_right (show 0 < 200 by omega), row_away (.inl rfl)]
    exact ⟨v, by simp [hv]⟩
  unfold headsL
  have e : List.range 200 = 0 :: (List.range' 1 199) := by rw [List.range_eq_range', List.range'_succ]
  rw [e, List.filter_cons, if_pos (by rw [isHead_iff]; intro u hu; omega)]
  have e2 : (List.range' 1 199).filter (isHead 200 rowE) = [] := by
    rw [List.filter_eq_nil_iff]
    intro v hv hh
    rw [List.mem_range'_1] at hv
    exact isHead_iff.1 hh 0 (by omega) (h0 v (by omega))
  rw [e2]; rfl

theorem row_path_any {B : List (List Nat)} {far : List Int} {p : List Nat} (hB : ∀ u, u < 200 → B.getD u [] = adj rowE u) (hf : ∀ u, u < 200 → far.getD u 0 = 199 - (u : Int)) (h1 : GoodW B far p) (h2 : p.length = 200) (h3 : p[0]? = some 0) : p = List.range 200 := by
  have key : ∀ i, i < 200 → p[i]? = some i := by
    intro i
    induction i with
    | zero => intro _; exact h3
    | succ i ih =>
      intro hi
      have hi2 : i < 200 := by omega
      have hu := ih hi2
      obtain ⟨v, hv⟩ : ∃ v, p[i+1]? = some v := ⟨_, List.getElem?_eq_getElem (by omega)⟩
      obtain ⟨n1, n2⟩ := nxt_some (h1 i i v hu hv)
      rw [hB i hi2, row_adj] at n1
      rw [hf i hi2, hf v n1.2.1] at n2
      rw [hv, show v = i + 1 by omega]
  apply List.ext_getElem?
  intro i
  by_cases hi : i < 200
  · rw [key i hi]; simp [hi]
  · rw [List.getElem?_eq_none (by omega), List.getElem?_eq_none (by simp; omega)]
theorem row_far (u : Nat) (hu : u < 200) : (awayL (besideL 200 rowE) 199).getD u 0 = 199 - (u : Int) := by
  rw [row_away (.inr rfl)]; simp [List.getD, hu]
theorem row_path : (pathL (besideL 200 rowE) 0 199) = List.range 200 := by
  have hd : (awayL (besideL 200 rowE) 199)[0]? = some ((199 : Nat) : Int) := by rw [row_away (.inr rfl)]; simp
  obtain ⟨h1, h2, h3, h4⟩ := path_good rowE_right (st := 0) (to_ := 199) (show 199 < 200 by omega) hd
  exact row_path_any (fun u hu => beside_getD hu) row_far h1 h2 h3
end Go.Proofs.Ytddndhhhmlcgjaa
