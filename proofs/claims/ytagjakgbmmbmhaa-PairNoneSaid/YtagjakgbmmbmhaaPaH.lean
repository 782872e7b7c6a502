/- fretworklaw13.awake: the chapter's examples hold. -/
import Derived.Test.YtagjakgbmmbmhaaPaG
namespace Go.Proofs.Ytagjakgbmmbmhaa
open Go Go.RowKit

def ex4 : List Lk := [(0, 1, 0), (0, 3, 0), (1, 2, 0), (2, 3, 0)]
def ex3 : List Lk := [(0, 1, 0), (0, 2, 0), (1, 2, 0)]
def exK : List Lk := [(0, 1, 0), (0, 2, 0), (0, 3, 0), (1, 2, 0), (1, 3, 0), (2, 3, 0)]
theorem ex4_c : sortL (circL 4) = ex4 := by decide +kernel
theorem ex3_c : sortL (circL 3) = ex3 := by decide +kernel
theorem exK_c : sortL (ex4 ++ [(0, 2, 0), (1, 3, 0)]) = exK := by decide +kernel
theorem ex4_t : twoL ex4 = true := by decide +kernel
theorem ex3_t : twoL ex3 = true := by decide +kernel
theorem exK_t : twoL exK = true := by decide +kernel
theorem exs_t (n : Nat) (h : n = 2 ∨ n = 3 ∨ n = 4) : twoL (sideL n) = true := by rcases h with rfl | rfl | rfl <;> decide +kernel
theorem none_of {ls : List Lk} (h : twoL ls = true) (hf : ∀ k, k < (vertsL ls).length → ∀ i, i < k → pairAt ls i k = false) : noneL ls = true := by
  unfold noneL
  rw [first_none h fun i k hik hk => hf k hk i hik]; rfl
theorem ex4_f : firstL ex4 = (0, 2, true, 0) := by
  have := first_at ex4_t (i := 0) (k := 2) ⟨by decide, by decide +kernel, by decide +kernel, fun k' h1 h2 => by
    obtain rfl : k' = 1 := by omega
    decide +kernel, fun i' k' h => absurd h (by omega)⟩
  rw [this]
  decide +kernel
theorem exs4_f : firstL (sideL 4) = (0, 1, true, 0) := by
  have := first_at (exs_t 4 (.inr (.inr rfl))) (i := 0) (k := 1) ⟨by decide, by decide +kernel, by decide +kernel, fun k' h1 h2 => absurd h1 (by omega), fun i' k' h => absurd h (by omega)⟩
  rw [this]
  decide +kernel
theorem ex4_p : partsL2 ex4 0 1 = (false, 0) := by decide +kernel
theorem ex4_q : partsL2 ex4 1 3 = (true, 0) := by decide +kernel
theorem ex3_n : noneL ex3 = true := none_of ex3_t (by decide +kernel)
theorem exK_n : noneL exK = true := none_of exK_t (by decide +kernel)
theorem exs3_n : noneL (sideL 3) = true := none_of (exs_t 3 (.inr (.inl rfl))) (by decide +kernel)
theorem exs2_n : noneL (sideL 2) = true := none_of (exs_t 2 (.inl rfl)) (by decide +kernel)

theorem circle3_walk (w : World) : Calls Try.prog 51 #[.int .i64 3] w (RetLk w ex3) := by
  have := circle_walk 3 w (by omega) (by omega)
  rw [ex3_c] at this; exact this
theorem circle4_walk (w : World) : Calls Try.prog 51 #[.int .i64 4] w (RetLk w ex4) := by
  have := circle_walk 4 w (by omega) (by omega)
  rw [ex4_c] at this; exact this
theorem side2_walk (w : World) : Calls Try.prog 52 #[.int .i64 2] w (RetLk w (sideL 2)) := side_walk 2 w (by omega)
theorem side3_walk (w : World) : Calls Try.prog 52 #[.int .i64 3] w (RetLk w (sideL 3)) := side_walk 3 w (by omega)
theorem side4_walk (w : World) : Calls Try.prog 52 #[.int .i64 4] w (RetLk w (sideL 4)) := side_walk 4 w (by omega)

set_option maxRecDepth 100000 in
set_option maxHeartbeats 4000000 in
theorem awake13_walk (w : World) : Calls Try.prog 28 #[] w (RetT w true) := by
  go_enter Try.func28, Try.ntmps28
  go_wp2_with fail
  refine (circle4_walk _).mono ?_
  rintro e w1 ⟨v1, rfl, ho1, _, hb1⟩
  obtain ⟨a1, c1, rfl, hr1, _, _, _⟩ := ho1.read
  clear ho1
  go_wp2_with fail
  refine (first_walk a1 c1 ex4 _ hr1 (by decide)).mono ?_
  rw [ex4_f]
  rintro e w2 ⟨rfl, hb2⟩
  have hB2 := bl_trans hb1 hb2
  have hr2 := hr1.below hb2
  clear hb1 hb2 hr1
  go_wp2_with fail
  refine (pparts_walk a1 c1 ex4 0 1 _ hr2 (by decide) (wfZ_of (by omega)) (wfZ_of (by omega))).mono ?_
  rw [ex4_p]
  rintro e w3 ⟨rfl, hb3⟩
  have hB3 := bl_trans hB2 hb3
  have hr3 := hr2.below hb3
  clear hb3 hr2 hB2
  go_wp2_with fail
  refine (pparts_walk a1 c1 ex4 1 3 _ hr3 (by decide) (wfZ_of (by omega)) (wfZ_of (by omega))).mono ?_
  rw [ex4_q]
  rintro e w4 ⟨rfl, hb4⟩
  have hB4 := bl_trans hB3 hb4
  clear hb4 hr3 hB3
  go_wp2_with fail
  refine (circle4_walk _).mono ?_
  rintro e w5 ⟨v5, rfl, ho5, hg5, hb5⟩
  have hB5 := bl_trans hB4 hb5
  have hu5 : Own (w5.alloc (.cells #[.int .i64 0, .int .i64 2, .int .i64 0, .int .i64 1, .int .i64 3, .int .i64 0] 29)) v5 29 3 4 (lkCells ex4) := Own.alloc ho5 _
  have hn6 : ∀ (j : Nat) v, [Value.int .i64 0, Value.int .i64 2, Value.int .i64 0, Value.int .i64 1, Value.int .i64 3, Value.int .i64 0][j]? = some v → (w5.alloc (.cells #[.int .i64 0, .int .i64 2, .int .i64 0, .int .i64 1, .int .i64 3, .int .i64 0] 29)).cell? ((⟨w5.heap.size, 0, none⟩ : Addr).add j) = some v := by
    intro j v hj
    match j with
    | 0 => simp at hj; subst hj; simp [Addr.add]
    | 1 => simp at hj; subst hj; simp [Addr.add]
    | 2 => simp at hj; subst hj; simp [Addr.add]
    | 3 => simp at hj; subst hj; simp [Addr.add]
    | 4 => simp at hj; subst hj; simp [Addr.add]
    | 5 => simp at hj; subst hj; simp [Addr.add]
    | j + 6 => simp at hj
  have ho6 : ∀ u ∈ [Value.int .i64 0, Value.int .i64 2, Value.int .i64 0, Value.int .i64 1, Value.int .i64 3, Value.int .i64 0], u.oneCell' = true := by
    intro u hu; simp only [List.mem_cons, List.not_mem_nil, or_false] at hu; rcases hu with rfl | rfl | rfl | rfl | rfl | rfl <;> rfl
  have Hn6 := Lib.hid hn6; have Ho6 := Lib.hid ho6; have Hu5 := Lib.hid hu5
  clear hb5 hn6 ho6 hu5 ho5
  go_wp2_with (at_builtin; refine wpList_append_row _ rfl (.tmp 33) (.tmp 36) 22 rfl 29 (.agg #[.int .i64 0, .int .i64 0, .int .i64 0]) 3 24 Try.underlying22 link_info rfl v5 4 _ rfl Hu5.out ⟨w5.heap.size, 0, none⟩ 2 2 [.int .i64 0, .int .i64 2, .int .i64 0, .int .i64 1, .int .i64 3, .int .i64 0] rfl rfl Hn6.out Ho6.out (by omega) (by unfold maxLen; omega) (by omega) ?_)
  intro g6 c6 w6 hr6 hc6 hg6 hor6
  have hB6 : Below w.heap.size w w6 := (bl_trans hB5 (bl_alloc _ _)).grown hg6 (by have := hB5.size; simp; omega) (fun j hj => by have := hg5 j hj; have := hB4.size; omega)
  have hrd6 : RdL w6 (some ⟨g6, 0, none⟩) (ex4 ++ [(0, 2, 0), (1, 3, 0)]) := by
    have h1 : Row w6 g6 29 3 c6 (lkCells (ex4 ++ [((0, 2, 0) : Lk), (1, 3, 0)])) := by rw [lkCells_append]; exact hr6
    exact h1.at_
  clear hr6 hg6 hor6 hB5 hB4 Hn6 Ho6 Hu5
  go_wp2_with fail
  refine (sorted_walk (some ⟨g6, 0, none⟩) c6 (ex4 ++ [(0, 2, 0), (1, 3, 0)]) _ hrd6 (by decide)).mono ?_
  rw [exK_c]
  rintro e w7 ⟨v7, rfl, ho7, _, hb7⟩
  obtain ⟨a7, c7, rfl, hr7, _, _, _⟩ := ho7.read
  have hB7 := bl_trans hB6 hb7
  clear ho7 hb7 hB6 hrd6
  go_wp2_with fail
  refine (side4_walk _).mono ?_
  rintro e w8 ⟨v8, rfl, ho8, _, hb8⟩
  obtain ⟨a8, c8, rfl, hr8, _, _, _⟩ := ho8.read
  have hB8 := bl_trans hB7 hb8
  have hr7' := hr7.below hb8
  clear ho8 hb8 hB7 hr7
  go_wp2_with fail
  refine (first_walk a8 c8 (sideL 4) _ hr8 (by decide)).mono ?_
  rw [exs4_f]
  rintro e w9 ⟨rfl, hb9⟩
  have hB9 := bl_trans hB8 hb9
  have hr9 := hr7'.below hb9
  clear hb9 hB8 hr7' hr8
  -- LS comes from the call CW; no pair parts it
  go_wp2_with fail
  refine (circle3_walk _).mono ?_
  rintro e wp1 ⟨v8, rfl, ho8, _, hb8⟩
  obtain ⟨a8, c8, rfl, hr8, _, _, _⟩ := ho8.read
  have hB8 := bl_trans hB9 hb8
  clear ho8
  go_wp2_with fail
  refine (none_walk a8 c8 ex3 _ hr8 (by decide)).mono ?_
  rw [ex3_n]
  rintro e wq1 ⟨rfl, hb9⟩
  have hBa := bl_trans hB8 hb9
  have hbx1 := bl_trans hb8 hb9
  clear hb9 hB8 hr8 hb8
  have hrK := hr9.below hbx1
  clear hr9 hB9 hbx1
  go_wp2_with fail
  refine (none_walk a7 c7 exK _ hrK (by decide)).mono ?_
  rw [exK_n]
  rintro e w10 ⟨rfl, hb10⟩
  have hBb := bl_trans hBa hb10
  clear hBa hb10 hrK
  -- LS comes from the call CW; no pair parts it
  go_wp2_with fail
  refine (side3_walk _).mono ?_
  rintro e wp2 ⟨v8, rfl, ho8, _, hb8⟩
  obtain ⟨a8, c8, rfl, hr8, _, _, _⟩ := ho8.read
  have hB8 := bl_trans hBb hb8
  clear ho8
  go_wp2_with fail
  refine (none_walk a8 c8 (sideL 3) _ hr8 (by decide)).mono ?_
  rw [exs3_n]
  rintro e wq2 ⟨rfl, hb9⟩
  have hBc := bl_trans hB8 hb9
  have hbx2 := bl_trans hb8 hb9
  clear hb9 hB8 hr8 hb8
  clear hBb hbx2
  -- LS comes from the call CW; no pair parts it
  go_wp2_with fail
  refine (side2_walk _).mono ?_
  rintro e wp3 ⟨v8, rfl, ho8, _, hb8⟩
  obtain ⟨a8, c8, rfl, hr8, _, _, _⟩ := ho8.read
  have hB8 := bl_trans hBc hb8
  clear ho8
  go_wp2_with fail
  refine (none_walk a8 c8 (sideL 2) _ hr8 (by decide)).mono ?_
  rw [exs2_n]
  rintro e wq3 ⟨rfl, hb9⟩
  have hBd := bl_trans hB8 hb9
  have hbx3 := bl_trans hb8 hb9
  clear hb9 hB8 hr8 hb8
  clear hBc hbx3
  go_wp2_with fail
  go_ret
  exact ⟨rfl, hBd⟩
end Go.Proofs.Ytagjakgbmmbmhaa
