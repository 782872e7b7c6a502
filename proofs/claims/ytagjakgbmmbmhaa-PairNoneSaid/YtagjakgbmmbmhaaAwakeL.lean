/- fretworklaw12.awake: the chapter's examples. -/
import Derived.Test.YtagjakgbmmbmhaaSameL
import Derived.Test.YtagjakgbmmbmhaaTwo
namespace Go.Proofs.Ytagjakgbmmbmhaa
open Go Go.RowKit

/-- true is handed back, and nothing that there was has turned -/
def RetT (w : World) (b : Bool) (e : Ending) (w' : World) : Prop := e = .returned (.bool b) ∧ Below w.heap.size w w'
def exX : List Lk := [(0, 1, 0), (0, 2, 0), (1, 2, 0), (2, 3, 0)]
def exY : List Lk := [(0, 1, 0), (0, 1, 5)]
theorem exJ : joinedL exX = true := by decide +kernel
theorem exT : twoL exX = false := by decide +kernel
theorem exG : groupsL exX [2] = [exX.take 3, exX.drop 3] := by decide +kernel
theorem exT3 : twoL (exX.take 3) = true := by decide +kernel
theorem exT1 : twoL (exX.take 1) = true := by decide +kernel
theorem exTY : twoL exY = true := by decide +kernel
theorem exGY : (groupsL exY [0, 1]).length = 2 := by decide +kernel

theorem cellsAt_lit (w : World) (vs : List Value) (e : TypeId) (n s : Nat) (h : vs.length = n * s) (hm : n ≤ maxLen) : CellsAt (w.alloc (.cells vs.toArray e)) (some ⟨w.heap.size, 0, none⟩) vs := by
  have := (row_new w vs.toArray e s n (by simpa using h) hm).at_
  simpa using this
theorem rdL_take {w : World} {a : Option Addr} {ls : List Lk} (h : RdL w a ls) (k : Nat) : RdL w a (ls.take k) := by
  intro i u hu
  have e : lkCells ls = lkCells (ls.take k) ++ lkCells (ls.drop k) := by rw [← lkCells_append, List.take_append_drop]
  have hi := (List.getElem?_eq_some_iff.1 hu).1
  exact h i u (by rw [e, List.getElem?_append_left hi]; exact hu)
theorem rdL_drop {w : World} {b o : Nat} {ls : List Lk} (h : RdL w (some ⟨b, o, none⟩) ls) (k : Nat) (hk : k ≤ ls.length) : RdL w (some ⟨b, o + k * 3, none⟩) (ls.drop k) := by
  intro i u hu
  have e : lkCells ls = lkCells (ls.take k) ++ lkCells (ls.drop k) := by rw [← lkCells_append, List.take_append_drop]
  have hl : (lkCells (ls.take k)).length = k * 3 := by rw [lkCells_length, List.length_take]; omega
  obtain ⟨b', o', ha, hc⟩ := h (k * 3 + i) u (by rw [e, List.getElem?_append_right (by omega), hl, show k * 3 + i - k * 3 = i by omega]; exact hu)
  cases ha
  exact ⟨b, o + k * 3, rfl, by rw [← Nat.add_assoc] at hc; exact hc⟩
theorem l_walk2 (x y z : Int) (w : World) :
    Calls Try.prog 38 #[.int .i64 x, .int .i64 y, .int .i64 z] w fun e w' => e = .returned (.agg #[.int .i64 x, .int .i64 y, .int .i64 z]) ∧ Below w.heap.size w w' := l_walk x y z w

set_option maxRecDepth 100000 in
set_option maxHeartbeats 8000000 in
theorem awake_walk (w : World) : Calls Try.prog 12 #[] w (RetT w true) := by
  go_enter Try.func12, Try.ntmps12
  go_wp2_with fail
  refine (l_walk2 _ _ _ _).mono ?_; rintro e w1 ⟨rfl, hb1⟩
  go_wp2_with fail
  refine (l_walk2 _ _ _ _).mono ?_; rintro e w2 ⟨rfl, hb2⟩
  go_wp2_with fail
  refine (l_walk2 _ _ _ _).mono ?_; rintro e w3 ⟨rfl, hb3⟩
  go_wp2_with fail
  refine (l_walk2 _ _ _ _).mono ?_; rintro e w4 ⟨rfl, hb4⟩
  have hB4 := bl_trans (bl_trans (bl_trans hb1 hb2) hb3) hb4
  clear hb1 hb2 hb3 hb4
  have hx5 : RdL (w4.alloc (.cells #[.int .i64 0, .int .i64 1, .int .i64 0, .int .i64 0, .int .i64 2, .int .i64 0, .int .i64 1, .int .i64 2, .int .i64 0, .int .i64 2, .int .i64 3, .int .i64 0] 29)) (some ⟨w4.heap.size, 0, none⟩) exX :=
    cellsAt_lit w4 (lkCells exX) 29 4 3 rfl (by unfold maxLen; omega)
  have hB5 := bl_trans hB4 (bl_alloc w4 (.cells #[.int .i64 0, .int .i64 1, .int .i64 0, .int .i64 0, .int .i64 2, .int .i64 0, .int .i64 1, .int .i64 2, .int .i64 0, .int .i64 2, .int .i64 3, .int .i64 0] 29))
  go_upto_region 2 with (fail)
  generalize w4.alloc (.cells #[.int .i64 0, .int .i64 1, .int .i64 0, .int .i64 0, .int .i64 2, .int .i64 0, .int .i64 1, .int .i64 2, .int .i64 0, .int .i64 2, .int .i64 3, .int .i64 0] 29) = w5 at hx5 hB5 ⊢
  clear hB4
  have hz5 : RdI (w5.alloc (.cells #[.int .i64 2] 3)) (some ⟨w5.heap.size, 0, none⟩) [2] := cellsAt_lit w5 [.int .i64 2] 3 1 1 rfl (by unfold maxLen; omega)
  have hg := groups_walk (some ⟨w4.heap.size, 0, none⟩) 4 exX (some ⟨w5.heap.size, 0, none⟩) 1 [2] (w5.alloc (.cells #[.int .i64 2] 3)) (hx5.below (bl_alloc _ _)) (by decide) hz5 (by simp) (fun z hz => by simp at hz; subst hz; exact wfZ_of (by omega))
  rw [exG] at hg
  have hx6 := hx5.below (bl_alloc w5 (.cells #[.int .i64 2] 3))
  have hB6 := bl_trans hB5 (bl_alloc w5 (.cells #[.int .i64 2] 3))
  clear hx5 hB5 hz5
  go_wp2_with fail
  refine hg.mono ?_
  rintro e w7 ⟨vo, vals, rfl, hL, hb7⟩
  obtain ⟨ag, cg, rfl, hrd, _⟩ := hL.read
  have hx7 := hx6.below hb7
  have hB7 := bl_trans hB6 hb7
  clear hg hx6 hB6 hb7 hL
  go_wp2_with fail
  refine (l_walk2 _ _ _ _).mono ?_; rintro e w8 ⟨rfl, hb8⟩
  go_wp2_with fail
  refine (l_walk2 _ _ _ _).mono ?_; rintro e w9 ⟨rfl, hb9⟩
  have hb79 := bl_trans hb8 hb9
  have hy : RdL (w9.alloc (.cells #[.int .i64 0, .int .i64 1, .int .i64 0, .int .i64 0, .int .i64 1, .int .i64 5] 29)) (some ⟨w9.heap.size, 0, none⟩) exY :=
    cellsAt_lit w9 (lkCells exY) 29 2 3 rfl (by unfold maxLen; omega)
  have hb7a := bl_trans hb79 (bl_alloc w9 (.cells #[.int .i64 0, .int .i64 1, .int .i64 0, .int .i64 0, .int .i64 1, .int .i64 5] 29))
  go_upto_region 4 with (fail)
  generalize w9.alloc (.cells #[.int .i64 0, .int .i64 1, .int .i64 0, .int .i64 0, .int .i64 1, .int .i64 5] 29) = wa at hy hb7a ⊢
  have hxa := hx7.below hb7a
  have hBa := bl_trans hB7 hb7a
  have hra := hrd.below hb7a
  clear hb8 hb9 hb79 hx7 hB7 hrd hb7a
  obtain ⟨b0, o0, a0, c0, hag, p0, p1, p2, p3⟩ := hra 0 _ rfl
  obtain ⟨b1, o1, a1, c1, hag1, q0, q1, q2, q3⟩ := hra 1 _ rfl
  rw [hag] at hag1
  simp only [Option.some.injEq, Addr.mk.injEq, and_true] at hag1
  obtain ⟨rfl, rfl⟩ := hag1
  subst hag
  simp only [Nat.add_zero] at p0
  have cJ : ∀ wc, Below wa.heap.size wa wc → Calls Try.prog 13 #[.slice (some ⟨w4.heap.size, 0, none⟩) 4 4] wc fun e w' => e = .returned (.bool true) ∧ Below wc.heap.size wc w' := fun wc hb => by
    have := joined_walk (some ⟨w4.heap.size, 0, none⟩) 4 exX wc (hxa.below hb) (by decide)
    rw [exJ] at this; exact this
  have cT4 : ∀ wc, Below wa.heap.size wa wc → Calls Try.prog 15 #[.slice (some ⟨w4.heap.size, 0, none⟩) 4 4] wc fun e w' => e = .returned (.bool false) ∧ Below wc.heap.size wc w' := fun wc hb => by
    have := two_walk (some ⟨w4.heap.size, 0, none⟩) 4 exX wc (hxa.below hb) (by decide)
    rw [exT] at this; exact this
  have cT3 : ∀ wc, Below wa.heap.size wa wc → Calls Try.prog 15 #[.slice (some ⟨w4.heap.size, 0, none⟩) 3 4] wc fun e w' => e = .returned (.bool true) ∧ Below wc.heap.size wc w' := fun wc hb => by
    have := two_walk (some ⟨w4.heap.size, 0, none⟩) 4 (exX.take 3) wc (rdL_take (hxa.below hb) 3) (by decide)
    rw [exT3] at this; exact this
  have cT1 : ∀ wc, Below wa.heap.size wa wc → Calls Try.prog 15 #[.slice (some ⟨w4.heap.size, 0, none⟩) 1 4] wc fun e w' => e = .returned (.bool true) ∧ Below wc.heap.size wc w' := fun wc hb => by
    have := two_walk (some ⟨w4.heap.size, 0, none⟩) 4 (exX.take 1) wc (rdL_take (hxa.below hb) 1) (by decide)
    rw [exT1] at this; exact this
  have cTY : ∀ wc, Below wa.heap.size wa wc → Calls Try.prog 15 #[.slice (some ⟨w9.heap.size, 0, none⟩) 2 2] wc fun e w' => e = .returned (.bool true) ∧ Below wc.heap.size wc w' := fun wc hb => by
    have := two_walk (some ⟨w9.heap.size, 0, none⟩) 2 exY wc (hy.below hb) (by decide)
    rw [exTY] at this; exact this
  have cS0 : ∀ wc, Below wa.heap.size wa wc → Calls Try.prog 17 #[.slice a0 3 c0, .slice (some ⟨w4.heap.size, 0, none⟩) 3 4] wc fun e w' => e = .returned (.bool true) ∧ Below wc.heap.size wc w' := fun wc hb => by
    have := (same_walk a0 (some ⟨w4.heap.size, 0, none⟩) c0 4 (exX.take 3) (exX.take 3) wc (p1.below hb) (rdL_take (hxa.below hb) 3) (by decide) (by decide)).mono fun _ _ h => h.below
    rw [show decide (exX.take 3 = exX.take 3) = true by simp] at this; exact this
  have cS1 : ∀ wc, Below wa.heap.size wa wc → Calls Try.prog 17 #[.slice a1 1 c1, .slice (some ⟨w4.heap.size, 9, none⟩) 1 1] wc fun e w' => e = .returned (.bool true) ∧ Below wc.heap.size wc w' := fun wc hb => by
    have := (same_walk a1 (some ⟨w4.heap.size, 9, none⟩) c1 1 (exX.drop 3) (exX.drop 3) wc (q1.below hb) (rdL_drop (hxa.below hb) 3 (by decide)) (by decide) (by decide)).mono fun _ _ h => h.below
    rw [show decide (exX.drop 3 = exX.drop 3) = true by simp] at this; exact this
  have cG : ∀ wc g, Below wa.heap.size wa wc → RdI wc (some ⟨g, 0, none⟩) [0, 1] → Calls Try.prog 23 #[.slice (some ⟨w9.heap.size, 0, none⟩) 2 2, .slice (some ⟨g, 0, none⟩) 2 2] wc fun e w' => ∃ a c, e = .returned (.slice a 2 c) ∧ Below wc.heap.size wc w' := fun wc g hb hz => by
    have := groups_walk (some ⟨w9.heap.size, 0, none⟩) 2 exY (some ⟨g, 0, none⟩) 2 [0, 1] wc (hy.below hb) (by decide) hz (by simp) (fun z hz => by simp at hz; rcases hz with rfl | rfl <;> exact wfZ_of (by omega))
    refine this.mono ?_
    rintro e w' ⟨vo, vals, rfl, hL, hb'⟩
    obtain ⟨a, c, rfl, _⟩ := hL.read
    rw [exGY]
    exact ⟨a, c, rfl, hb'⟩
  have p0' : wa.cell? ⟨b0, o0, none⟩ = some (.slice a0 3 c0) := p0
  have q0' : wa.cell? ⟨b0, o0 + 1, none⟩ = some (.slice a1 1 c1) := q0
  have hwa := bl_refl wa
  clear p0 p1 p2 p3 q0 q1 q2 q3 hra hxa hy
  go_region_held3 (fun w' => Below wa.heap.size wa w' ∧ w'.cell? ⟨b0, o0, none⟩ = some (.slice a0 3 c0) ∧ w'.cell? ⟨b0, o0 + 1, none⟩ = some (.slice a1 1 c1))
    (first
      | (go_split_ands; refine ⟨?_, ?_, ?_⟩; exact bl_trans (by assumption) (by assumption); exact keep_cell (by assumption) (by assumption); exact keep_cell (by assumption) (by assumption))
      | (go_split_ands; refine ⟨?_, ?_, ?_⟩; exact bl_trans (by assumption) (bl_alloc _ _); exact keep_cell (bl_alloc _ _) (by assumption); exact keep_cell (bl_alloc _ _) (by assumption))
      | (go_split_ands; refine ⟨?_, ?_, ?_⟩; exact Below.drew (by assumption); assumption; assumption)
      | go_keep)
    (first
      | (go_at_call 13; go_split_ands; refine (cJ _ (by assumption)).mono ?_; rintro e w' ⟨rfl, hb'⟩)
      | (go_at_call_of 15 (Value.slice (some ⟨w4.heap.size, 0, none⟩) 4 4); go_split_ands; refine (cT4 _ (by assumption)).mono ?_; rintro e w' ⟨rfl, hb'⟩)
      | (go_at_call_of 15 (Value.slice (some ⟨w4.heap.size, 0, none⟩) 3 4); go_split_ands; refine (cT3 _ (by assumption)).mono ?_; rintro e w' ⟨rfl, hb'⟩)
      | (go_at_call_of 15 (Value.slice (some ⟨w4.heap.size, 0, none⟩) 1 4); go_split_ands; refine (cT1 _ (by assumption)).mono ?_; rintro e w' ⟨rfl, hb'⟩)
      | (go_at_call_of 15 (Value.slice (some ⟨w9.heap.size, 0, none⟩) 2 2); go_split_ands; refine (cTY _ (by assumption)).mono ?_; rintro e w' ⟨rfl, hb'⟩)
      | (go_at_call_of 17 (Value.slice a0 3 c0); go_split_ands; refine (cS0 _ (by assumption)).mono ?_; rintro e w' ⟨rfl, hb'⟩)
      | (go_at_call_of 17 (Value.slice a1 1 c1); go_split_ands; refine (cS1 _ (by assumption)).mono ?_; rintro e w' ⟨rfl, hb'⟩)
      | (go_at_call 23; go_split_ands; refine (cG _ _ ?_ ?_).mono ?_; (first | assumption | exact bl_trans (by assumption) (bl_alloc _ _)); exact cellsAt_lit _ [.int .i64 0, .int .i64 1] 3 2 1 rfl (by unfold maxLen; omega); rintro e w' ⟨ag', cg', rfl, hb'⟩))
  go_wp2_with fail
  go_split_ands
  go_ret
  exact ⟨rfl, bl_trans hBa (by first | assumption | exact bl_trans (by assumption) (by assumption))⟩
end Go.Proofs.Ytagjakgbmmbmhaa
