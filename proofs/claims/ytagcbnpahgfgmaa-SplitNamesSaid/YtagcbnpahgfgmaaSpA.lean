/- fretworklaw14.awake: the chapter's examples hold. -/
import Derived.Test.YtagcbnpahgfgmaaSpZ
namespace Go.Proofs.Ytagcbnpahgfgmaa
open Go Go.RowKit

def ecC : List Lk := [(0, 1, 0), (1, 2, 0), (2, 3, 0), (0, 3, 0)]
def ecS : List Lk := [(0, 1, 0), (0, 3, 0), (1, 2, 0), (2, 3, 0)]
def ecB : List Lk := [(0, 1, 0), (0, 1, 1), (0, 1, 2), (0, 1, 3)]
def ec0 : List Lk := [(0, 1, 0), (0, 2, 1), (1, 2, 0)]
def ec1 : List Lk := [(0, 2, 1), (0, 3, 0), (2, 3, 0)]
def ec2 : List Lk := [(0, 1, 0), (0, 1, 1), (0, 1, 5)]
def ec3 : List Lk := [(0, 1, 2), (0, 1, 3), (0, 1, 5)]
theorem ecC_s : sortL ecC = ecS := by decide +kernel
theorem ecS_t : twoL ecS = true := by decide +kernel
theorem ecB_t : twoL ecB = true := by decide +kernel
theorem sps_eq {s : SpS} {a b : List (List Lk)} {c : Int} (h1 : s.todo = a) (h2 : s.out = b) (h3 : s.next = c) : s = ⟨a, b, c⟩ := by cases s; subst h1; subst h2; subst h3; rfl
theorem ecS_p : SplitTo ecS 1 [ec0, ec1] 2 := ⟨3, by
  have h1 : (SpS.steps 3 ⟨[ecS], [], 1⟩).todo = [] := by decide +kernel
  have h2 : (SpS.steps 3 ⟨[ecS], [], 1⟩).out = [ec0, ec1] := by decide +kernel
  have h3 : (SpS.steps 3 ⟨[ecS], [], 1⟩).next = 2 := by decide +kernel
  exact sps_eq h1 h2 h3⟩
theorem ecB_p : SplitTo ecB 5 [ec2, ec3] 6 := ⟨3, by
  have h1 : (SpS.steps 3 ⟨[ecB], [], 5⟩).todo = [] := by decide +kernel
  have h2 : (SpS.steps 3 ⟨[ecB], [], 5⟩).out = [ec2, ec3] := by decide +kernel
  have h3 : (SpS.steps 3 ⟨[ecB], [], 5⟩).next = 6 := by decide +kernel
  exact sps_eq h1 h2 h3⟩
theorem ecJ : joinL ec0 ec1 1 = ecS := by decide +kernel
theorem lits_at (w : World) (ls : List Lk) (n : Nat) (h : ls.length = n) (hm : n ≤ maxLen) : RdL (w.alloc (.cells (lkCells ls).toArray 25)) (some ⟨w.heap.size, 0, none⟩) ls := by
  have := (row_new w (lkCells ls).toArray 25 3 n (by simp [lkCells_length]; omega) hm).at_
  unfold RdL
  simpa using this
theorem l14_walk (x y z : Int) (w : World) :
    Calls Try.prog 8 #[.int .i64 x, .int .i64 y, .int .i64 z] w fun e w' => e = .returned (.agg #[.int .i64 x, .int .i64 y, .int .i64 z]) ∧ Below w.heap.size w w' := by
  go_enter Try.func8, Try.ntmps8
  go_wp2_with fail
  first
  | (go_ret; exact ⟨rfl, bl_alloc _ _⟩)
  | exact bodyPost_ret (v := .agg #[.int .i64 x, .int .i64 y, .int .i64 z]) (by simp [results, Try.results8, go_sem]) rfl ⟨rfl, bl_alloc _ _⟩
set_option maxRecDepth 100000 in
set_option maxHeartbeats 8000000 in
theorem awake14_walk (w : World) : Calls Try.prog 4 #[] w (RetT w true) := by
  go_enter Try.func4, Try.ntmps4
  go_wp2_with fail
  refine (l14_walk _ _ _ _).mono ?_; rintro e w1 ⟨rfl, hb1⟩
  go_wp2_with fail
  refine (l14_walk _ _ _ _).mono ?_; rintro e w2 ⟨rfl, hb2⟩
  go_wp2_with fail
  refine (l14_walk _ _ _ _).mono ?_; rintro e w3 ⟨rfl, hb3⟩
  go_wp2_with fail
  refine (l14_walk _ _ _ _).mono ?_; rintro e w4 ⟨rfl, hb4⟩
  have hB4 := bl_trans (bl_trans (bl_trans hb1 hb2) hb3) hb4
  clear hb1 hb2 hb3 hb4
  have hc5 := lits_at w4 ecC 4 rfl (by unfold maxLen; omega)
  have hB5 := bl_trans hB4 (bl_alloc w4 (.cells (lkCells ecC).toArray 25))
  go_wp2_with fail
  refine (sorted_walk (some ⟨w4.heap.size, 0, none⟩) 4 ecC _ hc5 (by decide)).mono ?_
  rw [ecC_s]
  rintro e w6 ⟨v6, rfl, ho6, _, hb6⟩
  obtain ⟨a6, c6, rfl, hr6, _, _, _⟩ := OwnL.read ho6
  have hB6 := bl_trans hB5 hb6
  clear ho6 hb6 hB5 hc5 hB4
  go_wp2_with fail
  refine (split_walk a6 c6 ecS 1 _ hr6 ecS_t (by omega) (by omega) (by decide)).mono ?_
  rintro e w7 ⟨ap, cp, out, n, rfl, hp, hs, _, _, hb7⟩
  obtain ⟨rfl, rfl⟩ := hs.one ecS_p
  have hB7 := bl_trans hB6 hb7
  have hr7 := hr6.below hb7
  clear hs hb7 hB6 hr6
  go_wp2_with fail
  refine (l14_walk _ _ _ _).mono ?_; rintro e w8 ⟨rfl, hb1⟩
  go_wp2_with fail
  refine (l14_walk _ _ _ _).mono ?_; rintro e w9 ⟨rfl, hb2⟩
  go_wp2_with fail
  refine (l14_walk _ _ _ _).mono ?_; rintro e wa ⟨rfl, hb3⟩
  go_wp2_with fail
  refine (l14_walk _ _ _ _).mono ?_; rintro e wb ⟨rfl, hb4⟩
  have hbb := bl_trans (bl_trans (bl_trans hb1 hb2) hb3) hb4
  clear hb1 hb2 hb3 hb4
  have hdc := lits_at wb ecB 4 rfl (by unfold maxLen; omega)
  have hbc := bl_trans hbb (bl_alloc wb (.cells (lkCells ecB).toArray 25))
  have hBc := bl_trans hB7 hbc
  go_wp2_with fail
  refine (split_walk (some ⟨wb.heap.size, 0, none⟩) 4 ecB 5 _ hdc ecB_t (by omega) (by omega) (by decide)).mono ?_
  rintro e wd ⟨aq, cq, out, n, rfl, hq, hs, _, _, hbd⟩
  obtain ⟨rfl, rfl⟩ := hs.one ecB_p
  have hBd := bl_trans hBc hbd
  have hpd := (hp.below hbc).below hbd
  have hrd := (hr7.below hbc).below hbd
  clear hs hbd hbb hbc hdc hB7 hBc hr7 hp
  obtain ⟨b0, o0, a0, c0, rfl, p0, p1, p2, p3⟩ := hpd 0 _ rfl
  obtain ⟨b0', o0', a1, c1, he, q0, q1, q2, q3⟩ := hpd 1 _ rfl
  cases he
  obtain ⟨d0, s0, e0, f0, rfl, r0, r1, r2, r3⟩ := hq 0 _ rfl
  obtain ⟨d0', s0', e1, f1, he, t0, t1, t2, t3⟩ := hq 1 _ rfl
  cases he
  simp only [Nat.add_zero] at p0 r0
  obtain ⟨ba, oa, rfl, _⟩ := p1.at 0 (by decide)
  obtain ⟨bb, ob, rfl, _⟩ := q1.at 0 (by decide)
  have p0' : wd.cell? ⟨b0, o0, none⟩ = some (.slice (some ⟨ba, oa, none⟩) 3 c0) := p0
  have q0' : wd.cell? ⟨b0, o0 + 1, none⟩ = some (.slice (some ⟨bb, ob, none⟩) 3 c1) := q0
  have r0' : wd.cell? ⟨d0, s0, none⟩ = some (.slice e0 3 f0) := r0
  have t0' : wd.cell? ⟨d0, s0 + 1, none⟩ = some (.slice e1 3 f1) := t0
  clear p0 q0 r0 t0 hpd hq
  go_wp2_with fail
  refine regionT (fun w' => w'.cell? ⟨b0, o0, none⟩ = some (.slice (some ⟨ba, oa, none⟩) 3 c0) ∧ w'.cell? ⟨b0, o0 + 1, none⟩ = some (.slice (some ⟨bb, ob, none⟩) 3 c1)) 6 (by kernel_rfl) ?_
  have hS : wd.drew.cell? ⟨b0, o0, none⟩ = some (.slice (some ⟨ba, oa, none⟩) 3 c0) ∧ wd.drew.cell? ⟨b0, o0 + 1, none⟩ = some (.slice (some ⟨bb, ob, none⟩) 3 c1) := ⟨p0', q0'⟩
  refine takeT (i := 0) (v := ?_) rfl (by kernel_rfl) (fun _ _ _ h => h) (Or.inl ⟨rfl, ?_⟩) hS ?_
  rotate_left
  · (intro wS hSw; (try dsimp only at hSw); go_simp; try (with_reducible rfl))
  simp only [Act.put, List.setIfInBounds_toArray, List.set_cons_zero, List.set_cons_succ]
  refine takeT (i := 1) (v := ?_) rfl (by kernel_rfl) (fun _ _ _ h => h) (Or.inl ⟨rfl, ?_⟩) hS ?_
  rotate_left
  · (intro wS hSw; (try dsimp only at hSw); go_simp; try (with_reducible rfl))
  simp only [Act.put, List.setIfInBounds_toArray, List.set_cons_zero, List.set_cons_succ]
  refine takeT (i := 2) (v := ?_) rfl (by kernel_rfl) (fun _ _ _ h => h) (Or.inl ⟨rfl, ?_⟩) hS ?_
  rotate_left
  · (intro wS hSw; (try dsimp only at hSw); go_simp; try (with_reducible rfl))
  simp only [Act.put, List.setIfInBounds_toArray, List.set_cons_zero, List.set_cons_succ]
  refine takeT (i := 3) (v := ?_) rfl (by kernel_rfl) (fun _ _ _ h => h) (Or.inl ⟨rfl, ?_⟩) hS ?_
  rotate_left
  · (intro wS hSw; (try dsimp only at hSw); go_simp; try (with_reducible rfl))
  simp only [Act.put, List.setIfInBounds_toArray, List.set_cons_zero, List.set_cons_succ]
  refine takeT (i := 4) (v := ?_) rfl (by kernel_rfl) (fun _ _ _ h => h) (Or.inl ⟨rfl, ?_⟩) hS ?_
  rotate_left
  · (intro wS hSw; (try dsimp only at hSw); go_simp; try (with_reducible rfl))
  simp only [Act.put, List.setIfInBounds_toArray, List.set_cons_zero, List.set_cons_succ]
  refine takeT (i := 5) (v := ?_) rfl (by kernel_rfl) (fun _ _ _ h => h) (Or.inl ⟨rfl, ?_⟩) hS ?_
  rotate_left
  · (intro wS hSw; (try dsimp only at hSw); go_simp; try (with_reducible rfl))
  simp only [Act.put, List.setIfInBounds_toArray, List.set_cons_zero, List.set_cons_succ]
  refine oneT (i := 6) rfl (by kernel_rfl) (fun K hK => ?_)
  go_simp
  go_at_call 9
  have hdw : Below wd.heap.size wd wd.drew := below_drewN (bl_refl wd) 1
  have hdrw : ∀ e : Lk, e ∈ ec0 → e ∈ ec1 → e = (0, 2, 1) := by decide
  refine (join_walk ba oa c0 bb ob c1 ec0 ec1 (0, 2, 1) _ (p1.below hdw) (q1.below hdw) p2 q2 p3 q3 ((rightL_iff _).1 (by decide +kernel)) ((rightL_iff _).1 (by decide +kernel)) (by decide) (by decide) (by decide) (by decide) (by decide) (by rw [show joinL ec0 ec1 (0, 2, 1).2.2 = ecS from ecJ]; exact two_right ecS_t)).mono ?_
  rw [show joinL ec0 ec1 (0, 2, 1).2.2 = ecS from ecJ]
  rintro e we ⟨ve, rfl, hoe, _, hbe⟩
  obtain ⟨ae, ce, rfl, hre, _, _, _⟩ := OwnL.read hoe
  have hbe' : Below wd.heap.size wd we := bl_trans hdw hbe
  have hBe := bl_trans hBd hbe'
  clear hoe hBd hdw hbe
  go_simp
  refine hK _ _ (fun h => absurd h (by omega)) ?_
  clear hK K hS
  refine restartT (fun _ => True) 12 (by kernel_rfl) ?_
  have hS : True := trivial
  refine takeT (i := 7) (v := ?_) rfl (by kernel_rfl) (fun _ _ _ h => h) (Or.inl ⟨rfl, ?_⟩) hS ?_
  rotate_left
  · (intro wS hSw; (try dsimp only at hSw); go_simp; try (with_reducible rfl))
  simp only [Act.put, List.setIfInBounds_toArray, List.set_cons_zero, List.set_cons_succ]
  refine takeT (i := 8) (v := ?_) rfl (by kernel_rfl) (fun _ _ _ h => h) (Or.inl ⟨rfl, ?_⟩) hS ?_
  rotate_left
  · (intro wS hSw; (try dsimp only at hSw); go_simp; try (with_reducible rfl))
  simp only [Act.put, List.setIfInBounds_toArray, List.set_cons_zero, List.set_cons_succ]
  refine takeT (i := 9) (v := ?_) rfl (by kernel_rfl) (fun _ _ _ h => h) (Or.inl ⟨rfl, ?_⟩) hS ?_
  rotate_left
  · (intro wS hSw; (try dsimp only at hSw); go_simp; try (with_reducible rfl))
  simp only [Act.put, List.setIfInBounds_toArray, List.set_cons_zero, List.set_cons_succ]
  refine takeT (i := 10) (v := ?_) rfl (by kernel_rfl) (fun _ _ _ h => h) (Or.inl ⟨rfl, ?_⟩) hS ?_
  rotate_left
  · (intro wS hSw; (try dsimp only at hSw); go_simp; try (with_reducible rfl))
  simp only [Act.put, List.setIfInBounds_toArray, List.set_cons_zero, List.set_cons_succ]
  refine takeT (i := 11) (v := ?_) rfl (by kernel_rfl) (fun _ _ _ h => h) (Or.inl ⟨rfl, ?_⟩) hS ?_
  rotate_left
  · (intro wS hSw; (try dsimp only at hSw); go_simp; try (with_reducible rfl))
  simp only [Act.put, List.setIfInBounds_toArray, List.set_cons_zero, List.set_cons_succ]
  refine doneT (by kernel_rfl) ?_ _
  have hre6 := hrd.below hbe'
  have p1e := p1.below hbe'
  have q1e := q1.below hbe'
  have r1e := r1.below hbe'
  have t1e := t1.below hbe'
  have p0e := keep_cell hbe' p0'
  have q0e := keep_cell hbe' q0'
  have r0e := keep_cell hbe' r0'
  have t0e := keep_cell hbe' t0'
  clear p1 q1 r1 t1 p0' q0' r0' t0' hrd hbe' hS
  have sm : ∀ (a b : Option Addr) (ca cb : Nat) (xs : List Lk) (wc : World), RdL wc a xs → RdL wc b xs → xs.length = 3 → Calls Try.prog 10 #[.slice a 3 ca, .slice b 3 cb] wc fun e w' => e = .returned (.bool true) ∧ Below wc.heap.size wc w' := fun a b ca cb xs wc h1 h2 h3 => by
    have := (same_walk a b ca cb xs xs wc h1 h2 (by omega) (by omega)).mono fun _ _ h => h.below
    rw [h3, show decide (xs = xs) = true by simp] at this; exact this
  have c0' : ∀ wc g, Below we.heap.size we wc → RdL wc (some ⟨g, 0, none⟩) ec0 → Calls Try.prog 10 #[.slice (some ⟨ba, oa, none⟩) 3 c0, .slice (some ⟨g, 0, none⟩) 3 3] wc fun e w' => e = .returned (.bool true) ∧ Below wc.heap.size wc w' := fun wc g hb h => sm _ _ _ _ _ wc (p1e.below hb) h rfl
  have c1' : ∀ wc g, Below we.heap.size we wc → RdL wc (some ⟨g, 0, none⟩) ec1 → Calls Try.prog 10 #[.slice (some ⟨bb, ob, none⟩) 3 c1, .slice (some ⟨g, 0, none⟩) 3 3] wc fun e w' => e = .returned (.bool true) ∧ Below wc.heap.size wc w' := fun wc g hb h => sm _ _ _ _ _ wc (q1e.below hb) h rfl
  have c2' : ∀ wc g, Below we.heap.size we wc → RdL wc (some ⟨g, 0, none⟩) ec2 → Calls Try.prog 10 #[.slice e0 3 f0, .slice (some ⟨g, 0, none⟩) 3 3] wc fun e w' => e = .returned (.bool true) ∧ Below wc.heap.size wc w' := fun wc g hb h => sm _ _ _ _ _ wc (r1e.below hb) h rfl
  have c3' : ∀ wc g, Below we.heap.size we wc → RdL wc (some ⟨g, 0, none⟩) ec3 → Calls Try.prog 10 #[.slice e1 3 f1, .slice (some ⟨g, 0, none⟩) 3 3] wc fun e w' => e = .returned (.bool true) ∧ Below wc.heap.size wc w' := fun wc g hb h => sm _ _ _ _ _ wc (t1e.below hb) h rfl
  have c4' : ∀ wc, Below we.heap.size we wc → Calls Try.prog 10 #[.slice ae ecS.length ce, .slice a6 ecS.length c6] wc fun e w' => e = .returned (.bool true) ∧ Below wc.heap.size wc w' := fun wc hb => by
    have := (same_walk ae a6 ce c6 ecS ecS wc (hre.below hb) (hre6.below hb) (by decide) (by decide)).mono fun _ _ h => h.below
    rw [show decide (ecS = ecS) = true by simp] at this; exact this
  have hwe := bl_refl we
  clear p1e q1e r1e t1e hre6 hre sm
  go_wp2_with fail
  go_region_held3 (fun w' => Below we.heap.size we w' ∧ w'.cell? ⟨b0, o0, none⟩ = some (.slice (some ⟨ba, oa, none⟩) 3 c0) ∧ w'.cell? ⟨b0, o0 + 1, none⟩ = some (.slice (some ⟨bb, ob, none⟩) 3 c1) ∧ w'.cell? ⟨d0, s0, none⟩ = some (.slice e0 3 f0) ∧ w'.cell? ⟨d0, s0 + 1, none⟩ = some (.slice e1 3 f1))
    (first
      | (go_split_ands; refine ⟨?_, ?_, ?_, ?_, ?_⟩; exact bl_trans (by assumption) (by assumption); exact keep_cell (by assumption) (by assumption); exact keep_cell (by assumption) (by assumption); exact keep_cell (by assumption) (by assumption); exact keep_cell (by assumption) (by assumption))
      | (go_split_ands; refine ⟨?_, ?_, ?_, ?_, ?_⟩; exact bl_trans (by assumption) (bl_alloc _ _); exact keep_cell (bl_alloc _ _) (by assumption); exact keep_cell (bl_alloc _ _) (by assumption); exact keep_cell (bl_alloc _ _) (by assumption); exact keep_cell (bl_alloc _ _) (by assumption))
      | (go_split_ands; refine ⟨?_, ?_, ?_, ?_, ?_⟩; exact Below.drew (by assumption); assumption; assumption; assumption; assumption)
      | go_keep)
    (first
      | (go_at_call 8; go_split_ands; refine (l14_walk _ _ _ _).mono ?_; rintro e w' ⟨rfl, hb'⟩)
      | (go_at_call_of 10 (Value.slice (some ⟨ba, oa, none⟩) 3 c0); go_split_ands; refine (c0' _ _ ?_ ?_).mono ?_; (first | assumption | exact bl_trans (by assumption) (bl_alloc _ _)); exact lits_at _ ec0 3 rfl (by unfold maxLen; omega); rintro e w' ⟨rfl, hb'⟩)
      | (go_at_call_of 10 (Value.slice (some ⟨bb, ob, none⟩) 3 c1); go_split_ands; refine (c1' _ _ ?_ ?_).mono ?_; (first | assumption | exact bl_trans (by assumption) (bl_alloc _ _)); exact lits_at _ ec1 3 rfl (by unfold maxLen; omega); rintro e w' ⟨rfl, hb'⟩)
      | (go_at_call_of 10 (Value.slice e0 3 f0); go_split_ands; refine (c2' _ _ ?_ ?_).mono ?_; (first | assumption | exact bl_trans (by assumption) (bl_alloc _ _)); exact lits_at _ ec2 3 rfl (by unfold maxLen; omega); rintro e w' ⟨rfl, hb'⟩)
      | (go_at_call_of 10 (Value.slice e1 3 f1); go_split_ands; refine (c3' _ _ ?_ ?_).mono ?_; (first | assumption | exact bl_trans (by assumption) (bl_alloc _ _)); exact lits_at _ ec3 3 rfl (by unfold maxLen; omega); rintro e w' ⟨rfl, hb'⟩)
      | (go_at_call_of 10 (Value.slice ae ecS.length ce); go_split_ands; refine (c4' _ (by assumption)).mono ?_; rintro e w' ⟨rfl, hb'⟩))
  go_wp2_with fail
  go_split_ands
  go_ret
  exact ⟨rfl, bl_trans hBe (by first | assumption | exact bl_trans (by assumption) (by assumption))⟩
end Go.Proofs.Ytagcbnpahgfgmaa
