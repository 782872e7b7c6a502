/- WalkTells returns true at every input, and leaves its arguments alone. No condition. -/
import Derived.Test.YtddndhhhmlcgjaaTellsP
import Derived.Test.YtddndhhhmlcgjaaRow
import Derived.Test.YtddndhhhmlcgjaaCopy
import Derived.Test.YtddndhhhmlcgjaaReg2
import Derived.BigRegion
import Derived.Outline
namespace Go.Proofs.Ytddndhhhmlcgjaa
open Go Go.RowKit

set_option maxRecDepth 100000 in
set_option maxHeartbeats 4000000 in
theorem walkTells_walk (n : Int) (a : Option Addr) (cap : Nat) (es : List (Int × Int)) (x y : Int) (w : World) (hr : RdP w a es) (hl : es.length ≤ cap) (hm : cap ≤ maxLen) (wn : (Lit.int .i64 n).wf = true) (wx : (Lit.int .i64 x).wf = true) (wy : (Lit.int .i64 y).wf = true) :
    Calls Try.prog 3 #[.agg #[.int .i64 n, .slice a es.length cap], .int .i64 x, .int .i64 y] w (RetT w true) := by
  have hcap : es.length ≤ 9223372036854775807 := by unfold maxLen at hm; omega
  clear wn wx wy hm hl
  have hbx : Below w.heap.size w (w.alloc (.cells #[.int .i64 n, .slice a es.length cap] 24)) := bl_alloc _ _
  by_cases h1 : 20 < n
  · have g1 : decide (20 < n) = true := by simpa using h1
    go_enter Try.func3, Try.ntmps3
    go_wp2_with (go_at_call 10; refine (awake_walk _).mono ?_; rintro e w2 ⟨rfl, hb2⟩)
    go_ret
    exact ⟨rfl, bl_trans hbx hb2⟩
  have g1 : decide (20 < n) = false := by simpa using h1
  by_cases h2 : 200 < es.length
  · have g2 : decide ((200 : Int) < (es.length : Int)) = true := by simp; omega
    go_enter Try.func3, Try.ntmps3
    go_wp2_with (go_at_call 10; refine (awake_walk _).mono ?_; rintro e w2 ⟨rfl, hb2⟩)
    go_ret
    exact ⟨rfl, bl_trans hbx hb2⟩
  have g2 : decide ((200 : Int) < (es.length : Int)) = false := by simp; omega
  have hl2 : es.length ≤ 200 := by omega
  obtain ⟨w1, hw1⟩ : ∃ w1, w1 = w.alloc (.cells #[.int .i64 n, .slice a es.length cap] 24) := ⟨_, rfl⟩
  have c0 : w1.cell? ⟨w.heap.size, 0, none⟩ = some (.int .i64 n) := by rw [hw1]; simp
  have c1 : w1.cell? ⟨w.heap.size, 1, none⟩ = some (.slice a es.length cap) := by rw [hw1]; simp
  have sz1 : w.heap.size < w1.heap.size := by rw [hw1]; simp
  have hB1 : Below w.heap.size w w1 := by rw [hw1]; exact hbx
  have hr1 := hr.below hB1
  have Hw1 := Lib.hid hw1
  go_enter Try.func3, Try.ntmps3
  go_upto_region 3 with fail
  rw [← hw1]
  clear hw1
  go_cut [7] from 32 to 37 (fun p wx => ∃ b a' c', p = .pointer (some ⟨b, 0, none⟩) ∧ wx.cell? ⟨b, 0, none⟩ = some (.int .i64 n) ∧ wx.cell? ⟨b, 1, none⟩ = some (.slice a' es.length c') ∧ RdP wx a' es ∧ Below w1.heap.size w1 wx ∧ b < wx.heap.size)
  case first =>
    refine regionT (fun w' => w'.cell? ⟨w.heap.size, 0, none⟩ = some (.int .i64 n) ∧ w'.cell? ⟨w.heap.size, 1, none⟩ = some (.slice a es.length cap)) 8 (by kernel_rfl) ?_
    have hS : w1.drew.cell? ⟨w.heap.size, 0, none⟩ = some (.int .i64 n) ∧ w1.drew.cell? ⟨w.heap.size, 1, none⟩ = some (.slice a es.length cap) := ⟨c0, c1⟩
    refine takeT (i := 0) (v := ?_) rfl (by kernel_rfl) (fun _ _ _ h => h) (Or.inl ⟨rfl, ?_⟩) hS ?_
    rotate_left
    · (intro wS hSw; (try dsimp only at hSw); go_simp; try (with_reducible rfl))
    simp only [Act.put, List.setIfInBounds_toArray, List.set_cons_zero, List.set_cons_succ]
    refine takeT (i := 1) (v := ?_) rfl (by kernel_rfl) (fun _ _ _ h => h) (Or.inl ⟨rfl, ?_⟩) hS ?_
    rotate_left
    · (intro wS hSw; (try dsimp only at hSw); go_simp; try (with_reducible rfl))
    simp only [Act.put, List.setIfInBounds_toArray, List.set_cons_zero, List.set_cons_succ]
    refine takeT (i := 2) (v := ?_) rfl (by kernel_rfl) (fun _ _ _ h => h) (Or.inl ⟨rfl, ?_⟩) hS ?_
    rotate_left
    · (intro wS hSw; (try dsimp only at hSw); go_simp; try (with_reducible rfl))
    simp only [Act.put, List.setIfInBounds_toArray, List.set_cons_zero, List.set_cons_succ]
    refine takeT (i := 3) (v := ?_) rfl (by kernel_rfl) (fun _ _ _ h => h) (Or.inl ⟨rfl, ?_⟩) hS ?_
    rotate_left
    · (intro wS hSw; (try dsimp only at hSw); go_simp; try (with_reducible rfl))
    simp only [Act.put, List.setIfInBounds_toArray, List.set_cons_zero, List.set_cons_succ]
    refine twoT (i := 4) (i' := 6) rfl rfl (by kernel_rfl) (fun K hK => ?_) (fun K hK => ?_)
    · go_simp
      go_at_call 11
      refine (copyPairs_walk a cap es _ ?_ (by omega)).mono ?_
      exact hr1
      rintro e w' ⟨a', c', rfl, hr', hb', hnew⟩
      go_simp
      have hS' : w'.cell? ⟨w.heap.size, 0, none⟩ = some (.int .i64 n) ∧ w'.cell? ⟨w.heap.size, 1, none⟩ = some (.slice a es.length cap) := ⟨keep_cell hb' hS.1, keep_cell hb' hS.2⟩
      refine hK _ _ (fun _ => hS') ?_
      clear hK K hS
      have hS := hS'; clear hS'
      refine takeT (i := 5) (v := ?_) rfl (by kernel_rfl) (fun _ _ _ h => h) (Or.inl ⟨rfl, ?_⟩) hS ?_
      rotate_left
      · (intro wS hSw; (try dsimp only at hSw); go_simp; try (with_reducible rfl))
      simp only [Act.put, List.setIfInBounds_toArray, List.set_cons_zero, List.set_cons_succ]
      refine oneT (i := 6) rfl (by kernel_rfl) (fun K hK => ?_)
      go_simp
      refine hK _ _ (fun _ => ⟨keep_cell (bl_alloc _ _) hS.1, keep_cell (bl_alloc _ _) hS.2⟩) ?_
      clear hK K
      refine oneT (i := 7) rfl (by kernel_rfl) (fun K hK => ?_)
      go_simp
      refine hK _ _ (fun _ => ⟨keep_cell (bl_alloc _ _) hS.1, keep_cell (bl_alloc _ _) hS.2⟩) ?_
      clear hK K
      refine doneT (by kernel_rfl) ?_ _
      go_wp2_with fail
      go_meet
      exact ⟨w'.heap.size, a', c', rfl, by simp, by simp, hr'.below (bl_alloc _ _), bl_trans (bl_trans (Below.refl w1.heap.size w1).drew hb') (bl_alloc _ _), by simp⟩
    · go_simp
      refine hK _ _ (fun _ => ⟨keep_cell (bl_alloc _ _) hS.1, keep_cell (bl_alloc _ _) hS.2⟩) ?_
      clear hK K
      refine oneT (i := 4) rfl (by kernel_rfl) (fun K hK => ?_)
      go_simp
      go_at_call 11
      refine (copyPairs_walk a cap es _ ?_ (by omega)).mono ?_
      exact (show RdP (w1.alloc _) a es from hr1.below (bl_alloc _ _))
      rintro e w' ⟨a', c', rfl, hr', hb', hnew⟩
      go_simp
      have q0 : w'.cell? ⟨w1.heap.size, 0, none⟩ = some (.int .i64 0) := keep_cell hb' (by simp)
      have q1 : w'.cell? ⟨w1.heap.size, 1, none⟩ = some (.slice none 0 0) := keep_cell hb' (by simp)
      have q2 : w'.frozen? ⟨w1.heap.size, 0, none⟩ = false := (hb'.frozen (by simp)).trans (by simp)
      have q3 : w'.frozen? ⟨w1.heap.size, 1, none⟩ = false := (hb'.frozen (by simp)).trans (by simp)
      replace hS : w'.cell? ⟨w.heap.size, 0, none⟩ = some (.int .i64 n) ∧ w'.cell? ⟨w.heap.size, 1, none⟩ = some (.slice a es.length cap) := ⟨keep_cell hb' (keep_cell (bl_alloc _ _) hS.1), keep_cell hb' (keep_cell (bl_alloc _ _) hS.2)⟩
      refine hK _ _ (fun _ => hS) ?_
      clear hK K
      refine takeT (i := 5) (v := ?_) rfl (by kernel_rfl) (fun _ _ _ h => h) (Or.inl ⟨rfl, ?_⟩) hS ?_
      rotate_left
      · (intro wS hSw; (try dsimp only at hSw); go_simp; try (with_reducible rfl))
      simp only [Act.put, List.setIfInBounds_toArray, List.set_cons_zero, List.set_cons_succ]
      refine oneT (i := 7) rfl (by kernel_rfl) (fun K hK => ?_)
      go_simp
      have hx : w1.heap.size ≠ w.heap.size := by omega
      refine hK _ _ (fun _ => by
        refine ⟨(World.cell?_setCell_far _ _ _ _ hx).trans ((World.cell?_setCell_far _ _ _ _ hx).trans hS.1), (World.cell?_setCell_far _ _ _ _ hx).trans ((World.cell?_setCell_far _ _ _ _ hx).trans hS.2)⟩) ?_
      clear hK K
      refine doneT (by kernel_rfl) ?_ _
      go_wp2_with fail
      go_meet
      have hne : ∀ ad, a' = some ad → w1.heap.size ≠ ad.block := fun ad h => by have := hnew ad h; simp at this; omega
      have hbw : Below w1.heap.size w1 w' := bl_trans (bl_alloc _ _).drew hb'
      have hsz := hb'.size
      simp at hsz
      exact ⟨w1.heap.size, a', c', rfl, (World.cell?_setCell_other _ _ _ _ (by simp)).trans (World.cell?_setCell_same _ _ _ q0), World.cell?_setCell_same _ _ _ ((World.cell?_setCell_other _ _ _ _ (by simp)).trans q1), (hr'.other hne _).other hne _, (hbw.setCell (Nat.le_refl _) _).setCell (Nat.le_refl _) _, by simp; omega⟩
  case rest =>
    obtain ⟨b, a', c', rfl, d0, d1, hrr, hb2, hbl⟩ := hcut
    obtain ⟨w4, hw4, _⟩ : ∃ w4 : World, w4 = _ ∧ Below w1.heap.size w1 w4 := ⟨_, rfl, hb2⟩
    subst hw4
    have hB4 := bl_trans hB1 hb2
    replace c0 := keep_cell hb2 c0; replace c1 := keep_cell hb2 c1
    have hrg := hr.below hB4
    have hw := walkFn_R n a' c' es x w4 hrr hcap
    have hw' := fun w h => refWalk_walk n a cap es x w h hcap
    have ha := fun w h => awayFn_R n a' c' es x w h hcap
    have ha' := fun w h => refAway_walk n a cap es x w h hcap
    have hp := fun w h => pathFn_R n a' c' es x y w h hcap
    have hp' := fun w h => refPath_walk n a cap es x y w h hcap
    obtain ⟨n1, n2, n3, n4⟩ := tells_len (n := n) (es := es) (x := x) (y := y) (by omega)
    generalize (walkR n es x).1 = L1 at hw hw' n1
    generalize (walkR n es x).2 = L2 at hw hw' n2
    generalize awayR n es x = L3 at ha ha' n3
    generalize (pathR n es x y).1 = L4 at hp hp' n4
    generalize (pathR n es x y).2 = er2 at hp hp'
    generalize askE n es x = er at hw hw' ha ha'
    clear hb2 hr1
    have g3 : (er != er) = false := by simp
    have g4 : (er2 != er2) = false := by simp
    go_wp2_with fail
    refine hw.mono ?_
    rintro e w5 ⟨hb5, p1, k1, p2, k2, rfl, r1, r2⟩
    clear hw
    replace c0 := keep_cell hb5 c0; replace c1 := keep_cell hb5 c1; replace d0 := keep_cell hb5 d0; replace d1 := keep_cell hb5 d1
    replace hrg := hrg.below hb5; replace hrr := hrr.below hb5
    have hB5 := bl_trans hB4 hb5
    clear hb5 hB4
    go_wp2_with fail
    refine (hw' _ hrg).mono ?_
    rintro e w6 ⟨hb6, p3, k3, p4, k4, rfl, r3, r4⟩
    clear hw'
    replace c0 := keep_cell hb6 c0; replace c1 := keep_cell hb6 c1; replace d0 := keep_cell hb6 d0; replace d1 := keep_cell hb6 d1
    replace hrg := hrg.below hb6; replace hrr := hrr.below hb6; replace r1 := r1.below hb6; replace r2 := r2.below hb6
    have hB6 := bl_trans hB5 hb6
    clear hb6 hB5
    go_wp2_with fail
    refine (ha _ hrr).mono ?_
    rintro e w7 ⟨hb7, p5, k5, rfl, r5⟩
    clear ha
    replace c0 := keep_cell hb7 c0; replace c1 := keep_cell hb7 c1; replace d0 := keep_cell hb7 d0; replace d1 := keep_cell hb7 d1
    replace hrg := hrg.below hb7; replace hrr := hrr.below hb7; replace r1 := r1.below hb7; replace r2 := r2.below hb7; replace r3 := r3.below hb7; replace r4 := r4.below hb7
    have hB7 := bl_trans hB6 hb7
    clear hb7 hB6
    go_wp2_with fail
    refine (ha' _ hrg).mono ?_
    rintro e w8 ⟨hb8, p6, k6, rfl, r6⟩
    clear ha'
    replace c0 := keep_cell hb8 c0; replace c1 := keep_cell hb8 c1; replace d0 := keep_cell hb8 d0; replace d1 := keep_cell hb8 d1
    replace hrg := hrg.below hb8; replace hrr := hrr.below hb8; replace r1 := r1.below hb8; replace r2 := r2.below hb8; replace r3 := r3.below hb8; replace r4 := r4.below hb8; replace r5 := r5.below hb8
    have hB8 := bl_trans hB7 hb8
    clear hb8 hB7
    go_wp2_with fail
    refine (hp _ hrr).mono ?_
    rintro e w9 ⟨hb9, p7, k7, rfl, r7⟩
    clear hp
    replace c0 := keep_cell hb9 c0; replace c1 := keep_cell hb9 c1; replace d0 := keep_cell hb9 d0; replace d1 := keep_cell hb9 d1
    replace hrg := hrg.below hb9; replace hrr := hrr.below hb9; replace r1 := r1.below hb9; replace r2 := r2.below hb9; replace r3 := r3.below hb9; replace r4 := r4.below hb9; replace r5 := r5.below hb9; replace r6 := r6.below hb9
    have hB9 := bl_trans hB8 hb9
    clear hb9 hB8
    go_wp2_with fail
    refine (hp' _ hrg).mono ?_
    rintro e w10 ⟨hb10, p8, k8, rfl, r8⟩
    clear hp'
    replace c0 := keep_cell hb10 c0; replace c1 := keep_cell hb10 c1; replace d0 := keep_cell hb10 d0; replace d1 := keep_cell hb10 d1
    replace hrg := hrg.below hb10; replace hrr := hrr.below hb10; replace r1 := r1.below hb10; replace r2 := r2.below hb10; replace r3 := r3.below hb10; replace r4 := r4.below hb10; replace r5 := r5.below hb10; replace r6 := r6.below hb10; replace r7 := r7.below hb10
    have hB10 := bl_trans hB9 hb10
    clear hb10 hB9
    have s1 : sameI L1 L1 = true := by simp [sameI]
    have s2 : sameI L2 L2 = true := by simp [sameI]
    have s3 : sameI L3 L3 = true := by simp [sameI]
    have s4 : sameI L4 L4 = true := by simp [sameI]
    have S1 := Lib.hid s1; have S2 := Lib.hid s2; have S3 := Lib.hid s3; have S4 := Lib.hid s4
    clear s1 s2 s3 s4
    go_wp2_with fail
    refine (sameInts_walk p1 p3 k1 k3 L1 L1 _ r1 r3 (by omega) (by omega)).mono ?_
    rw [S1.out]
    rintro e w11 ⟨rfl, q11, rfl⟩
    go_wp2_with fail
    refine (sameInts_walk p2 p4 k2 k4 L2 L2 _ (by exact r2) (by exact r4) (by omega) (by omega)).mono ?_
    rw [S2.out]
    rintro e w12 ⟨rfl, q12, rfl⟩
    go_wp2_with fail
    refine (sameInts_walk p5 p6 k5 k6 L3 L3 _ (by exact r5) (by exact r6) (by omega) (by omega)).mono ?_
    rw [S3.out]
    rintro e w13 ⟨rfl, q13, rfl⟩
    go_wp2_with fail
    refine (sameInts_walk p7 p8 k7 k8 L4 L4 _ (by exact r7) (by exact r8) (by omega) (by omega)).mono ?_
    rw [S4.out]
    rintro e w14 ⟨rfl, q14, rfl⟩
    go_wp2_with fail
    have hbd : Below w10.heap.size w10 (w10.drewN (q11 + q12 + q13 + q14)) := below_drewN (bl_refl _) _
    generalize w10.drewN (q11 + q12 + q13 + q14) = wd at hbd ⊢
    replace c0 := keep_cell hbd c0; replace c1 := keep_cell hbd c1; replace d0 := keep_cell hbd d0; replace d1 := keep_cell hbd d1
    replace hrg := hrg.below hbd; replace hrr := hrr.below hbd
    have hBd := bl_trans hB10 hbd
    have hpl : (partsR n es).length ≤ 200 := by
      unfold partsR
      split
      · rename_i hr'
        have := parts_take_len (bs := besideL n.toNat es) (List.range (besideL n.toNat es).length) ([], [])
        have h0 := ((rightB_iff _ _).1 hr').1
        rw [List.length_map]
        unfold partsL
        rw [List.length_range, besideL_length] at this
        rw [besideL_length]
        simp at this; omega
      · simp
    have hP := fun w h => partsFn_R n a' c' es w h hcap
    have hQ := fun w h => refParts_walk n a cap es w h hcap
    generalize partsR n es = LL at hP hQ hpl
    have hsl : sameL LL LL = true := by simp [sameL]
    have Hsl := Lib.hid hsl; clear hsl hbd hB10 r1 r2 r3 r4 r5 r6 r7 r8 S1 S2 S3 S4
    refine regionT (fun w' => w'.cell? ⟨w.heap.size, 0, none⟩ = some (.int .i64 n) ∧ w'.cell? ⟨w.heap.size, 1, none⟩ = some (.slice a es.length cap) ∧ w'.cell? ⟨b, 0, none⟩ = some (.int .i64 n) ∧ w'.cell? ⟨b, 1, none⟩ = some (.slice a' es.length c')) 14 (by kernel_rfl) ?_
    have hS : wd.drew.cell? ⟨w.heap.size, 0, none⟩ = some (.int .i64 n) ∧ wd.drew.cell? ⟨w.heap.size, 1, none⟩ = some (.slice a es.length cap) ∧ wd.drew.cell? ⟨b, 0, none⟩ = some (.int .i64 n) ∧ wd.drew.cell? ⟨b, 1, none⟩ = some (.slice a' es.length c') := ⟨c0, c1, d0, d1⟩
    refine takeT (i := 0) (v := ?_) rfl (by kernel_rfl) (fun _ _ _ h => h) (Or.inl ⟨rfl, ?_⟩) hS ?_
    rotate_left
    · (intro wS hSw; (try dsimp only at hSw); go_simp; try (with_reducible rfl))
    simp only [Act.put, List.setIfInBounds_toArray, List.set_cons_zero, List.set_cons_succ]
    refine takeT (i := 2) (v := ?_) rfl (by kernel_rfl) (fun _ _ _ h => h) (Or.inl ⟨rfl, ?_⟩) hS ?_
    rotate_left
    · (intro wS hSw; (try dsimp only at hSw); go_simp; try (with_reducible rfl))
    simp only [Act.put, List.setIfInBounds_toArray, List.set_cons_zero, List.set_cons_succ]
    refine oneT (i := 1) rfl (by kernel_rfl) (fun K hK => ?_)
    go_simp
    go_at_call 20
    refine (hP _ ?_).mono ?_
    exact hrr
    rintro e w15 ⟨hb15, pa, ka, rfl, rp⟩
    go_simp
    have hb15' : Below wd.heap.size wd w15 := bl_trans (Below.refl wd.heap.size wd).drew hb15
    replace c0 := keep_cell hb15' c0; replace c1 := keep_cell hb15' c1; replace d0 := keep_cell hb15' d0; replace d1 := keep_cell hb15' d1
    replace hrg := hrg.below hb15'; replace hrr := hrr.below hb15'
    refine hK _ _ (fun _ => ⟨c0, c1, d0, d1⟩) ?_
    clear hK K hS
    refine oneT (i := 3) rfl (by kernel_rfl) (fun K hK => ?_)
    go_simp
    go_at_call 21
    refine (hQ _ ?_).mono ?_
    exact hrg
    rintro e w16 ⟨hb16, pb, kb, rfl, rq⟩
    go_simp
    replace c0 := keep_cell hb16 c0; replace c1 := keep_cell hb16 c1; replace d0 := keep_cell hb16 d0; replace d1 := keep_cell hb16 d1
    replace hrg := hrg.below hb16; replace hrr := hrr.below hb16; replace rp := rp.below hb16
    refine hK _ _ (fun _ => ⟨c0, c1, d0, d1⟩) ?_
    clear hK K
    refine oneT (i := 4) rfl (by kernel_rfl) (fun K hK => ?_)
    go_simp
    go_at_call 19
    refine (sameIntLists_walk pa pb ka kb LL LL _ rp rq (by omega) (by omega)).mono ?_
    rw [Hsl.out]
    rintro e w17 ⟨rfl, q17, rfl⟩
    go_simp
    refine hK _ _ (fun _ => ⟨c0, c1, d0, d1⟩) ?_
    clear hK K
    have hS := And.intro c0 (And.intro c1 (And.intro d0 d1))
    refine takeT (i := 5) (v := ?_) rfl (by kernel_rfl) (fun _ _ _ h => h) (Or.inl ⟨rfl, ?_⟩) hS ?_
    rotate_left
    · (intro wS hSw; (try dsimp only at hSw); go_simp; try (with_reducible rfl))
    simp only [Act.put, List.setIfInBounds_toArray, List.set_cons_zero, List.set_cons_succ]
    refine takeT (i := 6) (v := ?_) rfl (by kernel_rfl) (fun _ _ _ h => h) (Or.inl ⟨rfl, ?_⟩) hS ?_
    rotate_left
    · (intro wS hSw; (try dsimp only at hSw); go_simp; try (with_reducible rfl))
    simp only [Act.put, List.setIfInBounds_toArray, List.set_cons_zero, List.set_cons_succ]
    refine takeT (i := 7) (v := ?_) rfl (by kernel_rfl) (fun _ _ _ h => h) (Or.inl ⟨rfl, ?_⟩) hS ?_
    rotate_left
    · (intro wS hSw; (try dsimp only at hSw); go_simp; try (with_reducible rfl))
    simp only [Act.put, List.setIfInBounds_toArray, List.set_cons_zero, List.set_cons_succ]
    refine oneT (i := 8) rfl (by kernel_rfl) (fun K hK => ?_)
    go_simp
    go_at_call 22
    refine (sameGraph_walk n a' a c' cap es _ ?_ ?_ hcap).mono ?_
    exact hrr
    exact hrg
    rintro e w18 ⟨rfl, hb18⟩
    go_simp
    have hb18' : Below w16.heap.size w16 w18 := bl_trans (below_drewN (bl_refl _) _) hb18
    replace c0 := keep_cell hb18' c0; replace c1 := keep_cell hb18' c1; replace d0 := keep_cell hb18' d0; replace d1 := keep_cell hb18' d1
    refine hK _ _ (fun _ => ⟨c0, c1, d0, d1⟩) ?_
    clear hK K hS
    have hS := And.intro c0 (And.intro c1 (And.intro d0 d1))
    refine takeT (i := 9) (v := ?_) rfl (by kernel_rfl) (fun _ _ _ h => h) (Or.inl ⟨rfl, ?_⟩) hS ?_
    rotate_left
    · (intro wS hSw; (try dsimp only at hSw); go_simp; try (with_reducible rfl))
    simp only [Act.put, List.setIfInBounds_toArray, List.set_cons_zero, List.set_cons_succ]
    refine takeT (i := 10) (v := ?_) rfl (by kernel_rfl) (fun _ _ _ h => h) (Or.inl ⟨rfl, ?_⟩) hS ?_
    rotate_left
    · (intro wS hSw; (try dsimp only at hSw); go_simp; try (with_reducible rfl))
    simp only [Act.put, List.setIfInBounds_toArray, List.set_cons_zero, List.set_cons_succ]
    refine oneT (i := 11) rfl (by kernel_rfl) (fun K hK => ?_)
    go_simp
    go_at_call 10
    refine (awake_walk _).mono ?_
    rintro e w19 ⟨rfl, hb19⟩
    go_simp
    replace c0 := keep_cell hb19 c0; replace c1 := keep_cell hb19 c1; replace d0 := keep_cell hb19 d0; replace d1 := keep_cell hb19 d1
    refine hK _ _ (fun _ => ⟨c0, c1, d0, d1⟩) ?_
    clear hK K hS
    have hS := And.intro c0 (And.intro c1 (And.intro d0 d1))
    refine takeT (i := 12) (v := ?_) rfl (by kernel_rfl) (fun _ _ _ h => h) (Or.inl ⟨rfl, ?_⟩) hS ?_
    rotate_left
    · (intro wS hSw; (try dsimp only at hSw); go_simp; try (with_reducible rfl))
    simp only [Act.put, List.setIfInBounds_toArray, List.set_cons_zero, List.set_cons_succ]
    refine takeT (i := 13) (v := ?_) rfl (by kernel_rfl) (fun _ _ _ h => h) (Or.inl ⟨rfl, ?_⟩) hS ?_
    rotate_left
    · (intro wS hSw; (try dsimp only at hSw); go_simp; try (with_reducible rfl))
    simp only [Act.put, List.setIfInBounds_toArray, List.set_cons_zero, List.set_cons_succ]
    refine doneT (by kernel_rfl) ?_ _
    go_wp2_with fail
    go_ret
    exact ⟨rfl, bl_trans hBd (bl_trans hb15' (bl_trans hb16 (bl_trans hb18' hb19)))⟩
namespace walkTells
open Go Go.RowKit Go.ChangeShapes Go.WideShapes Go.ChangeAt
set_option maxRecDepth 100000 in
theorem lifted (os : Os) (started : os.Started) (H : Type) (enc : TypeId × Value → H) :
    ReturnsInHanded {} Try.checked os 3 .any (Rows.walkTellsSpec.pre6 enc Try.prog Try.f3 Rows.walkTellsRow.domain false) (Rows.walkTellsSpec.post enc Try.prog Try.f3 false true false false) := by
  refine returnsInHanded_of_change (C := Try.checked) rowOwn started (by kernel_rfl) Try.func3
    (ChangeSpec.witness6 (enc := enc) (C := Try.checked) false ⟨#[], #[.agg #[.int .i64 0, .slice none 0 0], .int .i64 0, .int .i64 0], []⟩ 8 (by kernel_rfl) (by kernel_rfl) (by kernel_rfl) (by kernel_rfl)) ?_
  intro W base args ds gs before hval0 hW hcnd _
  have hval : ∀ (j : Nat) t v, Try.f3.params[j]? = some t → args[j]? = some v → Value.okWide Try.prog W .any base t v := hval0
  have hW' := hW
  obtain ⟨p, q, hA0, hV, rfl, hfz, hnd⟩ := hW
  have hA : DataW.TrodAll enc Try.prog W 0 (fun _ => true) true Try.f3.params.toList args.toList ds p := hA0
  rw [Try.params3] at hA hval
  obtain ⟨v0, vs0, d0, ds0, p0, q0, hargs, rfl, rfl, h0, r0⟩ := trodAll_cons hA
  obtain ⟨v1, vs1, d1, ds1, p1, q1, rfl, rfl, rfl, h1, r1⟩ := trodAll_cons r0
  obtain ⟨v2, vs2, d2, ds2, p2, q2, rfl, rfl, rfl, h2, r2⟩ := trodAll_cons r1
  obtain ⟨rfl, rfl, rfl⟩ := trodAll_nil r2
  obtain rfl : args = #[v0, v1, v2] := by cases args; simp_all
  obtain ⟨rfl, rfl⟩ := trodVars_none hV
  have k0 := h0
  have lt0 : ∀ x ∈ p0, x.block < W.heap.size := by obtain ⟨m, hm⟩ := k0; exact DataW.trod_lt m _ _ _ hm
  obtain ⟨n0, a0, cap0, es0, rfl, rd0, hl0, hm0, wn0⟩ := open_graph (hval 0 24 v0 rfl rfl) h0
  obtain ⟨x1, rfl, rfl, rfl, wn1⟩ := open_int Try.underlying3 (hval 1 3 v1 rfl rfl) h1
  obtain ⟨x2, rfl, rfl, rfl, wn2⟩ := open_int Try.underlying3 (hval 2 3 v2 rfl rfl) h2
  clear hA0 hval0
  refine (walkTells_walk n0 a0 cap0 es0 x1 x2 W rd0 hl0 hm0 wn0 wn1 wn2).mono fun e W' ⟨he, bel⟩ => ?_
  subst he
  exact ⟨_, rfl, _, _, _, [], _, [], hW', trodAll_mk1 (shut_bool Try.underlying4 _), (trodAll_cons_mk (Below.trod rowLaid (by kernel_rfl) (of_decide_eq_true (by kernel_rfl)) k0 bel lt0) (trodAll_cons_mk (shut_int Try.underlying3 wn1) (trodAll_cons_mk (shut_int Try.underlying3 wn2) trodAll_mk0))), rfl, bel.frame _, fun h => by cases h⟩
theorem over : Rows.walkTellsRow.holds Try.pinned (OpenSpec.ofChange Rows.walkTellsSpec) :=
  OpenClaim.holds_of_wide 3 Try.f3 rfl rfl rfl rfl rfl rfl rfl ⟨rfl, rfl, rfl, rfl, rfl⟩ rfl rfl rfl rfl rfl (by kernel_rfl) Try.func3 (by kernel_rfl)
    (of_decide_eq_true (by kernel_rfl)) (by unfold Func.isWrapper; first | (rw [if_pos (by decide +kernel)]; kernel_rfl) | (rw [if_neg (by decide +kernel)]; exact ⟨rfl, rfl⟩))
    (fun os started H enc _ => lifted os started H enc)
/-- The statement. -/
theorem proved : Rows.WalkTellsSaid := over
#print axioms proved
end walkTells
end Go.Proofs.Ytddndhhhmlcgjaa
