/- WalkAway returns true at every input, and leaves its arguments alone. No condition. -/
import Derived.Test.YtddndhhhmlcgjaaThere
import Derived.Test.YtddndhhhmlcgjaaRow
import Derived.Test.YtddndhhhmlcgjaaLawAwayP
import Derived.BigRegion
namespace Go.Proofs.Ytddndhhhmlcgjaa
open Go Go.RowKit

/-- what 'there' says -/
theorem there_true {n : Int} {es : List (Int × Int)} {vs : List Int} (h : thereB n es vs = true) : rightB n es = true ∧ (∀ v ∈ vs, 0 ≤ v ∧ v < n) ∧ n ≤ 60 := by
  unfold thereB at h
  simp only [Bool.and_eq_true, decide_eq_true_eq, List.all_eq_true, inR_iff] at h
  exact ⟨h.2.1, h.1, h.2.2⟩

set_option maxRecDepth 100000 in
set_option maxHeartbeats 4000000 in
theorem walkAway_walk (n : Int) (a : Option Addr) (cap : Nat) (es : List (Int × Int)) (x y : Int) (w : World) (hr : RdP w a es) (hl : es.length ≤ cap) (hm : cap ≤ maxLen) (wn : (Lit.int .i64 n).wf = true) (wx : (Lit.int .i64 x).wf = true) (wy : (Lit.int .i64 y).wf = true) :
    Calls Try.prog 5 #[.agg #[.int .i64 n, .slice a es.length cap], .int .i64 x, .int .i64 y] w (RetT w true) := by
  have hcap : es.length ≤ 9223372036854775807 := by unfold maxLen at hm; omega
  clear wn wx wy hm hl
  cases hth : thereB n es [x, y] with
  | false =>
    have Hth := Lib.hid hth; clear hth
    go_enter Try.func5, Try.ntmps5
    go_wp2_with fail
    refine (there_walk n a cap es _ [x, y] 2 _ ((hr.below (bl_alloc _ _)).below (bl_alloc _ _)) (rdI_two (by simp) (by simp)) hcap (by simp)).mono ?_
    rw [Hth.out]
    rintro e w1 ⟨rfl, hb1⟩
    have hB1 : Below w.heap.size w w1 := bl_trans (bl_trans (bl_alloc _ _) (bl_alloc _ _)) hb1
    go_wp2_with (go_at_call 10; refine (awake_walk _).mono ?_; rintro e w2 ⟨rfl, hb2⟩)
    go_ret
    exact ⟨rfl, bl_trans hB1 hb2⟩
  | true =>
    obtain ⟨hright, hin, h60⟩ := there_true hth
    obtain ⟨hx0, hx1⟩ := hin x (by simp)
    obtain ⟨hy0, hy1⟩ := hin y (by simp)
    obtain ⟨m, rfl⟩ : ∃ m : Nat, n = m := ⟨n.toNat, by omega⟩
    obtain ⟨s, rfl⟩ : ∃ s : Nat, x = s := ⟨x.toNat, by omega⟩
    obtain ⟨t, rfl⟩ : ∃ t : Nat, y = t := ⟨y.toNat, by omega⟩
    have hsm : s < m := by omega
    have htm : t < m := by omega
    have hds := away_dist hright hsm
    have hdt := away_dist hright htm
    have hsy := IsDist.symm (adj_sym hright) hds hdt htm hsm
    obtain ⟨d, hd⟩ : ∃ d, d = awayL (besideL m es) s := ⟨_, rfl⟩
    obtain ⟨c, hc⟩ : ∃ c, c = awayL (besideL m es) t := ⟨_, rfl⟩
    rw [← hd] at hds hsy
    rw [← hc] at hdt hsy
    obtain ⟨z, hz⟩ : ∃ z, d[t]? = some z := ⟨d[t]'(by rw [hds.len]; exact htm), by simp⟩
    have hz2 : c[s]? = some z := by rw [← hsy, hz]
    have hdl := hds.len
    have hcl := hdt.len
    have Hth := Lib.hid hth; have Hr := Lib.hid hright; have Hds := Lib.hid hds; have Hd := Lib.hid hd; have Hc := Lib.hid hc; have Hz := Lib.hid hz; have Hz2 := Lib.hid hz2; have Hdl := Lib.hid hdl; have Hcl := Lib.hid hcl
    have hri1 : inR (m : Int) (s : Int) = true := (inR_iff _ _).2 ⟨by omega, by omega⟩
    have hri2 : inR (m : Int) (t : Int) = true := (inR_iff _ _).2 ⟨by omega, by omega⟩
    have Hi1 := Lib.hid hri1; have Hi2 := Lib.hid hri2
    clear hth hright hds hdt hsy hd hc hz hz2 hdl hcl hin hri1 hri2
    have hmb := run_make_row' (P := Try.prog) 44 4 (.bool false) 1 Try.underlying44 bool_info rfl .i64 .i64 m (by omega) (by omega)
    go_enter Try.func5, Try.ntmps5
    go_wp2_with fail
    refine (there_walk m a cap es _ [(s : Int), (t : Int)] 2 _ ((hr.below (bl_alloc _ _)).below (bl_alloc _ _)) (rdI_two (by simp) (by simp)) hcap (by simp)).mono ?_
    rw [Hth.out]
    rintro e w1 ⟨rfl, hb1⟩
    have hB1 : Below w.heap.size w w1 := bl_trans (bl_trans (bl_alloc _ _) (bl_alloc _ _)) hb1
    have c0 : w1.cell? ⟨w.heap.size, 0, none⟩ = some (.int .i64 m) := keep_cell hb1 (keep_cell (bl_alloc _ _) (by simp))
    have c1 : w1.cell? ⟨w.heap.size, 1, none⟩ = some (.slice a es.length cap) := keep_cell hb1 (keep_cell (bl_alloc _ _) (by simp))
    have sz1 : w.heap.size < w1.heap.size := by have := hb1.size; simp at this; omega
    clear hb1
    go_wp2_with fail
    refine (awayFn_walk m a cap es s _ (hr.below hB1) hcap).mono ?_
    rintro e w2 ⟨hb2, hcase⟩
    rcases hcase with ⟨h1, _⟩ | ⟨_, h1, _⟩ | ⟨_, _, gd, cd, rfl, hrd, hgd⟩
    · exact absurd Hr.out (by rw [h1]; simp)
    · exact absurd Hi1.out (by rw [h1]; simp)
    simp only [Int.toNat_natCast] at hrd ⊢
    rw [← Hd.out] at hrd ⊢
    have hB2 := bl_trans hB1 hb2
    replace c0 := keep_cell hb2 c0; replace c1 := keep_cell hb2 c1
    have sz2 : w.heap.size < w2.heap.size := by have := hb2.size; omega
    clear hb2
    go_wp2_with fail
    refine (awayFn_walk m a cap es t _ (hr.below hB2) hcap).mono ?_
    rintro e w3 ⟨hb3, hcase⟩
    rcases hcase with ⟨h1, _⟩ | ⟨_, h1, _⟩ | ⟨_, _, gc, cc, rfl, hrc, hgc⟩
    · exact absurd Hr.out (by rw [h1]; simp)
    · exact absurd Hi2.out (by rw [h1]; simp)
    simp only [Int.toNat_natCast] at hrc ⊢
    rw [← Hc.out] at hrc ⊢
    have hB3 := bl_trans hB2 hb3
    replace c0 := keep_cell hb3 c0; replace c1 := keep_cell hb3 c1
    replace hrd := hrd.below hb3 hrd.lt
    have sz3 : w.heap.size < w3.heap.size := by have := hb3.size; omega
    clear hb3
    have l1 : ((d.length : Int) != (m : Int)) = false := by rw [Hdl.out]; simp
    have l2 : ((c.length : Int) != (m : Int)) = false := by rw [Hcl.out]; simp
    have ld : (t : Int) < (d.length : Int) := by rw [Hdl.out]; omega
    have lc : (s : Int) < (c.length : Int) := by rw [Hcl.out]; omega
    have e1 : w3.cell? ⟨gd, t, none⟩ = some (.int .i64 z) := by rw [hrd.cell? t (by simp [Hdl.out]; omega)]; simp [Hz.out]
    have e2 : w3.cell? ⟨gc, s, none⟩ = some (.int .i64 z) := by rw [hrc.cell? s (by simp [Hcl.out]; omega)]; simp [Hz2.out]
    go_wp2_with fail
    go_quiet (fail)
    generalize hN : w3.drewN _ = w4
    have hbd : Below w3.heap.size w3 w4 := by rw [← hN]; exact below_drewN (Below.refl _ _) _
    clear hN
    have hB4 := bl_trans hB3 hbd
    have sz0 : w.heap.size < w4.heap.size := by have := hbd.size; omega
    replace c0 := keep_cell hbd c0; replace c1 := keep_cell hbd c1
    replace hrd := hrd.below hbd hrd.lt
    clear e1 e2 hbd hrc
    have szd := hrd.lt
    clear sz1 sz2 sz3
    go_wp2_with fail
    go_loopg [72] es.length (fun r v wr => ∃ (k : Nat) (nl : List Bool), v = .int .i64 k ∧ k + r = es.length ∧ nl.length = m ∧ Row wr w4.heap.size 4 1 m (nl.map Value.bool) ∧ Near es d k nl ∧ Below w4.heap.size w4 wr)
    case atStart =>
      refine ⟨0, List.replicate m false, rfl, by omega, by simp, ?_, Near.start _ _ _, bl_alloc _ _⟩
      have := row_made w4 (.bool false) m 4 (by unfold maxLen; omega)
      simpa using this
    case round =>
      obtain ⟨k, nl, rfl, hgk, hnl, hrn, hN, hb⟩ := hrel
      have hB5 := bl_trans hB4 hb
      have f1 : wr.cell? ⟨w.heap.size, 1, none⟩ = some (.slice a es.length cap) := keep_cell hb c1
      have hrd5 := hrd.below hb hrd.lt
      by_cases hlt : k < es.length
      · obtain ⟨bb, oo, rfl, p0, p1⟩ := (hr.below hB5).at k hlt
        obtain ⟨e0, e1, e2⟩ := ((rightB_iff _ _).1 Hr.out).2.2.2.1 k hlt
        obtain ⟨x, hx⟩ : ∃ x : Nat, es[k].1 = (x : Int) := ⟨es[k].1.toNat, by omega⟩
        obtain ⟨y, hy⟩ : ∃ y : Nat, es[k].2 = (y : Int) := ⟨es[k].2.toNat, by omega⟩
        rw [hx] at p0 e0 e1
        rw [hy] at p1 e1 e2
        have hxm : x < m := by omega
        have hym : y < m := by omega
        have hek : es[k] = ((x : Int), (y : Int)) := by ext <;> simp [hx, hy]
        obtain ⟨dx, dy, gx, gy, hdd⟩ := edge_dist Hr.out Hds.out hxm hym ((mem_adj Hr.out x y).2 ⟨k, hlt, Or.inl hek⟩)
        have vx := Hds.out.val x dx gx
        have vy := Hds.out.val y dy gy
        have q0 : wr.cell? ⟨gd, x, none⟩ = some (.int .i64 dx) := by rw [hrd5.cell? x (by simp [Hdl.out]; omega)]; simp [gx]
        have q1 : wr.cell? ⟨gd, y, none⟩ = some (.int .i64 dy) := by rw [hrd5.cell? y (by simp [Hdl.out]; omega)]; simp [gy]
        obtain ⟨bx, hbx⟩ : ∃ b, nl[x]? = some b := ⟨nl[x]'(by omega), by simp⟩
        obtain ⟨by_, hby⟩ : ∃ b, nl[y]? = some b := ⟨nl[y]'(by omega), by simp⟩
        have q2 : wr.cell? ⟨w4.heap.size, x, none⟩ = some (.bool bx) := by rw [hrn.cell? x (by simp; omega)]; simp [hbx]
        have q3 : wr.cell? ⟨w4.heap.size, y, none⟩ = some (.bool by_) := by rw [hrn.cell? y (by simp; omega)]; simp [hby]
        have hfr : ∀ i, wr.frozen? ⟨w4.heap.size, i, none⟩ = false := fun i => hrn.frozen i
        have szn := hrn.lt
        have szd5 := hrd5.lt
        have ix1 : (x : Int) < (d.length : Int) := by rw [Hdl.out]; omega
        have iy1 : (y : Int) < (d.length : Int) := by rw [Hdl.out]; omega
        have Hek := Lib.hid hek; have Hgx := Lib.hid gx; have Hgy := Lib.hid gy; have Hbx := Lib.hid hbx; have Hby := Lib.hid hby; have Hgk := Lib.hid hgk; have HN := Lib.hid hN; have Hnl := Lib.hid hnl
        clear hek gx gy hbx hby hx hy hgk hN hnl c0 c1
        go_wp2_with fail
        generalize hwb : wr.alloc (.cells #[.int .i64 x, .int .i64 y] 43) = wb
        have hbb : Below wr.heap.size wr wb := by rw [← hwb]; exact bl_alloc _ _
        have r0 : wb.cell? ⟨wr.heap.size, 0, none⟩ = some (.int .i64 x) := by rw [← hwb]; simp
        have r1 : wb.cell? ⟨wr.heap.size, 1, none⟩ = some (.int .i64 y) := by rw [← hwb]; simp
        replace q0 := keep_cell hbb q0; replace q1 := keep_cell hbb q1; replace q2 := keep_cell hbb q2; replace q3 := keep_cell hbb q3
        have hrn6 := hrn.below hbb hrn.lt
        have hb6 := bl_trans hb hbb
        clear hwb f1 hrn hb hbb hfr hrd5
        go_quiet (fail)
        by_cases hsw : dy < dx
        · have hsb : decide (dy < dx) = true := by simpa using hsw
          by_cases hneg : dy < 0
          · have hP : dy = -1 := by omega
            have hQ : dx = -1 := by omega
            subst hP; subst hQ
            cases bx with
            | true =>
              go_wp2_with fail
              go_quiet (fail)
              go_wp2_with fail
              go_quiet (fail)
              go_wp2_with fail
              generalize hN7 : World.drewN _ _ = wd
              have hbd : Below wb.heap.size wb wd := by subst hN7; exact below_drewN (below_drewN (below_drewN (Below.refl _ _) _) _) _
              have t0 := keep_cell hbd q0; have t1 := keep_cell hbd q1; have t2 := keep_cell hbd q2
              have hrn7 := hrn6.below hbd hrn6.lt
              have hb7 := bl_trans hb6 hbd
              have hfr : ∀ i, wd.frozen? ⟨w4.heap.size, i, none⟩ = false := fun i => hrn7.frozen i
              clear hN7 hbd q0 q1 q2 q3 r0 r1 hrn6 hb6
              refine regionT (fun w' => w'.cell? ⟨gd, y, none⟩ = some (.int .i64 (-1)) ∧ w'.cell? ⟨gd, x, none⟩ = some (.int .i64 (-1)) ∧ w'.cell? ⟨w4.heap.size, x, none⟩ = some (.bool true)) 19 (by kernel_rfl) ?_
              have hS : wd.drew.cell? ⟨gd, y, none⟩ = some (.int .i64 (-1)) ∧ wd.drew.cell? ⟨gd, x, none⟩ = some (.int .i64 (-1)) ∧ wd.drew.cell? ⟨w4.heap.size, x, none⟩ = some (.bool true) := by first | exact ⟨t0, t1, t2⟩ | exact ⟨t1, t0, t2⟩
              refine takeT (i := 0) (v := ?_) rfl (by kernel_rfl) (fun _ _ _ h => h) (Or.inl ⟨rfl, ?_⟩) hS ?_
              rotate_left
              · (intro wS hSw; (try dsimp only at hSw); go_simp; try (with_reducible rfl))
              simp only [Act.put, List.setIfInBounds_toArray, List.set_cons_zero, List.set_cons_succ]
              refine takeT (i := 1) (v := ?_) rfl (by kernel_rfl) (fun _ _ _ h => h) (Or.inl ⟨rfl, ?_⟩) hS ?_
              rotate_left
              · (intro wS hSw; (try dsimp only at hSw); go_simp; try (with_reducible rfl))
              simp only [Act.put, List.setIfInBounds_toArray, List.set_cons_zero, List.set_cons_succ]
              refine takeT (i := 2) (v := ?_) rfl (by kernel_rfl) (fun _ _ _ h => h) (Or.inl ⟨rfl, ?_⟩) hS ?_
              rotate_left
              · (intro wS hSw; (try dsimp only at hSw); go_simp; try (with_reducible rfl))
              simp only [Act.put, List.setIfInBounds_toArray, List.set_cons_zero, List.set_cons_succ]
              refine takeT (i := 3) (v := ?_) rfl (by kernel_rfl) (fun _ _ _ h => h) (Or.inl ⟨rfl, ?_⟩) hS ?_
              rotate_left
              · (intro wS hSw; (try dsimp only at hSw); go_simp; try (with_reducible rfl))
              simp only [Act.put, List.setIfInBounds_toArray, List.set_cons_zero, List.set_cons_succ]
              refine takeT (i := 4) (v := ?_) rfl (by kernel_rfl) (fun _ _ _ h => h) (Or.inl ⟨rfl, ?_⟩) hS ?_
              rotate_left
              · (intro wS hSw; (try dsimp only at hSw); go_simp; try (with_reducible rfl))
              simp only [Act.put, List.setIfInBounds_toArray, List.set_cons_zero, List.set_cons_succ]
              refine takeT (i := 5) (v := ?_) rfl (by kernel_rfl) (fun _ _ _ h => h) (Or.inl ⟨rfl, ?_⟩) hS ?_
              rotate_left
              · (intro wS hSw; (try dsimp only at hSw); go_simp; try (with_reducible rfl))
              simp only [Act.put, List.setIfInBounds_toArray, List.set_cons_zero, List.set_cons_succ]
              refine takeT (i := 6) (v := ?_) rfl (by kernel_rfl) (fun _ _ _ h => h) (Or.inl ⟨rfl, ?_⟩) hS ?_
              rotate_left
              · (intro wS hSw; (try dsimp only at hSw); go_simp; try (with_reducible rfl))
              simp only [Act.put, List.setIfInBounds_toArray, List.set_cons_zero, List.set_cons_succ]
              refine takeT (i := 7) (v := undef) rfl (by kernel_rfl) (fun _ _ _ h => h) (Or.inr ⟨rfl, rfl⟩) hS ?_
              simp only [Act.put, List.setIfInBounds_toArray, List.set_cons_zero, List.set_cons_succ]
              refine takeT (i := 8) (v := undef) rfl (by kernel_rfl) (fun _ _ _ h => h) (Or.inr ⟨rfl, rfl⟩) hS ?_
              simp only [Act.put, List.setIfInBounds_toArray, List.set_cons_zero, List.set_cons_succ]
              refine takeT (i := 9) (v := undef) rfl (by kernel_rfl) (fun _ _ _ h => h) (Or.inr ⟨rfl, rfl⟩) hS ?_
              simp only [Act.put, List.setIfInBounds_toArray, List.set_cons_zero, List.set_cons_succ]
              refine takeT (i := 10) (v := undef) rfl (by kernel_rfl) (fun _ _ _ h => h) (Or.inr ⟨rfl, rfl⟩) hS ?_
              simp only [Act.put, List.setIfInBounds_toArray, List.set_cons_zero, List.set_cons_succ]
              refine takeT (i := 11) (v := undef) rfl (by kernel_rfl) (fun _ _ _ h => h) (Or.inr ⟨rfl, rfl⟩) hS ?_
              simp only [Act.put, List.setIfInBounds_toArray, List.set_cons_zero, List.set_cons_succ]
              refine takeT (i := 12) (v := undef) rfl (by kernel_rfl) (fun _ _ _ h => h) (Or.inr ⟨rfl, rfl⟩) hS ?_
              simp only [Act.put, List.setIfInBounds_toArray, List.set_cons_zero, List.set_cons_succ]
              refine takeT (i := 13) (v := undef) rfl (by kernel_rfl) (fun _ _ _ h => h) (Or.inr ⟨rfl, rfl⟩) hS ?_
              simp only [Act.put, List.setIfInBounds_toArray, List.set_cons_zero, List.set_cons_succ]
              refine takeT (i := 14) (v := undef) rfl (by kernel_rfl) (fun _ _ _ h => h) (Or.inr ⟨rfl, rfl⟩) hS ?_
              simp only [Act.put, List.setIfInBounds_toArray, List.set_cons_zero, List.set_cons_succ]
              refine takeT (i := 15) (v := undef) rfl (by kernel_rfl) (fun _ _ _ h => h) (Or.inr ⟨rfl, rfl⟩) hS ?_
              simp only [Act.put, List.setIfInBounds_toArray, List.set_cons_zero, List.set_cons_succ]
              refine takeT (i := 16) (v := undef) rfl (by kernel_rfl) (fun _ _ _ h => h) (Or.inr ⟨rfl, rfl⟩) hS ?_
              simp only [Act.put, List.setIfInBounds_toArray, List.set_cons_zero, List.set_cons_succ]
              refine takeT (i := 17) (v := ?_) rfl (by kernel_rfl) (fun _ _ _ h => h) (Or.inl ⟨rfl, ?_⟩) hS ?_
              rotate_left
              · (intro wS hSw; (try dsimp only at hSw); go_simp; try (with_reducible rfl))
              simp only [Act.put, List.setIfInBounds_toArray, List.set_cons_zero, List.set_cons_succ]
              refine takeT (i := 18) (v := ?_) rfl (by kernel_rfl) (fun _ _ _ h => h) (Or.inl ⟨rfl, ?_⟩) hS ?_
              rotate_left
              · (intro wS hSw; (try dsimp only at hSw); go_simp; try (with_reducible rfl))
              simp only [Act.put, List.setIfInBounds_toArray, List.set_cons_zero, List.set_cons_succ]
              refine oneT (i := 19) rfl (by kernel_rfl) (fun K hK => ?_)
              go_simp
              refine hK _ _ (fun h => absurd h (by omega)) ?_
              clear hK K
              refine doneT (by kernel_rfl) ?_ _
              go_wp2_with fail
              go_roundg (gk - 1)
              case measure => have := Hgk.out; omega
              case rel =>
                refine ⟨k + 1, nl.set x (true || ((-1) == (-1) + 1)), by go_num, by have := Hgk.out; omega, by simp [Hnl.out], ?_, HN.out.step hlt (Or.inr Hek.out) Hgy.out Hgx.out (by omega) Hbx.out, hb7.drew.setCell (by simp) _⟩
                have := hrn7.drew.set x (.bool (true || ((-1) == (-1) + 1)))
                rwa [← List.map_set] at this
            | false =>
              go_wp2_with fail
              go_quiet (fail)
              go_wp2_with fail
              go_quiet (fail)
              go_wp2_with fail
              generalize hN7 : World.drewN _ _ = wd
              have hbd : Below wb.heap.size wb wd := by subst hN7; exact below_drewN (below_drewN (below_drewN (Below.refl _ _) _) _) _
              have t0 := keep_cell hbd q0; have t1 := keep_cell hbd q1; have t2 := keep_cell hbd q2
              have hrn7 := hrn6.below hbd hrn6.lt
              have hb7 := bl_trans hb6 hbd
              have hfr : ∀ i, wd.frozen? ⟨w4.heap.size, i, none⟩ = false := fun i => hrn7.frozen i
              clear hN7 hbd q0 q1 q2 q3 r0 r1 hrn6 hb6
              refine regionT (fun w' => w'.cell? ⟨gd, y, none⟩ = some (.int .i64 (-1)) ∧ w'.cell? ⟨gd, x, none⟩ = some (.int .i64 (-1)) ∧ w'.cell? ⟨w4.heap.size, x, none⟩ = some (.bool false)) 19 (by kernel_rfl) ?_
              have hS : wd.drew.cell? ⟨gd, y, none⟩ = some (.int .i64 (-1)) ∧ wd.drew.cell? ⟨gd, x, none⟩ = some (.int .i64 (-1)) ∧ wd.drew.cell? ⟨w4.heap.size, x, none⟩ = some (.bool false) := by first | exact ⟨t0, t1, t2⟩ | exact ⟨t1, t0, t2⟩
              refine takeT (i := 0) (v := ?_) rfl (by kernel_rfl) (fun _ _ _ h => h) (Or.inl ⟨rfl, ?_⟩) hS ?_
              rotate_left
              · (intro wS hSw; (try dsimp only at hSw); go_simp; try (with_reducible rfl))
              simp only [Act.put, List.setIfInBounds_toArray, List.set_cons_zero, List.set_cons_succ]
              refine takeT (i := 1) (v := ?_) rfl (by kernel_rfl) (fun _ _ _ h => h) (Or.inl ⟨rfl, ?_⟩) hS ?_
              rotate_left
              · (intro wS hSw; (try dsimp only at hSw); go_simp; try (with_reducible rfl))
              simp only [Act.put, List.setIfInBounds_toArray, List.set_cons_zero, List.set_cons_succ]
              refine takeT (i := 2) (v := ?_) rfl (by kernel_rfl) (fun _ _ _ h => h) (Or.inl ⟨rfl, ?_⟩) hS ?_
              rotate_left
              · (intro wS hSw; (try dsimp only at hSw); go_simp; try (with_reducible rfl))
              simp only [Act.put, List.setIfInBounds_toArray, List.set_cons_zero, List.set_cons_succ]
              refine takeT (i := 3) (v := ?_) rfl (by kernel_rfl) (fun _ _ _ h => h) (Or.inl ⟨rfl, ?_⟩) hS ?_
              rotate_left
              · (intro wS hSw; (try dsimp only at hSw); go_simp; try (with_reducible rfl))
              simp only [Act.put, List.setIfInBounds_toArray, List.set_cons_zero, List.set_cons_succ]
              refine takeT (i := 4) (v := ?_) rfl (by kernel_rfl) (fun _ _ _ h => h) (Or.inl ⟨rfl, ?_⟩) hS ?_
              rotate_left
              · (intro wS hSw; (try dsimp only at hSw); go_simp; try (with_reducible rfl))
              simp only [Act.put, List.setIfInBounds_toArray, List.set_cons_zero, List.set_cons_succ]
              refine takeT (i := 5) (v := ?_) rfl (by kernel_rfl) (fun _ _ _ h => h) (Or.inl ⟨rfl, ?_⟩) hS ?_
              rotate_left
              · (intro wS hSw; (try dsimp only at hSw); go_simp; try (with_reducible rfl))
              simp only [Act.put, List.setIfInBounds_toArray, List.set_cons_zero, List.set_cons_succ]
              refine takeT (i := 6) (v := ?_) rfl (by kernel_rfl) (fun _ _ _ h => h) (Or.inl ⟨rfl, ?_⟩) hS ?_
              rotate_left
              · (intro wS hSw; (try dsimp only at hSw); go_simp; try (with_reducible rfl))
              simp only [Act.put, List.setIfInBounds_toArray, List.set_cons_zero, List.set_cons_succ]
              refine takeT (i := 7) (v := ?_) rfl (by kernel_rfl) (fun _ _ _ h => h) (Or.inl ⟨rfl, ?_⟩) hS ?_
              rotate_left
              · (intro wS hSw; (try dsimp only at hSw); go_simp; try (with_reducible rfl))
              simp only [Act.put, List.setIfInBounds_toArray, List.set_cons_zero, List.set_cons_succ]
              refine takeT (i := 8) (v := ?_) rfl (by kernel_rfl) (fun _ _ _ h => h) (Or.inl ⟨rfl, ?_⟩) hS ?_
              rotate_left
              · (intro wS hSw; (try dsimp only at hSw); go_simp; try (with_reducible rfl))
              simp only [Act.put, List.setIfInBounds_toArray, List.set_cons_zero, List.set_cons_succ]
              refine takeT (i := 9) (v := ?_) rfl (by kernel_rfl) (fun _ _ _ h => h) (Or.inl ⟨rfl, ?_⟩) hS ?_
              rotate_left
              · (intro wS hSw; (try dsimp only at hSw); go_simp; try (with_reducible rfl))
              simp only [Act.put, List.setIfInBounds_toArray, List.set_cons_zero, List.set_cons_succ]
              refine takeT (i := 10) (v := ?_) rfl (by kernel_rfl) (fun _ _ _ h => h) (Or.inl ⟨rfl, ?_⟩) hS ?_
              rotate_left
              · (intro wS hSw; (try dsimp only at hSw); go_simp; try (with_reducible rfl))
              simp only [Act.put, List.setIfInBounds_toArray, List.set_cons_zero, List.set_cons_succ]
              refine takeT (i := 11) (v := ?_) rfl (by kernel_rfl) (fun _ _ _ h => h) (Or.inl ⟨rfl, ?_⟩) hS ?_
              rotate_left
              · (intro wS hSw; (try dsimp only at hSw); go_simp; try (with_reducible rfl))
              simp only [Act.put, List.setIfInBounds_toArray, List.set_cons_zero, List.set_cons_succ]
              refine takeT (i := 12) (v := ?_) rfl (by kernel_rfl) (fun _ _ _ h => h) (Or.inl ⟨rfl, ?_⟩) hS ?_
              rotate_left
              · (intro wS hSw; (try dsimp only at hSw); go_simp; try (with_reducible rfl))
              simp only [Act.put, List.setIfInBounds_toArray, List.set_cons_zero, List.set_cons_succ]
              refine takeT (i := 13) (v := ?_) rfl (by kernel_rfl) (fun _ _ _ h => h) (Or.inl ⟨rfl, ?_⟩) hS ?_
              rotate_left
              · (intro wS hSw; (try dsimp only at hSw); go_simp; try (with_reducible rfl))
              simp only [Act.put, List.setIfInBounds_toArray, List.set_cons_zero, List.set_cons_succ]
              refine takeT (i := 14) (v := ?_) rfl (by kernel_rfl) (fun _ _ _ h => h) (Or.inl ⟨rfl, ?_⟩) hS ?_
              rotate_left
              · (intro wS hSw; (try dsimp only at hSw); go_simp; try (with_reducible rfl))
              simp only [Act.put, List.setIfInBounds_toArray, List.set_cons_zero, List.set_cons_succ]
              refine takeT (i := 15) (v := ?_) rfl (by kernel_rfl) (fun _ _ _ h => h) (Or.inl ⟨rfl, ?_⟩) hS ?_
              rotate_left
              · (intro wS hSw; (try dsimp only at hSw); go_simp; try (with_reducible rfl))
              simp only [Act.put, List.setIfInBounds_toArray, List.set_cons_zero, List.set_cons_succ]
              refine takeT (i := 16) (v := ?_) rfl (by kernel_rfl) (fun _ _ _ h => h) (Or.inl ⟨rfl, ?_⟩) hS ?_
              rotate_left
              · (intro wS hSw; (try dsimp only at hSw); go_simp; try (with_reducible rfl))
              simp only [Act.put, List.setIfInBounds_toArray, List.set_cons_zero, List.set_cons_succ]
              refine takeT (i := 17) (v := ?_) rfl (by kernel_rfl) (fun _ _ _ h => h) (Or.inl ⟨rfl, ?_⟩) hS ?_
              rotate_left
              · (intro wS hSw; (try dsimp only at hSw); go_simp; try (with_reducible rfl))
              simp only [Act.put, List.setIfInBounds_toArray, List.set_cons_zero, List.set_cons_succ]
              refine takeT (i := 18) (v := ?_) rfl (by kernel_rfl) (fun _ _ _ h => h) (Or.inl ⟨rfl, ?_⟩) hS ?_
              rotate_left
              · (intro wS hSw; (try dsimp only at hSw); go_simp; try (with_reducible rfl))
              simp only [Act.put, List.setIfInBounds_toArray, List.set_cons_zero, List.set_cons_succ]
              refine oneT (i := 19) rfl (by kernel_rfl) (fun K hK => ?_)
              go_simp
              refine hK _ _ (fun h => absurd h (by omega)) ?_
              clear hK K
              refine doneT (by kernel_rfl) ?_ _
              go_wp2_with fail
              go_roundg (gk - 1)
              case measure => have := Hgk.out; omega
              case rel =>
                refine ⟨k + 1, nl.set x (false || ((-1) == (-1) + 1)), by go_num, by have := Hgk.out; omega, by simp [Hnl.out], ?_, HN.out.step hlt (Or.inr Hek.out) Hgy.out Hgx.out (by omega) Hbx.out, hb7.drew.setCell (by simp) _⟩
                have := hrn7.drew.set x (.bool (false || ((-1) == (-1) + 1)))
                rwa [← List.map_set] at this
          · have hP0 : 0 ≤ dy := by omega
            have hPb : decide (dy < 0) = false := by simpa using hneg
            have hw : IntKind.i64.wrap (dx - dy) = dx - dy := IntWalk.i64_in _ (by omega)
            have hQ1 : decide (1 < dx - dy) = false := by simp; omega
            have hw2 : IntKind.i64.wrap (dy + 1) = dy + 1 := IntWalk.i64_in _ (by omega)
            cases bx with
            | true =>
              go_wp2_with fail
              go_quiet (fail)
              go_wp2_with fail
              go_quiet (fail)
              go_wp2_with fail
              generalize hN7 : World.drewN _ _ = wd
              have hbd : Below wb.heap.size wb wd := by subst hN7; exact below_drewN (below_drewN (below_drewN (Below.refl _ _) _) _) _
              have t0 := keep_cell hbd q0; have t1 := keep_cell hbd q1; have t2 := keep_cell hbd q2
              have hrn7 := hrn6.below hbd hrn6.lt
              have hb7 := bl_trans hb6 hbd
              have hfr : ∀ i, wd.frozen? ⟨w4.heap.size, i, none⟩ = false := fun i => hrn7.frozen i
              clear hN7 hbd q0 q1 q2 q3 r0 r1 hrn6 hb6
              refine regionT (fun w' => w'.cell? ⟨gd, y, none⟩ = some (.int .i64 dy) ∧ w'.cell? ⟨gd, x, none⟩ = some (.int .i64 dx) ∧ w'.cell? ⟨w4.heap.size, x, none⟩ = some (.bool true)) 19 (by kernel_rfl) ?_
              have hS : wd.drew.cell? ⟨gd, y, none⟩ = some (.int .i64 dy) ∧ wd.drew.cell? ⟨gd, x, none⟩ = some (.int .i64 dx) ∧ wd.drew.cell? ⟨w4.heap.size, x, none⟩ = some (.bool true) := by first | exact ⟨t0, t1, t2⟩ | exact ⟨t1, t0, t2⟩
              refine takeT (i := 0) (v := ?_) rfl (by kernel_rfl) (fun _ _ _ h => h) (Or.inl ⟨rfl, ?_⟩) hS ?_
              rotate_left
              · (intro wS hSw; (try dsimp only at hSw); go_simp; try (with_reducible rfl))
              simp only [Act.put, List.setIfInBounds_toArray, List.set_cons_zero, List.set_cons_succ]
              refine takeT (i := 1) (v := ?_) rfl (by kernel_rfl) (fun _ _ _ h => h) (Or.inl ⟨rfl, ?_⟩) hS ?_
              rotate_left
              · (intro wS hSw; (try dsimp only at hSw); go_simp; try (with_reducible rfl))
              simp only [Act.put, List.setIfInBounds_toArray, List.set_cons_zero, List.set_cons_succ]
              refine takeT (i := 2) (v := ?_) rfl (by kernel_rfl) (fun _ _ _ h => h) (Or.inl ⟨rfl, ?_⟩) hS ?_
              rotate_left
              · (intro wS hSw; (try dsimp only at hSw); go_simp; try (with_reducible rfl))
              simp only [Act.put, List.setIfInBounds_toArray, List.set_cons_zero, List.set_cons_succ]
              refine takeT (i := 3) (v := ?_) rfl (by kernel_rfl) (fun _ _ _ h => h) (Or.inl ⟨rfl, ?_⟩) hS ?_
              rotate_left
              · (intro wS hSw; (try dsimp only at hSw); go_simp; try (with_reducible rfl))
              simp only [Act.put, List.setIfInBounds_toArray, List.set_cons_zero, List.set_cons_succ]
              refine takeT (i := 4) (v := ?_) rfl (by kernel_rfl) (fun _ _ _ h => h) (Or.inl ⟨rfl, ?_⟩) hS ?_
              rotate_left
              · (intro wS hSw; (try dsimp only at hSw); go_simp; try (with_reducible rfl))
              simp only [Act.put, List.setIfInBounds_toArray, List.set_cons_zero, List.set_cons_succ]
              refine takeT (i := 5) (v := ?_) rfl (by kernel_rfl) (fun _ _ _ h => h) (Or.inl ⟨rfl, ?_⟩) hS ?_
              rotate_left
              · (intro wS hSw; (try dsimp only at hSw); go_simp; try (with_reducible rfl))
              simp only [Act.put, List.setIfInBounds_toArray, List.set_cons_zero, List.set_cons_succ]
              refine takeT (i := 6) (v := ?_) rfl (by kernel_rfl) (fun _ _ _ h => h) (Or.inl ⟨rfl, ?_⟩) hS ?_
              rotate_left
              · (intro wS hSw; (try dsimp only at hSw); go_simp; try (with_reducible rfl))
              simp only [Act.put, List.setIfInBounds_toArray, List.set_cons_zero, List.set_cons_succ]
              refine takeT (i := 7) (v := undef) rfl (by kernel_rfl) (fun _ _ _ h => h) (Or.inr ⟨rfl, rfl⟩) hS ?_
              simp only [Act.put, List.setIfInBounds_toArray, List.set_cons_zero, List.set_cons_succ]
              refine takeT (i := 8) (v := undef) rfl (by kernel_rfl) (fun _ _ _ h => h) (Or.inr ⟨rfl, rfl⟩) hS ?_
              simp only [Act.put, List.setIfInBounds_toArray, List.set_cons_zero, List.set_cons_succ]
              refine takeT (i := 9) (v := undef) rfl (by kernel_rfl) (fun _ _ _ h => h) (Or.inr ⟨rfl, rfl⟩) hS ?_
              simp only [Act.put, List.setIfInBounds_toArray, List.set_cons_zero, List.set_cons_succ]
              refine takeT (i := 10) (v := undef) rfl (by kernel_rfl) (fun _ _ _ h => h) (Or.inr ⟨rfl, rfl⟩) hS ?_
              simp only [Act.put, List.setIfInBounds_toArray, List.set_cons_zero, List.set_cons_succ]
              refine takeT (i := 11) (v := undef) rfl (by kernel_rfl) (fun _ _ _ h => h) (Or.inr ⟨rfl, rfl⟩) hS ?_
              simp only [Act.put, List.setIfInBounds_toArray, List.set_cons_zero, List.set_cons_succ]
              refine takeT (i := 12) (v := undef) rfl (by kernel_rfl) (fun _ _ _ h => h) (Or.inr ⟨rfl, rfl⟩) hS ?_
              simp only [Act.put, List.setIfInBounds_toArray, List.set_cons_zero, List.set_cons_succ]
              refine takeT (i := 13) (v := undef) rfl (by kernel_rfl) (fun _ _ _ h => h) (Or.inr ⟨rfl, rfl⟩) hS ?_
              simp only [Act.put, List.setIfInBounds_toArray, List.set_cons_zero, List.set_cons_succ]
              refine takeT (i := 14) (v := undef) rfl (by kernel_rfl) (fun _ _ _ h => h) (Or.inr ⟨rfl, rfl⟩) hS ?_
              simp only [Act.put, List.setIfInBounds_toArray, List.set_cons_zero, List.set_cons_succ]
              refine takeT (i := 15) (v := undef) rfl (by kernel_rfl) (fun _ _ _ h => h) (Or.inr ⟨rfl, rfl⟩) hS ?_
              simp only [Act.put, List.setIfInBounds_toArray, List.set_cons_zero, List.set_cons_succ]
              refine takeT (i := 16) (v := undef) rfl (by kernel_rfl) (fun _ _ _ h => h) (Or.inr ⟨rfl, rfl⟩) hS ?_
              simp only [Act.put, List.setIfInBounds_toArray, List.set_cons_zero, List.set_cons_succ]
              refine takeT (i := 17) (v := ?_) rfl (by kernel_rfl) (fun _ _ _ h => h) (Or.inl ⟨rfl, ?_⟩) hS ?_
              rotate_left
              · (intro wS hSw; (try dsimp only at hSw); go_simp; try (with_reducible rfl))
              simp only [Act.put, List.setIfInBounds_toArray, List.set_cons_zero, List.set_cons_succ]
              refine takeT (i := 18) (v := ?_) rfl (by kernel_rfl) (fun _ _ _ h => h) (Or.inl ⟨rfl, ?_⟩) hS ?_
              rotate_left
              · (intro wS hSw; (try dsimp only at hSw); go_simp; try (with_reducible rfl))
              simp only [Act.put, List.setIfInBounds_toArray, List.set_cons_zero, List.set_cons_succ]
              refine oneT (i := 19) rfl (by kernel_rfl) (fun K hK => ?_)
              go_simp
              refine hK _ _ (fun h => absurd h (by omega)) ?_
              clear hK K
              refine doneT (by kernel_rfl) ?_ _
              go_wp2_with fail
              go_roundg (gk - 1)
              case measure => have := Hgk.out; omega
              case rel =>
                refine ⟨k + 1, nl.set x (true || (dx == dy + 1)), by go_num, by have := Hgk.out; omega, by simp [Hnl.out], ?_, HN.out.step hlt (Or.inr Hek.out) Hgy.out Hgx.out (by omega) Hbx.out, hb7.drew.setCell (by simp) _⟩
                have := hrn7.drew.set x (.bool (true || (dx == dy + 1)))
                rwa [← List.map_set] at this
            | false =>
              go_wp2_with fail
              go_quiet (fail)
              go_wp2_with fail
              go_quiet (fail)
              go_wp2_with fail
              generalize hN7 : World.drewN _ _ = wd
              have hbd : Below wb.heap.size wb wd := by subst hN7; exact below_drewN (below_drewN (below_drewN (Below.refl _ _) _) _) _
              have t0 := keep_cell hbd q0; have t1 := keep_cell hbd q1; have t2 := keep_cell hbd q2
              have hrn7 := hrn6.below hbd hrn6.lt
              have hb7 := bl_trans hb6 hbd
              have hfr : ∀ i, wd.frozen? ⟨w4.heap.size, i, none⟩ = false := fun i => hrn7.frozen i
              clear hN7 hbd q0 q1 q2 q3 r0 r1 hrn6 hb6
              refine regionT (fun w' => w'.cell? ⟨gd, y, none⟩ = some (.int .i64 dy) ∧ w'.cell? ⟨gd, x, none⟩ = some (.int .i64 dx) ∧ w'.cell? ⟨w4.heap.size, x, none⟩ = some (.bool false)) 19 (by kernel_rfl) ?_
              have hS : wd.drew.cell? ⟨gd, y, none⟩ = some (.int .i64 dy) ∧ wd.drew.cell? ⟨gd, x, none⟩ = some (.int .i64 dx) ∧ wd.drew.cell? ⟨w4.heap.size, x, none⟩ = some (.bool false) := by first | exact ⟨t0, t1, t2⟩ | exact ⟨t1, t0, t2⟩
              refine takeT (i := 0) (v := ?_) rfl (by kernel_rfl) (fun _ _ _ h => h) (Or.inl ⟨rfl, ?_⟩) hS ?_
              rotate_left
              · (intro wS hSw; (try dsimp only at hSw); go_simp; try (with_reducible rfl))
              simp only [Act.put, List.setIfInBounds_toArray, List.set_cons_zero, List.set_cons_succ]
              refine takeT (i := 1) (v := ?_) rfl (by kernel_rfl) (fun _ _ _ h => h) (Or.inl ⟨rfl, ?_⟩) hS ?_
              rotate_left
              · (intro wS hSw; (try dsimp only at hSw); go_simp; try (with_reducible rfl))
              simp only [Act.put, List.setIfInBounds_toArray, List.set_cons_zero, List.set_cons_succ]
              refine takeT (i := 2) (v := ?_) rfl (by kernel_rfl) (fun _ _ _ h => h) (Or.inl ⟨rfl, ?_⟩) hS ?_
              rotate_left
              · (intro wS hSw; (try dsimp only at hSw); go_simp; try (with_reducible rfl))
              simp only [Act.put, List.setIfInBounds_toArray, List.set_cons_zero, List.set_cons_succ]
              refine takeT (i := 3) (v := ?_) rfl (by kernel_rfl) (fun _ _ _ h => h) (Or.inl ⟨rfl, ?_⟩) hS ?_
              rotate_left
              · (intro wS hSw; (try dsimp only at hSw); go_simp; try (with_reducible rfl))
              simp only [Act.put, List.setIfInBounds_toArray, List.set_cons_zero, List.set_cons_succ]
              refine takeT (i := 4) (v := ?_) rfl (by kernel_rfl) (fun _ _ _ h => h) (Or.inl ⟨rfl, ?_⟩) hS ?_
              rotate_left
              · (intro wS hSw; (try dsimp only at hSw); go_simp; try (with_reducible rfl))
              simp only [Act.put, List.setIfInBounds_toArray, List.set_cons_zero, List.set_cons_succ]
              refine takeT (i := 5) (v := ?_) rfl (by kernel_rfl) (fun _ _ _ h => h) (Or.inl ⟨rfl, ?_⟩) hS ?_
              rotate_left
              · (intro wS hSw; (try dsimp only at hSw); go_simp; try (with_reducible rfl))
              simp only [Act.put, List.setIfInBounds_toArray, List.set_cons_zero, List.set_cons_succ]
              refine takeT (i := 6) (v := ?_) rfl (by kernel_rfl) (fun _ _ _ h => h) (Or.inl ⟨rfl, ?_⟩) hS ?_
              rotate_left
              · (intro wS hSw; (try dsimp only at hSw); go_simp; try (with_reducible rfl))
              simp only [Act.put, List.setIfInBounds_toArray, List.set_cons_zero, List.set_cons_succ]
              refine takeT (i := 7) (v := ?_) rfl (by kernel_rfl) (fun _ _ _ h => h) (Or.inl ⟨rfl, ?_⟩) hS ?_
              rotate_left
              · (intro wS hSw; (try dsimp only at hSw); go_simp; try (with_reducible rfl))
              simp only [Act.put, List.setIfInBounds_toArray, List.set_cons_zero, List.set_cons_succ]
              refine takeT (i := 8) (v := ?_) rfl (by kernel_rfl) (fun _ _ _ h => h) (Or.inl ⟨rfl, ?_⟩) hS ?_
              rotate_left
              · (intro wS hSw; (try dsimp only at hSw); go_simp; try (with_reducible rfl))
              simp only [Act.put, List.setIfInBounds_toArray, List.set_cons_zero, List.set_cons_succ]
              refine takeT (i := 9) (v := ?_) rfl (by kernel_rfl) (fun _ _ _ h => h) (Or.inl ⟨rfl, ?_⟩) hS ?_
              rotate_left
              · (intro wS hSw; (try dsimp only at hSw); go_simp; try (with_reducible rfl))
              simp only [Act.put, List.setIfInBounds_toArray, List.set_cons_zero, List.set_cons_succ]
              refine takeT (i := 10) (v := ?_) rfl (by kernel_rfl) (fun _ _ _ h => h) (Or.inl ⟨rfl, ?_⟩) hS ?_
              rotate_left
              · (intro wS hSw; (try dsimp only at hSw); go_simp; try (with_reducible rfl))
              simp only [Act.put, List.setIfInBounds_toArray, List.set_cons_zero, List.set_cons_succ]
              refine takeT (i := 11) (v := ?_) rfl (by kernel_rfl) (fun _ _ _ h => h) (Or.inl ⟨rfl, ?_⟩) hS ?_
              rotate_left
              · (intro wS hSw; (try dsimp only at hSw); go_simp; try (with_reducible rfl))
              simp only [Act.put, List.setIfInBounds_toArray, List.set_cons_zero, List.set_cons_succ]
              refine takeT (i := 12) (v := ?_) rfl (by kernel_rfl) (fun _ _ _ h => h) (Or.inl ⟨rfl, ?_⟩) hS ?_
              rotate_left
              · (intro wS hSw; (try dsimp only at hSw); go_simp; try (with_reducible rfl))
              simp only [Act.put, List.setIfInBounds_toArray, List.set_cons_zero, List.set_cons_succ]
              refine takeT (i := 13) (v := ?_) rfl (by kernel_rfl) (fun _ _ _ h => h) (Or.inl ⟨rfl, ?_⟩) hS ?_
              rotate_left
              · (intro wS hSw; (try dsimp only at hSw); go_simp; try (with_reducible rfl))
              simp only [Act.put, List.setIfInBounds_toArray, List.set_cons_zero, List.set_cons_succ]
              refine takeT (i := 14) (v := ?_) rfl (by kernel_rfl) (fun _ _ _ h => h) (Or.inl ⟨rfl, ?_⟩) hS ?_
              rotate_left
              · (intro wS hSw; (try dsimp only at hSw); go_simp; try (with_reducible rfl))
              simp only [Act.put, List.setIfInBounds_toArray, List.set_cons_zero, List.set_cons_succ]
              refine takeT (i := 15) (v := ?_) rfl (by kernel_rfl) (fun _ _ _ h => h) (Or.inl ⟨rfl, ?_⟩) hS ?_
              rotate_left
              · (intro wS hSw; (try dsimp only at hSw); go_simp; try (with_reducible rfl))
              simp only [Act.put, List.setIfInBounds_toArray, List.set_cons_zero, List.set_cons_succ]
              refine takeT (i := 16) (v := ?_) rfl (by kernel_rfl) (fun _ _ _ h => h) (Or.inl ⟨rfl, ?_⟩) hS ?_
              rotate_left
              · (intro wS hSw; (try dsimp only at hSw); go_simp; try (with_reducible rfl))
              simp only [Act.put, List.setIfInBounds_toArray, List.set_cons_zero, List.set_cons_succ]
              refine takeT (i := 17) (v := ?_) rfl (by kernel_rfl) (fun _ _ _ h => h) (Or.inl ⟨rfl, ?_⟩) hS ?_
              rotate_left
              · (intro wS hSw; (try dsimp only at hSw); go_simp; try (with_reducible rfl))
              simp only [Act.put, List.setIfInBounds_toArray, List.set_cons_zero, List.set_cons_succ]
              refine takeT (i := 18) (v := ?_) rfl (by kernel_rfl) (fun _ _ _ h => h) (Or.inl ⟨rfl, ?_⟩) hS ?_
              rotate_left
              · (intro wS hSw; (try dsimp only at hSw); go_simp; try (with_reducible rfl))
              simp only [Act.put, List.setIfInBounds_toArray, List.set_cons_zero, List.set_cons_succ]
              refine oneT (i := 19) rfl (by kernel_rfl) (fun K hK => ?_)
              go_simp
              refine hK _ _ (fun h => absurd h (by omega)) ?_
              clear hK K
              refine doneT (by kernel_rfl) ?_ _
              go_wp2_with fail
              go_roundg (gk - 1)
              case measure => have := Hgk.out; omega
              case rel =>
                refine ⟨k + 1, nl.set x (false || (dx == dy + 1)), by go_num, by have := Hgk.out; omega, by simp [Hnl.out], ?_, HN.out.step hlt (Or.inr Hek.out) Hgy.out Hgx.out (by omega) Hbx.out, hb7.drew.setCell (by simp) _⟩
                have := hrn7.drew.set x (.bool (false || (dx == dy + 1)))
                rwa [← List.map_set] at this
        · have hsb : decide (dy < dx) = false := by simpa using hsw
          by_cases hneg : dx < 0
          · have hP : dx = -1 := by omega
            have hQ : dy = -1 := by omega
            subst hP; subst hQ
            cases by_ with
            | true =>
              go_wp2_with fail
              go_quiet (fail)
              go_wp2_with fail
              go_quiet (fail)
              go_wp2_with fail
              generalize hN7 : World.drewN _ _ = wd
              have hbd : Below wb.heap.size wb wd := by subst hN7; exact below_drewN (below_drewN (below_drewN (Below.refl _ _) _) _) _
              have t0 := keep_cell hbd q0; have t1 := keep_cell hbd q1; have t2 := keep_cell hbd q3
              have hrn7 := hrn6.below hbd hrn6.lt
              have hb7 := bl_trans hb6 hbd
              have hfr : ∀ i, wd.frozen? ⟨w4.heap.size, i, none⟩ = false := fun i => hrn7.frozen i
              clear hN7 hbd q0 q1 q2 q3 r0 r1 hrn6 hb6
              refine regionT (fun w' => w'.cell? ⟨gd, x, none⟩ = some (.int .i64 (-1)) ∧ w'.cell? ⟨gd, y, none⟩ = some (.int .i64 (-1)) ∧ w'.cell? ⟨w4.heap.size, y, none⟩ = some (.bool true)) 19 (by kernel_rfl) ?_
              have hS : wd.drew.cell? ⟨gd, x, none⟩ = some (.int .i64 (-1)) ∧ wd.drew.cell? ⟨gd, y, none⟩ = some (.int .i64 (-1)) ∧ wd.drew.cell? ⟨w4.heap.size, y, none⟩ = some (.bool true) := by first | exact ⟨t0, t1, t2⟩ | exact ⟨t1, t0, t2⟩
              refine takeT (i := 0) (v := ?_) rfl (by kernel_rfl) (fun _ _ _ h => h) (Or.inl ⟨rfl, ?_⟩) hS ?_
              rotate_left
              · (intro wS hSw; (try dsimp only at hSw); go_simp; try (with_reducible rfl))
              simp only [Act.put, List.setIfInBounds_toArray, List.set_cons_zero, List.set_cons_succ]
              refine takeT (i := 1) (v := ?_) rfl (by kernel_rfl) (fun _ _ _ h => h) (Or.inl ⟨rfl, ?_⟩) hS ?_
              rotate_left
              · (intro wS hSw; (try dsimp only at hSw); go_simp; try (with_reducible rfl))
              simp only [Act.put, List.setIfInBounds_toArray, List.set_cons_zero, List.set_cons_succ]
              refine takeT (i := 2) (v := ?_) rfl (by kernel_rfl) (fun _ _ _ h => h) (Or.inl ⟨rfl, ?_⟩) hS ?_
              rotate_left
              · (intro wS hSw; (try dsimp only at hSw); go_simp; try (with_reducible rfl))
              simp only [Act.put, List.setIfInBounds_toArray, List.set_cons_zero, List.set_cons_succ]
              refine takeT (i := 3) (v := ?_) rfl (by kernel_rfl) (fun _ _ _ h => h) (Or.inl ⟨rfl, ?_⟩) hS ?_
              rotate_left
              · (intro wS hSw; (try dsimp only at hSw); go_simp; try (with_reducible rfl))
              simp only [Act.put, List.setIfInBounds_toArray, List.set_cons_zero, List.set_cons_succ]
              refine takeT (i := 4) (v := ?_) rfl (by kernel_rfl) (fun _ _ _ h => h) (Or.inl ⟨rfl, ?_⟩) hS ?_
              rotate_left
              · (intro wS hSw; (try dsimp only at hSw); go_simp; try (with_reducible rfl))
              simp only [Act.put, List.setIfInBounds_toArray, List.set_cons_zero, List.set_cons_succ]
              refine takeT (i := 5) (v := ?_) rfl (by kernel_rfl) (fun _ _ _ h => h) (Or.inl ⟨rfl, ?_⟩) hS ?_
              rotate_left
              · (intro wS hSw; (try dsimp only at hSw); go_simp; try (with_reducible rfl))
              simp only [Act.put, List.setIfInBounds_toArray, List.set_cons_zero, List.set_cons_succ]
              refine takeT (i := 6) (v := ?_) rfl (by kernel_rfl) (fun _ _ _ h => h) (Or.inl ⟨rfl, ?_⟩) hS ?_
              rotate_left
              · (intro wS hSw; (try dsimp only at hSw); go_simp; try (with_reducible rfl))
              simp only [Act.put, List.setIfInBounds_toArray, List.set_cons_zero, List.set_cons_succ]
              refine takeT (i := 7) (v := undef) rfl (by kernel_rfl) (fun _ _ _ h => h) (Or.inr ⟨rfl, rfl⟩) hS ?_
              simp only [Act.put, List.setIfInBounds_toArray, List.set_cons_zero, List.set_cons_succ]
              refine takeT (i := 8) (v := undef) rfl (by kernel_rfl) (fun _ _ _ h => h) (Or.inr ⟨rfl, rfl⟩) hS ?_
              simp only [Act.put, List.setIfInBounds_toArray, List.set_cons_zero, List.set_cons_succ]
              refine takeT (i := 9) (v := undef) rfl (by kernel_rfl) (fun _ _ _ h => h) (Or.inr ⟨rfl, rfl⟩) hS ?_
              simp only [Act.put, List.setIfInBounds_toArray, List.set_cons_zero, List.set_cons_succ]
              refine takeT (i := 10) (v := undef) rfl (by kernel_rfl) (fun _ _ _ h => h) (Or.inr ⟨rfl, rfl⟩) hS ?_
              simp only [Act.put, List.setIfInBounds_toArray, List.set_cons_zero, List.set_cons_succ]
              refine takeT (i := 11) (v := undef) rfl (by kernel_rfl) (fun _ _ _ h => h) (Or.inr ⟨rfl, rfl⟩) hS ?_
              simp only [Act.put, List.setIfInBounds_toArray, List.set_cons_zero, List.set_cons_succ]
              refine takeT (i := 12) (v := undef) rfl (by kernel_rfl) (fun _ _ _ h => h) (Or.inr ⟨rfl, rfl⟩) hS ?_
              simp only [Act.put, List.setIfInBounds_toArray, List.set_cons_zero, List.set_cons_succ]
              refine takeT (i := 13) (v := undef) rfl (by kernel_rfl) (fun _ _ _ h => h) (Or.inr ⟨rfl, rfl⟩) hS ?_
              simp only [Act.put, List.setIfInBounds_toArray, List.set_cons_zero, List.set_cons_succ]
              refine takeT (i := 14) (v := undef) rfl (by kernel_rfl) (fun _ _ _ h => h) (Or.inr ⟨rfl, rfl⟩) hS ?_
              simp only [Act.put, List.setIfInBounds_toArray, List.set_cons_zero, List.set_cons_succ]
              refine takeT (i := 15) (v := undef) rfl (by kernel_rfl) (fun _ _ _ h => h) (Or.inr ⟨rfl, rfl⟩) hS ?_
              simp only [Act.put, List.setIfInBounds_toArray, List.set_cons_zero, List.set_cons_succ]
              refine takeT (i := 16) (v := undef) rfl (by kernel_rfl) (fun _ _ _ h => h) (Or.inr ⟨rfl, rfl⟩) hS ?_
              simp only [Act.put, List.setIfInBounds_toArray, List.set_cons_zero, List.set_cons_succ]
              refine takeT (i := 17) (v := ?_) rfl (by kernel_rfl) (fun _ _ _ h => h) (Or.inl ⟨rfl, ?_⟩) hS ?_
              rotate_left
              · (intro wS hSw; (try dsimp only at hSw); go_simp; try (with_reducible rfl))
              simp only [Act.put, List.setIfInBounds_toArray, List.set_cons_zero, List.set_cons_succ]
              refine takeT (i := 18) (v := ?_) rfl (by kernel_rfl) (fun _ _ _ h => h) (Or.inl ⟨rfl, ?_⟩) hS ?_
              rotate_left
              · (intro wS hSw; (try dsimp only at hSw); go_simp; try (with_reducible rfl))
              simp only [Act.put, List.setIfInBounds_toArray, List.set_cons_zero, List.set_cons_succ]
              refine oneT (i := 19) rfl (by kernel_rfl) (fun K hK => ?_)
              go_simp
              refine hK _ _ (fun h => absurd h (by omega)) ?_
              clear hK K
              refine doneT (by kernel_rfl) ?_ _
              go_wp2_with fail
              go_roundg (gk - 1)
              case measure => have := Hgk.out; omega
              case rel =>
                refine ⟨k + 1, nl.set y (true || ((-1) == (-1) + 1)), by go_num, by have := Hgk.out; omega, by simp [Hnl.out], ?_, HN.out.step hlt (Or.inl Hek.out) Hgx.out Hgy.out (by omega) Hby.out, hb7.drew.setCell (by simp) _⟩
                have := hrn7.drew.set y (.bool (true || ((-1) == (-1) + 1)))
                rwa [← List.map_set] at this
            | false =>
              go_wp2_with fail
              go_quiet (fail)
              go_wp2_with fail
              go_quiet (fail)
              go_wp2_with fail
              generalize hN7 : World.drewN _ _ = wd
              have hbd : Below wb.heap.size wb wd := by subst hN7; exact below_drewN (below_drewN (below_drewN (Below.refl _ _) _) _) _
              have t0 := keep_cell hbd q0; have t1 := keep_cell hbd q1; have t2 := keep_cell hbd q3
              have hrn7 := hrn6.below hbd hrn6.lt
              have hb7 := bl_trans hb6 hbd
              have hfr : ∀ i, wd.frozen? ⟨w4.heap.size, i, none⟩ = false := fun i => hrn7.frozen i
              clear hN7 hbd q0 q1 q2 q3 r0 r1 hrn6 hb6
              refine regionT (fun w' => w'.cell? ⟨gd, x, none⟩ = some (.int .i64 (-1)) ∧ w'.cell? ⟨gd, y, none⟩ = some (.int .i64 (-1)) ∧ w'.cell? ⟨w4.heap.size, y, none⟩ = some (.bool false)) 19 (by kernel_rfl) ?_
              have hS : wd.drew.cell? ⟨gd, x, none⟩ = some (.int .i64 (-1)) ∧ wd.drew.cell? ⟨gd, y, none⟩ = some (.int .i64 (-1)) ∧ wd.drew.cell? ⟨w4.heap.size, y, none⟩ = some (.bool false) := by first | exact ⟨t0, t1, t2⟩ | exact ⟨t1, t0, t2⟩
              refine takeT (i := 0) (v := ?_) rfl (by kernel_rfl) (fun _ _ _ h => h) (Or.inl ⟨rfl, ?_⟩) hS ?_
              rotate_left
              · (intro wS hSw; (try dsimp only at hSw); go_simp; try (with_reducible rfl))
              simp only [Act.put, List.setIfInBounds_toArray, List.set_cons_zero, List.set_cons_succ]
              refine takeT (i := 1) (v := ?_) rfl (by kernel_rfl) (fun _ _ _ h => h) (Or.inl ⟨rfl, ?_⟩) hS ?_
              rotate_left
              · (intro wS hSw; (try dsimp only at hSw); go_simp; try (with_reducible rfl))
              simp only [Act.put, List.setIfInBounds_toArray, List.set_cons_zero, List.set_cons_succ]
              refine takeT (i := 2) (v := ?_) rfl (by kernel_rfl) (fun _ _ _ h => h) (Or.inl ⟨rfl, ?_⟩) hS ?_
              rotate_left
              · (intro wS hSw; (try dsimp only at hSw); go_simp; try (with_reducible rfl))
              simp only [Act.put, List.setIfInBounds_toArray, List.set_cons_zero, List.set_cons_succ]
              refine takeT (i := 3) (v := ?_) rfl (by kernel_rfl) (fun _ _ _ h => h) (Or.inl ⟨rfl, ?_⟩) hS ?_
              rotate_left
              · (intro wS hSw; (try dsimp only at hSw); go_simp; try (with_reducible rfl))
              simp only [Act.put, List.setIfInBounds_toArray, List.set_cons_zero, List.set_cons_succ]
              refine takeT (i := 4) (v := ?_) rfl (by kernel_rfl) (fun _ _ _ h => h) (Or.inl ⟨rfl, ?_⟩) hS ?_
              rotate_left
              · (intro wS hSw; (try dsimp only at hSw); go_simp; try (with_reducible rfl))
              simp only [Act.put, List.setIfInBounds_toArray, List.set_cons_zero, List.set_cons_succ]
              refine takeT (i := 5) (v := ?_) rfl (by kernel_rfl) (fun _ _ _ h => h) (Or.inl ⟨rfl, ?_⟩) hS ?_
              rotate_left
              · (intro wS hSw; (try dsimp only at hSw); go_simp; try (with_reducible rfl))
              simp only [Act.put, List.setIfInBounds_toArray, List.set_cons_zero, List.set_cons_succ]
              refine takeT (i := 6) (v := ?_) rfl (by kernel_rfl) (fun _ _ _ h => h) (Or.inl ⟨rfl, ?_⟩) hS ?_
              rotate_left
              · (intro wS hSw; (try dsimp only at hSw); go_simp; try (with_reducible rfl))
              simp only [Act.put, List.setIfInBounds_toArray, List.set_cons_zero, List.set_cons_succ]
              refine takeT (i := 7) (v := ?_) rfl (by kernel_rfl) (fun _ _ _ h => h) (Or.inl ⟨rfl, ?_⟩) hS ?_
              rotate_left
              · (intro wS hSw; (try dsimp only at hSw); go_simp; try (with_reducible rfl))
              simp only [Act.put, List.setIfInBounds_toArray, List.set_cons_zero, List.set_cons_succ]
              refine takeT (i := 8) (v := ?_) rfl (by kernel_rfl) (fun _ _ _ h => h) (Or.inl ⟨rfl, ?_⟩) hS ?_
              rotate_left
              · (intro wS hSw; (try dsimp only at hSw); go_simp; try (with_reducible rfl))
              simp only [Act.put, List.setIfInBounds_toArray, List.set_cons_zero, List.set_cons_succ]
              refine takeT (i := 9) (v := ?_) rfl (by kernel_rfl) (fun _ _ _ h => h) (Or.inl ⟨rfl, ?_⟩) hS ?_
              rotate_left
              · (intro wS hSw; (try dsimp only at hSw); go_simp; try (with_reducible rfl))
              simp only [Act.put, List.setIfInBounds_toArray, List.set_cons_zero, List.set_cons_succ]
              refine takeT (i := 10) (v := ?_) rfl (by kernel_rfl) (fun _ _ _ h => h) (Or.inl ⟨rfl, ?_⟩) hS ?_
              rotate_left
              · (intro wS hSw; (try dsimp only at hSw); go_simp; try (with_reducible rfl))
              simp only [Act.put, List.setIfInBounds_toArray, List.set_cons_zero, List.set_cons_succ]
              refine takeT (i := 11) (v := ?_) rfl (by kernel_rfl) (fun _ _ _ h => h) (Or.inl ⟨rfl, ?_⟩) hS ?_
              rotate_left
              · (intro wS hSw; (try dsimp only at hSw); go_simp; try (with_reducible rfl))
              simp only [Act.put, List.setIfInBounds_toArray, List.set_cons_zero, List.set_cons_succ]
              refine takeT (i := 12) (v := ?_) rfl (by kernel_rfl) (fun _ _ _ h => h) (Or.inl ⟨rfl, ?_⟩) hS ?_
              rotate_left
              · (intro wS hSw; (try dsimp only at hSw); go_simp; try (with_reducible rfl))
              simp only [Act.put, List.setIfInBounds_toArray, List.set_cons_zero, List.set_cons_succ]
              refine takeT (i := 13) (v := ?_) rfl (by kernel_rfl) (fun _ _ _ h => h) (Or.inl ⟨rfl, ?_⟩) hS ?_
              rotate_left
              · (intro wS hSw; (try dsimp only at hSw); go_simp; try (with_reducible rfl))
              simp only [Act.put, List.setIfInBounds_toArray, List.set_cons_zero, List.set_cons_succ]
              refine takeT (i := 14) (v := ?_) rfl (by kernel_rfl) (fun _ _ _ h => h) (Or.inl ⟨rfl, ?_⟩) hS ?_
              rotate_left
              · (intro wS hSw; (try dsimp only at hSw); go_simp; try (with_reducible rfl))
              simp only [Act.put, List.setIfInBounds_toArray, List.set_cons_zero, List.set_cons_succ]
              refine takeT (i := 15) (v := ?_) rfl (by kernel_rfl) (fun _ _ _ h => h) (Or.inl ⟨rfl, ?_⟩) hS ?_
              rotate_left
              · (intro wS hSw; (try dsimp only at hSw); go_simp; try (with_reducible rfl))
              simp only [Act.put, List.setIfInBounds_toArray, List.set_cons_zero, List.set_cons_succ]
              refine takeT (i := 16) (v := ?_) rfl (by kernel_rfl) (fun _ _ _ h => h) (Or.inl ⟨rfl, ?_⟩) hS ?_
              rotate_left
              · (intro wS hSw; (try dsimp only at hSw); go_simp; try (with_reducible rfl))
              simp only [Act.put, List.setIfInBounds_toArray, List.set_cons_zero, List.set_cons_succ]
              refine takeT (i := 17) (v := ?_) rfl (by kernel_rfl) (fun _ _ _ h => h) (Or.inl ⟨rfl, ?_⟩) hS ?_
              rotate_left
              · (intro wS hSw; (try dsimp only at hSw); go_simp; try (with_reducible rfl))
              simp only [Act.put, List.setIfInBounds_toArray, List.set_cons_zero, List.set_cons_succ]
              refine takeT (i := 18) (v := ?_) rfl (by kernel_rfl) (fun _ _ _ h => h) (Or.inl ⟨rfl, ?_⟩) hS ?_
              rotate_left
              · (intro wS hSw; (try dsimp only at hSw); go_simp; try (with_reducible rfl))
              simp only [Act.put, List.setIfInBounds_toArray, List.set_cons_zero, List.set_cons_succ]
              refine oneT (i := 19) rfl (by kernel_rfl) (fun K hK => ?_)
              go_simp
              refine hK _ _ (fun h => absurd h (by omega)) ?_
              clear hK K
              refine doneT (by kernel_rfl) ?_ _
              go_wp2_with fail
              go_roundg (gk - 1)
              case measure => have := Hgk.out; omega
              case rel =>
                refine ⟨k + 1, nl.set y (false || ((-1) == (-1) + 1)), by go_num, by have := Hgk.out; omega, by simp [Hnl.out], ?_, HN.out.step hlt (Or.inl Hek.out) Hgx.out Hgy.out (by omega) Hby.out, hb7.drew.setCell (by simp) _⟩
                have := hrn7.drew.set y (.bool (false || ((-1) == (-1) + 1)))
                rwa [← List.map_set] at this
          · have hP0 : 0 ≤ dx := by omega
            have hPb : decide (dx < 0) = false := by simpa using hneg
            have hw : IntKind.i64.wrap (dy - dx) = dy - dx := IntWalk.i64_in _ (by omega)
            have hQ1 : decide (1 < dy - dx) = false := by simp; omega
            have hw2 : IntKind.i64.wrap (dx + 1) = dx + 1 := IntWalk.i64_in _ (by omega)
            cases by_ with
            | true =>
              go_wp2_with fail
              go_quiet (fail)
              go_wp2_with fail
              go_quiet (fail)
              go_wp2_with fail
              generalize hN7 : World.drewN _ _ = wd
              have hbd : Below wb.heap.size wb wd := by subst hN7; exact below_drewN (below_drewN (below_drewN (Below.refl _ _) _) _) _
              have t0 := keep_cell hbd q0; have t1 := keep_cell hbd q1; have t2 := keep_cell hbd q3
              have hrn7 := hrn6.below hbd hrn6.lt
              have hb7 := bl_trans hb6 hbd
              have hfr : ∀ i, wd.frozen? ⟨w4.heap.size, i, none⟩ = false := fun i => hrn7.frozen i
              clear hN7 hbd q0 q1 q2 q3 r0 r1 hrn6 hb6
              refine regionT (fun w' => w'.cell? ⟨gd, x, none⟩ = some (.int .i64 dx) ∧ w'.cell? ⟨gd, y, none⟩ = some (.int .i64 dy) ∧ w'.cell? ⟨w4.heap.size, y, none⟩ = some (.bool true)) 19 (by kernel_rfl) ?_
              have hS : wd.drew.cell? ⟨gd, x, none⟩ = some (.int .i64 dx) ∧ wd.drew.cell? ⟨gd, y, none⟩ = some (.int .i64 dy) ∧ wd.drew.cell? ⟨w4.heap.size, y, none⟩ = some (.bool true) := by first | exact ⟨t0, t1, t2⟩ | exact ⟨t1, t0, t2⟩
              refine takeT (i := 0) (v := ?_) rfl (by kernel_rfl) (fun _ _ _ h => h) (Or.inl ⟨rfl, ?_⟩) hS ?_
              rotate_left
              · (intro wS hSw; (try dsimp only at hSw); go_simp; try (with_reducible rfl))
              simp only [Act.put, List.setIfInBounds_toArray, List.set_cons_zero, List.set_cons_succ]
              refine takeT (i := 1) (v := ?_) rfl (by kernel_rfl) (fun _ _ _ h => h) (Or.inl ⟨rfl, ?_⟩) hS ?_
              rotate_left
              · (intro wS hSw; (try dsimp only at hSw); go_simp; try (with_reducible rfl))
              simp only [Act.put, List.setIfInBounds_toArray, List.set_cons_zero, List.set_cons_succ]
              refine takeT (i := 2) (v := ?_) rfl (by kernel_rfl) (fun _ _ _ h => h) (Or.inl ⟨rfl, ?_⟩) hS ?_
              rotate_left
              · (intro wS hSw; (try dsimp only at hSw); go_simp; try (with_reducible rfl))
              simp only [Act.put, List.setIfInBounds_toArray, List.set_cons_zero, List.set_cons_succ]
              refine takeT (i := 3) (v := ?_) rfl (by kernel_rfl) (fun _ _ _ h => h) (Or.inl ⟨rfl, ?_⟩) hS ?_
              rotate_left
              · (intro wS hSw; (try dsimp only at hSw); go_simp; try (with_reducible rfl))
              simp only [Act.put, List.setIfInBounds_toArray, List.set_cons_zero, List.set_cons_succ]
              refine takeT (i := 4) (v := ?_) rfl (by kernel_rfl) (fun _ _ _ h => h) (Or.inl ⟨rfl, ?_⟩) hS ?_
              rotate_left
              · (intro wS hSw; (try dsimp only at hSw); go_simp; try (with_reducible rfl))
              simp only [Act.put, List.setIfInBounds_toArray, List.set_cons_zero, List.set_cons_succ]
              refine takeT (i := 5) (v := ?_) rfl (by kernel_rfl) (fun _ _ _ h => h) (Or.inl ⟨rfl, ?_⟩) hS ?_
              rotate_left
              · (intro wS hSw; (try dsimp only at hSw); go_simp; try (with_reducible rfl))
              simp only [Act.put, List.setIfInBounds_toArray, List.set_cons_zero, List.set_cons_succ]
              refine takeT (i := 6) (v := ?_) rfl (by kernel_rfl) (fun _ _ _ h => h) (Or.inl ⟨rfl, ?_⟩) hS ?_
              rotate_left
              · (intro wS hSw; (try dsimp only at hSw); go_simp; try (with_reducible rfl))
              simp only [Act.put, List.setIfInBounds_toArray, List.set_cons_zero, List.set_cons_succ]
              refine takeT (i := 7) (v := undef) rfl (by kernel_rfl) (fun _ _ _ h => h) (Or.inr ⟨rfl, rfl⟩) hS ?_
              simp only [Act.put, List.setIfInBounds_toArray, List.set_cons_zero, List.set_cons_succ]
              refine takeT (i := 8) (v := undef) rfl (by kernel_rfl) (fun _ _ _ h => h) (Or.inr ⟨rfl, rfl⟩) hS ?_
              simp only [Act.put, List.setIfInBounds_toArray, List.set_cons_zero, List.set_cons_succ]
              refine takeT (i := 9) (v := undef) rfl (by kernel_rfl) (fun _ _ _ h => h) (Or.inr ⟨rfl, rfl⟩) hS ?_
              simp only [Act.put, List.setIfInBounds_toArray, List.set_cons_zero, List.set_cons_succ]
              refine takeT (i := 10) (v := undef) rfl (by kernel_rfl) (fun _ _ _ h => h) (Or.inr ⟨rfl, rfl⟩) hS ?_
              simp only [Act.put, List.setIfInBounds_toArray, List.set_cons_zero, List.set_cons_succ]
              refine takeT (i := 11) (v := undef) rfl (by kernel_rfl) (fun _ _ _ h => h) (Or.inr ⟨rfl, rfl⟩) hS ?_
              simp only [Act.put, List.setIfInBounds_toArray, List.set_cons_zero, List.set_cons_succ]
              refine takeT (i := 12) (v := undef) rfl (by kernel_rfl) (fun _ _ _ h => h) (Or.inr ⟨rfl, rfl⟩) hS ?_
              simp only [Act.put, List.setIfInBounds_toArray, List.set_cons_zero, List.set_cons_succ]
              refine takeT (i := 13) (v := undef) rfl (by kernel_rfl) (fun _ _ _ h => h) (Or.inr ⟨rfl, rfl⟩) hS ?_
              simp only [Act.put, List.setIfInBounds_toArray, List.set_cons_zero, List.set_cons_succ]
              refine takeT (i := 14) (v := undef) rfl (by kernel_rfl) (fun _ _ _ h => h) (Or.inr ⟨rfl, rfl⟩) hS ?_
              simp only [Act.put, List.setIfInBounds_toArray, List.set_cons_zero, List.set_cons_succ]
              refine takeT (i := 15) (v := undef) rfl (by kernel_rfl) (fun _ _ _ h => h) (Or.inr ⟨rfl, rfl⟩) hS ?_
              simp only [Act.put, List.setIfInBounds_toArray, List.set_cons_zero, List.set_cons_succ]
              refine takeT (i := 16) (v := undef) rfl (by kernel_rfl) (fun _ _ _ h => h) (Or.inr ⟨rfl, rfl⟩) hS ?_
              simp only [Act.put, List.setIfInBounds_toArray, List.set_cons_zero, List.set_cons_succ]
              refine takeT (i := 17) (v := ?_) rfl (by kernel_rfl) (fun _ _ _ h => h) (Or.inl ⟨rfl, ?_⟩) hS ?_
              rotate_left
              · (intro wS hSw; (try dsimp only at hSw); go_simp; try (with_reducible rfl))
              simp only [Act.put, List.setIfInBounds_toArray, List.set_cons_zero, List.set_cons_succ]
              refine takeT (i := 18) (v := ?_) rfl (by kernel_rfl) (fun _ _ _ h => h) (Or.inl ⟨rfl, ?_⟩) hS ?_
              rotate_left
              · (intro wS hSw; (try dsimp only at hSw); go_simp; try (with_reducible rfl))
              simp only [Act.put, List.setIfInBounds_toArray, List.set_cons_zero, List.set_cons_succ]
              refine oneT (i := 19) rfl (by kernel_rfl) (fun K hK => ?_)
              go_simp
              refine hK _ _ (fun h => absurd h (by omega)) ?_
              clear hK K
              refine doneT (by kernel_rfl) ?_ _
              go_wp2_with fail
              go_roundg (gk - 1)
              case measure => have := Hgk.out; omega
              case rel =>
                refine ⟨k + 1, nl.set y (true || (dy == dx + 1)), by go_num, by have := Hgk.out; omega, by simp [Hnl.out], ?_, HN.out.step hlt (Or.inl Hek.out) Hgx.out Hgy.out (by omega) Hby.out, hb7.drew.setCell (by simp) _⟩
                have := hrn7.drew.set y (.bool (true || (dy == dx + 1)))
                rwa [← List.map_set] at this
            | false =>
              go_wp2_with fail
              go_quiet (fail)
              go_wp2_with fail
              go_quiet (fail)
              go_wp2_with fail
              generalize hN7 : World.drewN _ _ = wd
              have hbd : Below wb.heap.size wb wd := by subst hN7; exact below_drewN (below_drewN (below_drewN (Below.refl _ _) _) _) _
              have t0 := keep_cell hbd q0; have t1 := keep_cell hbd q1; have t2 := keep_cell hbd q3
              have hrn7 := hrn6.below hbd hrn6.lt
              have hb7 := bl_trans hb6 hbd
              have hfr : ∀ i, wd.frozen? ⟨w4.heap.size, i, none⟩ = false := fun i => hrn7.frozen i
              clear hN7 hbd q0 q1 q2 q3 r0 r1 hrn6 hb6
              refine regionT (fun w' => w'.cell? ⟨gd, x, none⟩ = some (.int .i64 dx) ∧ w'.cell? ⟨gd, y, none⟩ = some (.int .i64 dy) ∧ w'.cell? ⟨w4.heap.size, y, none⟩ = some (.bool false)) 19 (by kernel_rfl) ?_
              have hS : wd.drew.cell? ⟨gd, x, none⟩ = some (.int .i64 dx) ∧ wd.drew.cell? ⟨gd, y, none⟩ = some (.int .i64 dy) ∧ wd.drew.cell? ⟨w4.heap.size, y, none⟩ = some (.bool false) := by first | exact ⟨t0, t1, t2⟩ | exact ⟨t1, t0, t2⟩
              refine takeT (i := 0) (v := ?_) rfl (by kernel_rfl) (fun _ _ _ h => h) (Or.inl ⟨rfl, ?_⟩) hS ?_
              rotate_left
              · (intro wS hSw; (try dsimp only at hSw); go_simp; try (with_reducible rfl))
              simp only [Act.put, List.setIfInBounds_toArray, List.set_cons_zero, List.set_cons_succ]
              refine takeT (i := 1) (v := ?_) rfl (by kernel_rfl) (fun _ _ _ h => h) (Or.inl ⟨rfl, ?_⟩) hS ?_
              rotate_left
              · (intro wS hSw; (try dsimp only at hSw); go_simp; try (with_reducible rfl))
              simp only [Act.put, List.setIfInBounds_toArray, List.set_cons_zero, List.set_cons_succ]
              refine takeT (i := 2) (v := ?_) rfl (by kernel_rfl) (fun _ _ _ h => h) (Or.inl ⟨rfl, ?_⟩) hS ?_
              rotate_left
              · (intro wS hSw; (try dsimp only at hSw); go_simp; try (with_reducible rfl))
              simp only [Act.put, List.setIfInBounds_toArray, List.set_cons_zero, List.set_cons_succ]
              refine takeT (i := 3) (v := ?_) rfl (by kernel_rfl) (fun _ _ _ h => h) (Or.inl ⟨rfl, ?_⟩) hS ?_
              rotate_left
              · (intro wS hSw; (try dsimp only at hSw); go_simp; try (with_reducible rfl))
              simp only [Act.put, List.setIfInBounds_toArray, List.set_cons_zero, List.set_cons_succ]
              refine takeT (i := 4) (v := ?_) rfl (by kernel_rfl) (fun _ _ _ h => h) (Or.inl ⟨rfl, ?_⟩) hS ?_
              rotate_left
              · (intro wS hSw; (try dsimp only at hSw); go_simp; try (with_reducible rfl))
              simp only [Act.put, List.setIfInBounds_toArray, List.set_cons_zero, List.set_cons_succ]
              refine takeT (i := 5) (v := ?_) rfl (by kernel_rfl) (fun _ _ _ h => h) (Or.inl ⟨rfl, ?_⟩) hS ?_
              rotate_left
              · (intro wS hSw; (try dsimp only at hSw); go_simp; try (with_reducible rfl))
              simp only [Act.put, List.setIfInBounds_toArray, List.set_cons_zero, List.set_cons_succ]
              refine takeT (i := 6) (v := ?_) rfl (by kernel_rfl) (fun _ _ _ h => h) (Or.inl ⟨rfl, ?_⟩) hS ?_
              rotate_left
              · (intro wS hSw; (try dsimp only at hSw); go_simp; try (with_reducible rfl))
              simp only [Act.put, List.setIfInBounds_toArray, List.set_cons_zero, List.set_cons_succ]
              refine takeT (i := 7) (v := ?_) rfl (by kernel_rfl) (fun _ _ _ h => h) (Or.inl ⟨rfl, ?_⟩) hS ?_
              rotate_left
              · (intro wS hSw; (try dsimp only at hSw); go_simp; try (with_reducible rfl))
              simp only [Act.put, List.setIfInBounds_toArray, List.set_cons_zero, List.set_cons_succ]
              refine takeT (i := 8) (v := ?_) rfl (by kernel_rfl) (fun _ _ _ h => h) (Or.inl ⟨rfl, ?_⟩) hS ?_
              rotate_left
              · (intro wS hSw; (try dsimp only at hSw); go_simp; try (with_reducible rfl))
              simp only [Act.put, List.setIfInBounds_toArray, List.set_cons_zero, List.set_cons_succ]
              refine takeT (i := 9) (v := ?_) rfl (by kernel_rfl) (fun _ _ _ h => h) (Or.inl ⟨rfl, ?_⟩) hS ?_
              rotate_left
              · (intro wS hSw; (try dsimp only at hSw); go_simp; try (with_reducible rfl))
              simp only [Act.put, List.setIfInBounds_toArray, List.set_cons_zero, List.set_cons_succ]
              refine takeT (i := 10) (v := ?_) rfl (by kernel_rfl) (fun _ _ _ h => h) (Or.inl ⟨rfl, ?_⟩) hS ?_
              rotate_left
              · (intro wS hSw; (try dsimp only at hSw); go_simp; try (with_reducible rfl))
              simp only [Act.put, List.setIfInBounds_toArray, List.set_cons_zero, List.set_cons_succ]
              refine takeT (i := 11) (v := ?_) rfl (by kernel_rfl) (fun _ _ _ h => h) (Or.inl ⟨rfl, ?_⟩) hS ?_
              rotate_left
              · (intro wS hSw; (try dsimp only at hSw); go_simp; try (with_reducible rfl))
              simp only [Act.put, List.setIfInBounds_toArray, List.set_cons_zero, List.set_cons_succ]
              refine takeT (i := 12) (v := ?_) rfl (by kernel_rfl) (fun _ _ _ h => h) (Or.inl ⟨rfl, ?_⟩) hS ?_
              rotate_left
              · (intro wS hSw; (try dsimp only at hSw); go_simp; try (with_reducible rfl))
              simp only [Act.put, List.setIfInBounds_toArray, List.set_cons_zero, List.set_cons_succ]
              refine takeT (i := 13) (v := ?_) rfl (by kernel_rfl) (fun _ _ _ h => h) (Or.inl ⟨rfl, ?_⟩) hS ?_
              rotate_left
              · (intro wS hSw; (try dsimp only at hSw); go_simp; try (with_reducible rfl))
              simp only [Act.put, List.setIfInBounds_toArray, List.set_cons_zero, List.set_cons_succ]
              refine takeT (i := 14) (v := ?_) rfl (by kernel_rfl) (fun _ _ _ h => h) (Or.inl ⟨rfl, ?_⟩) hS ?_
              rotate_left
              · (intro wS hSw; (try dsimp only at hSw); go_simp; try (with_reducible rfl))
              simp only [Act.put, List.setIfInBounds_toArray, List.set_cons_zero, List.set_cons_succ]
              refine takeT (i := 15) (v := ?_) rfl (by kernel_rfl) (fun _ _ _ h => h) (Or.inl ⟨rfl, ?_⟩) hS ?_
              rotate_left
              · (intro wS hSw; (try dsimp only at hSw); go_simp; try (with_reducible rfl))
              simp only [Act.put, List.setIfInBounds_toArray, List.set_cons_zero, List.set_cons_succ]
              refine takeT (i := 16) (v := ?_) rfl (by kernel_rfl) (fun _ _ _ h => h) (Or.inl ⟨rfl, ?_⟩) hS ?_
              rotate_left
              · (intro wS hSw; (try dsimp only at hSw); go_simp; try (with_reducible rfl))
              simp only [Act.put, List.setIfInBounds_toArray, List.set_cons_zero, List.set_cons_succ]
              refine takeT (i := 17) (v := ?_) rfl (by kernel_rfl) (fun _ _ _ h => h) (Or.inl ⟨rfl, ?_⟩) hS ?_
              rotate_left
              · (intro wS hSw; (try dsimp only at hSw); go_simp; try (with_reducible rfl))
              simp only [Act.put, List.setIfInBounds_toArray, List.set_cons_zero, List.set_cons_succ]
              refine takeT (i := 18) (v := ?_) rfl (by kernel_rfl) (fun _ _ _ h => h) (Or.inl ⟨rfl, ?_⟩) hS ?_
              rotate_left
              · (intro wS hSw; (try dsimp only at hSw); go_simp; try (with_reducible rfl))
              simp only [Act.put, List.setIfInBounds_toArray, List.set_cons_zero, List.set_cons_succ]
              refine oneT (i := 19) rfl (by kernel_rfl) (fun K hK => ?_)
              go_simp
              refine hK _ _ (fun h => absurd h (by omega)) ?_
              clear hK K
              refine doneT (by kernel_rfl) ?_ _
              go_wp2_with fail
              go_roundg (gk - 1)
              case measure => have := Hgk.out; omega
              case rel =>
                refine ⟨k + 1, nl.set y (false || (dy == dx + 1)), by go_num, by have := Hgk.out; omega, by simp [Hnl.out], ?_, HN.out.step hlt (Or.inl Hek.out) Hgx.out Hgy.out (by omega) Hby.out, hb7.drew.setCell (by simp) _⟩
                have := hrn7.drew.set y (.bool (false || (dy == dx + 1)))
                rwa [← List.map_set] at this
      · have hkl : k = es.length := by omega
        subst hkl
        have hall : ∀ (v : Nat) (x : Int), d[v]? = some x → 0 < x → nl[v]? = some true := fun v x h1 h2 => hN.all Hr.out Hds.out h1 h2
        have Hall := Lib.hid hall; have Hgk := Lib.hid hgk; have Hnl := Lib.hid hnl
        clear hall hgk hN hnl c0 c1 f1 hr
        have szn := hrn.lt
        go_wp2_with fail
        go_loopg [137] d.length (fun r v wi => ∃ (k : Nat), v = .int .i64 k ∧ k + r = d.length ∧ Below wr.heap.size wr wi)
        case atStart => exact ⟨0, rfl, by omega, bl_refl _⟩
        case round =>
          obtain ⟨k, rfl, hgk2, hbi⟩ := hrel
          have hrn2 := hrn.below hbi hrn.lt
          have hrd2 := hrd5.below hbi hrd5.lt
          by_cases hlt2 : k < d.length
          · obtain ⟨x, hx⟩ : ∃ x, d[k]? = some x := ⟨d[k], by simp⟩
            have hkm : k < m := by rw [← Hdl.out]; exact hlt2
            have q0 : wr.cell? ⟨gd, k, none⟩ = some (.int .i64 x) := by rw [hrd2.cell? k (by simpa using hlt2)]; simp [hx]
            have vx := Hds.out.val k x hx
            have Hgk2 := Lib.hid hgk2; clear hgk2
            rcases vx with rfl | ⟨vx0, vx1⟩
            · have hks : ((k : Int) == (s : Int)) = false := by
                simp only [beq_eq_false_iff_ne, ne_eq]; intro h
                have := Hds.out.st0
                rw [show s = k by omega, hx] at this; cases this
              have Hx := Lib.hid hx; clear hx
              go_wp2_with fail
              go_roundg (gk - 1)
              case measure => have := Hgk2.out; omega
              case rel => exact ⟨k + 1, by go_num, by have := Hgk2.out; omega, hbi⟩
            · by_cases hz0 : x = 0
              · subst hz0
                have hks : ((k : Int) == (s : Int)) = true := by
                  have := Hds.out.zero k hx
                  simp [this]
                have Hx := Lib.hid hx; clear hx
                go_wp2_with fail
                go_roundg (gk - 1)
                case measure => have := Hgk2.out; omega
                case rel => exact ⟨k + 1, by go_num, by have := Hgk2.out; omega, hbi⟩
              · have hks : ((k : Int) == (s : Int)) = false := by
                  simp only [beq_eq_false_iff_ne, ne_eq]; intro h
                  have := Hds.out.st0
                  rw [show s = k by omega, hx] at this; cases this; exact hz0 rfl
                have q1 : wr.cell? ⟨w4.heap.size, k, none⟩ = some (.bool true) := by
                  rw [hrn2.cell? k (by simp [Hnl.out]; exact hkm)]; simp [Hall.out k x hx (by omega)]
                have g1 : decide (x < -1) = false := by simp; omega
                have g2 : (x == 0) = false := by simp; omega
                have g3 : decide (0 < x) = true := by simp; omega
                have Hx := Lib.hid hx; clear hx
                go_wp2_with fail
                go_roundg (gk - 1)
                case measure => have := Hgk2.out; omega
                case rel => exact ⟨k + 1, by go_num, by have := Hgk2.out; omega, hbi⟩
          · have hk2 : k = d.length := by omega
            subst hk2
            have hB9 : Below w.heap.size w wr := bl_trans hB5 hbi
            clear hgk2 hrn2 hrd2
            go_wp2_with (go_at_call 10; refine (awake_walk _).mono ?_; rintro e w2 ⟨rfl, hb2⟩)
            go_ret
            exact ⟨rfl, bl_trans hB9 hb2⟩
namespace walkAway
open Go Go.RowKit Go.ChangeShapes Go.WideShapes Go.ChangeAt
set_option maxRecDepth 100000 in
theorem lifted (os : Os) (started : os.Started) (H : Type) (enc : TypeId × Value → H) :
    ReturnsInHanded {} Try.checked os 5 .any (Rows.walkAwaySpec.pre6 enc Try.prog Try.f5 Rows.walkAwayRow.domain false) (Rows.walkAwaySpec.post enc Try.prog Try.f5 false true false false) := by
  refine returnsInHanded_of_change (C := Try.checked) rowOwn started (by kernel_rfl) Try.func5
    (ChangeSpec.witness6 (enc := enc) (C := Try.checked) false ⟨#[], #[.agg #[.int .i64 0, .slice none 0 0], .int .i64 0, .int .i64 0], []⟩ 8 (by kernel_rfl) (by kernel_rfl) (by kernel_rfl) (by kernel_rfl)) ?_
  intro W base args ds gs before hval0 hW hcnd _
  have hval : ∀ (j : Nat) t v, Try.f5.params[j]? = some t → args[j]? = some v → Value.okWide Try.prog W .any base t v := hval0
  have hW' := hW
  obtain ⟨p, q, hA0, hV, rfl, hfz, hnd⟩ := hW
  have hA : DataW.TrodAll enc Try.prog W 0 (fun _ => true) true Try.f5.params.toList args.toList ds p := hA0
  rw [Try.params5] at hA hval
  obtain ⟨v0, vs0, d0, ds0, p0, q0, hargs, rfl, rfl, h0, r0⟩ := trodAll_cons hA
  obtain ⟨v1, vs1, d1, ds1, p1, q1, rfl, rfl, rfl, h1, r1⟩ := trodAll_cons r0
  obtain ⟨v2, vs2, d2, ds2, p2, q2, rfl, rfl, rfl, h2, r2⟩ := trodAll_cons r1
  obtain ⟨rfl, rfl, rfl⟩ := trodAll_nil r2
  obtain rfl : args = #[v0, v1, v2] := by cases args; simp_all
  obtain ⟨rfl, rfl⟩ := trodVars_none hV
  have k0 := h0
  have lt0 : ∀ x ∈ p0, x.block < W.heap.size := by obtain ⟨m, hm⟩ := k0; exact DataW.trod_lt m _ _ _ hm
  obtain ⟨n0, a0, cap0, es0, rfl, rd0, hl0, hm0, wn0⟩ := open_graph (hval 0 24 v0 rfl rfl) h0
  obtain ⟨x1, rfl, rfl, rfl, wn1⟩ := open_int Try.underlying3 (hval 1 3 v1 rfl rfl) h1
  obtain ⟨x2, rfl, rfl, rfl, wn2⟩ := open_int Try.underlying3 (hval 2 3 v2 rfl rfl) h2
  clear hA0 hval0
  refine (walkAway_walk n0 a0 cap0 es0 x1 x2 W rd0 hl0 hm0 wn0 wn1 wn2).mono fun e W' ⟨he, bel⟩ => ?_
  subst he
  exact ⟨_, rfl, _, _, _, [], _, [], hW', trodAll_mk1 (shut_bool Try.underlying4 _), (trodAll_cons_mk (Below.trod rowLaid (by kernel_rfl) (of_decide_eq_true (by kernel_rfl)) k0 bel lt0) (trodAll_cons_mk (shut_int Try.underlying3 wn1) (trodAll_cons_mk (shut_int Try.underlying3 wn2) trodAll_mk0))), rfl, bel.frame _, fun h => by cases h⟩
theorem over : Rows.walkAwayRow.holds Try.pinned (OpenSpec.ofChange Rows.walkAwaySpec) :=
  OpenClaim.holds_of_wide 5 Try.f5 rfl rfl rfl rfl rfl rfl rfl ⟨rfl, rfl, rfl, rfl, rfl⟩ rfl rfl rfl rfl rfl (by kernel_rfl) Try.func5 (by kernel_rfl)
    (of_decide_eq_true (by kernel_rfl)) (by unfold Func.isWrapper; first | (rw [if_pos (by decide +kernel)]; kernel_rfl) | (rw [if_neg (by decide +kernel)]; exact ⟨rfl, rfl⟩))
    (fun os started H enc _ => lifted os started H enc)
/-- The statement. -/
theorem proved : Rows.WalkAwaySaid := over
#print axioms proved
end walkAway
end Go.Proofs.Ytddndhhhmlcgjaa
