/- Facts that the claim rests on, part 12. -/
import Derived.Test.YtagcbnpahgfgmaaGreatKO10
namespace Go.Proofs.YtagcbnpahgfgmaaGreat
open Go Go.RowKit
def RetMg (w : World) (B g cap : Nat) (Q : List Pt) (e : Ending) (w' : World) : Prop :=
 ∃ ps, e = .returned (.slice (some ⟨g, 0, none⟩) ps.length cap) ∧ PtI w' B g cap ps ∧ MTo Q (ptQ ps) ∧ MNormal (ptQ ps) ∧ Below B w w'
theorem merge_facts {ls : List Lk} {Q : List Pt} (hl : ls.length ≤ 1000) (h : QI ls Q) {i j : Nat} {v : Int} (ha : alikeP Q i j v) :
  i < Q.length ∧ j < Q.length ∧ i ≠ j ∧ v ≠ 0 ∧ RightL (lnQ Q i) ∧ RightL (lnQ Q j) ∧ 3 ≤ (lnQ Q i).length ∧ 3 ≤ (lnQ Q j).length ∧ QI ls (mergeQ Q i j v) ∧ RightL (joinL (lnQ Q i) (lnQ Q j) v) ∧
  ∃ e, e.2.2 = v ∧ MStep e Q (mergeQ Q i j v) ∧ (1 ≤ v ∧ v ≤ 1048576) ∧ e ∈ lnQ Q i ∧ e ∈ lnQ Q j ∧ (∀ k ∈ lnQ Q i, k.2.2 = v → k = e) ∧ ∀ k ∈ lnQ Q j, k.2.2 = v → k = e := by
 obtain ⟨hi, hj, hij, h0, _⟩ := ha.two h
 obtain ⟨e, he, hf, hev, hs⟩ := ha.step h
 have hq := hs.qi hl h
 have mi : Q[i] ∈ Q := List.getElem_mem hi
 have mj : Q[j] ∈ Q := List.getElem_mem hj
 have he' := he; have hf' := hf
 rw [lnQ_at hi] at he'
 rw [lnQ_at hj] at hf'
 obtain ⟨D, hT, hD⟩ := h.tree
 have hed : e ∈ D := hT.memD.2 (mem_occL.2 ⟨_, List.mem_map_of_mem mi, he', by rw [hev]; exact h0⟩)
 have hjr : RightL (joinL (lnQ Q i) (lnQ Q j) v) := by
  have : (kdQ Q i, joinL (lnQ Q i) (lnQ Q j) v) ∈ mergeQ Q i j v := by
   obtain ⟨R, _, hR⟩ := perm_set hij hi hj (kdQ Q i, joinL (lnQ Q i) (lnQ Q j) v); exact hR.mem_iff.2 (by simp)
  exact hq.right _ this
 refine ⟨hi, hj, hij, h0, by rw [lnQ_at hi]; exact h.right _ mi, by rw [lnQ_at hj]; exact h.right _ mj, by rw [lnQ_at hi]; exact h.three _ mi, by rw [lnQ_at hj]; exact h.three _ mj, hq, hjr, e, hev, hs, by rw [← hev]; exact hD e hed, he, hf, ?_, ?_⟩
 ·
  rw [lnQ_at hi]
  exact fun k hk hv => h.uniq mi (mem_virtL.2 ⟨he', by rw [hev]; exact h0⟩) k hk (by rw [hv, hev])
 ·
  rw [lnQ_at hj]
  exact fun k hk hv => h.uniq mj (mem_virtL.2 ⟨hf', by rw [hev]; exact h0⟩) k hk (by rw [hv, hev])
set_option maxRecDepth 100000 in
set_option maxHeartbeats 8000000 in
theorem merged_walk (B g cap : Nat) (ps : List PtR) (ls : List Lk) (w : World) (h : PtI w B g cap ps) (hq : QI ls (ptQ ps)) (hl : ls.length ≤ 1000) (hn : ps.length ≤ 1000) :
  Calls Tryz.prog 36 #[.slice (some ⟨g, 0, none⟩) ps.length cap] w (RetMg w B g cap (ptQ ps)) := by
 have Hn := Lib.hid hn; have Hl := Lib.hid hl; have Hq := Lib.hid hq
 have hb0 : Below B w w := Below.refl _ _
 clear hn hl hq
 go_enter Tryz.func36, Tryz.ntmps36
 go_wp2_with fail
 go_loopg [0] ps.length (fun r vo wj => ∃ pj, pj.length ≤ r ∧ vo = .slice (some ⟨g, 0, none⟩) pj.length cap ∧ PtI wj B g cap pj ∧ QI ls (ptQ pj) ∧ MTo (ptQ ps) (ptQ pj) ∧ Below B w wj)
 case atStart => exact ⟨ps, Nat.le_refl _, rfl, h, Hq.out, .done (.refl _), hb0⟩
 case round =>
  clear h hb0
  obtain ⟨pj, hlen, rfl, hP, hq, hto, hB⟩ := hrel
  have Hlen := Lib.hid hlen; have Hto := Lib.hid hto
  have hqr := hq.right
  have hm0 : pj.length ≤ 1000 := by
   have h1 := hq.len; rw [ptQ_len] at h1; exact Nat.le_trans h1 Hl.out
  have hal := fun w (hw : PtI w B g cap pj) => alike_walk (some ⟨g, 0, none⟩) cap (ptQ pj) w hw.rdq (by rw [ptQ_len]; exact hm0) hqr
  simp only [ptQ_len] at hal
  clear hlen hto hqr
  go_wp2_with fail
  refine (hal _ hP).mono ?_
  rintro e w1 ⟨hb1, ⟨i, j, v, hi, hj, ha, rfl⟩ | ⟨hc, rfl⟩⟩
  ·
   have hP1 := hP.below hb1; have hB1 : Below B w w1 := hB.trans (hb1.mono (by have := hP.lo; have := hP.lt; omega)); obtain ⟨hi2, hj2, hij, hv0, Rx, Ry, lx, ly, hq2, hJR, e0, hev, hstep, hvr, hx, hy, ux, uy⟩ := merge_facts Hl.out hq ha; rw [ptQ_len] at hi2 hj2; obtain ⟨x, hxx⟩ : ∃ x, x = lnQ (ptQ pj) i := ⟨_, rfl⟩
   obtain ⟨y, hyy⟩ : ∃ y, y = lnQ (ptQ pj) j := ⟨_, rfl⟩
   have ex : pj[i].1.2 = x := by rw [hxx, lnQ_at (by rw [ptQ_len]; exact hi2)]; simp [ptQ]
   have ey : pj[j].1.2 = y := by rw [hyy, lnQ_at (by rw [ptQ_len]; exact hj2)]; simp [ptQ]
   have ek : kdQ (ptQ pj) i = pj[i].1.1 := by rw [kdQ_at (by rw [ptQ_len]; exact hi2)]; simp [ptQ]
   have hms : mergeQ (ptQ pj) i j v = ((ptQ pj).set i (pj[i].1.1, joinL x y v)).eraseIdx j := by unfold mergeQ; rw [ek, ← hxx, ← hyy]
   rw [← hxx] at Rx lx hx ux hJR; rw [← hyy] at Ry ly hy uy hJR; obtain ⟨⟨rx, cx, mx, bx⟩, fx⟩ := hP1.each _ (List.getElem_mem hi2); obtain ⟨⟨ry, cy, my, by_⟩, fy⟩ := hP1.each _ (List.getElem_mem hj2); obtain ⟨g1x, g2x⟩ := ptC_get pj i hi2; obtain ⟨g1y, g2y⟩ := ptC_get pj j hj2; have d1 : w1.cell? ⟨g, i * 2 + 1, none⟩ = some (ptV pj[i]) := by rw [hP1.row.cell? _ (by rw [ptC_len]; omega)]; exact g2x
   have d2 : w1.cell? ⟨g, j * 2 + 1, none⟩ = some (ptV pj[j]) := by rw [hP1.row.cell? _ (by rw [ptC_len]; omega)]; exact g2y
   unfold ptV at d1 d2; rw [ex] at rx cx d1; rw [ey] at ry cy d2; obtain ⟨cpx, hcpx⟩ : ∃ c, c = pj[i].2.2 := ⟨_, rfl⟩
   obtain ⟨cpy, hcpy⟩ : ∃ c, c = pj[j].2.2 := ⟨_, rfl⟩
   obtain ⟨bX, oX, hax, -⟩ := rx.at 0 (by omega); obtain ⟨bY, oY, hay, -⟩ := ry.at 0 (by omega); rw [hax, ← hcpx] at d1; rw [hay, ← hcpy] at d2; rw [hax] at rx; rw [hay] at ry; rw [← hcpx] at cx mx; rw [← hcpy] at cy my; have hjoin := fun (w : World) (h1 : RdL w (some ⟨bX, oX, none⟩) x) (h2 : RdL w (some ⟨bY, oY, none⟩) y) => join_walk bX oX cpx bY oY cpy x y e0 w h1 h2 cx cy mx my Rx Ry (by rw [hev]; exact hvr) hx hy (by rw [hev]; exact ux) (by rw [hev]; exact uy) (by rw [hev]; exact hJR); rw [hev] at hjoin; have Hjoin := Lib.hid hjoin; have HP1 := Lib.hid hP1; have Hms := Lib.hid hms; have Hstep := Lib.hid hstep; have Hq2 := Lib.hid hq2; have Hij := Lib.hid hij; have Hx3 := Lib.hid lx; have Hy3 := Lib.hid ly; have e5 : (v == 0) = false := by simpa using hv0
   have i1 : (i : Int) < (pj.length : Int) := by omega
   have i2 : (j : Int) < (pj.length : Int) := by omega
   have Hrx := Lib.hid rx; have Hry := Lib.hid ry; have hB1' := Lib.hid hB1; clear hjoin hP1 hms hstep hq2 hij lx ly hv0 hev hvr hx hy ux uy hJR Rx Ry fx fy bx by_ g1x g2x g1y g2y ek ex ey hxx hyy hax hay cx cy mx my hcpx hcpy hal hb1 hB hP hq ha hi hj rx ry hB1; go_wp2_with fail; refine regionT (fun _ => True) 20 (by kernel_rfl) ?_; have hS : True := trivial; refine tkT 0 ?_ rfl hS ?_ ?_ (by kernel_rfl) (fun _ _ _ h => h) (by rfl); rotate_left; (· intro wS hSw; (try dsimp only at hSw); go_simp; try with_reducible rfl); simp only [Act.put, zA, z0, z1]; refine tkT 1 ?_ rfl hS ?_ ?_ (by kernel_rfl) (fun _ _ _ h => h) (by rfl); rotate_left; (· intro wS hSw; (try dsimp only at hSw); go_simp; try with_reducible rfl); simp only [Act.put, zA, z0, z1]; refine weakT (fun w' => w'.cell? ⟨g, i * 2 + 1, none⟩ = some (.slice (some ⟨bX, oX, none⟩) x.length cpx) ∧ w'.cell? ⟨g, j * 2 + 1, none⟩ = some (.slice (some ⟨bY, oY, none⟩) y.length cpy)) 13 ?_; clear hS; have hS : w1.drew.cell? ⟨g, i * 2 + 1, none⟩ = some (.slice (some ⟨bX, oX, none⟩) x.length cpx) ∧ w1.drew.cell? ⟨g, j * 2 + 1, none⟩ = some (.slice (some ⟨bY, oY, none⟩) y.length cpy) := ⟨d1, d2⟩
   refine tkL 2 ?_ rfl hS ?_ ?_ (by kernel_rfl) (fun _ _ _ h => h) (by rfl); rotate_left; (· intro wS hSw; (try dsimp only at hSw); go_simp; try with_reducible rfl); simp only [Act.put, zA, z0, z1]; refine tkL 3 ?_ rfl hS ?_ ?_ (by kernel_rfl) (fun _ _ _ h => h) (by rfl); rotate_left; (· intro wS hSw; (try dsimp only at hSw); go_simp; try with_reducible rfl); simp only [Act.put, zA, z0, z1]; refine tkL 4 ?_ rfl hS ?_ ?_ (by kernel_rfl) (fun _ _ _ h => h) (by rfl); rotate_left; (· intro wS hSw; (try dsimp only at hSw); go_simp; try with_reducible rfl); simp only [Act.put, zA, z0, z1]; refine tkL 5 ?_ rfl hS ?_ ?_ (by kernel_rfl) (fun _ _ _ h => h) (by rfl); rotate_left; (· intro wS hSw; (try dsimp only at hSw); go_simp; try with_reducible rfl); simp only [Act.put, zA, z0, z1]; refine tkL 6 ?_ rfl hS ?_ ?_ (by kernel_rfl) (fun _ _ _ h => h) (by rfl); rotate_left; (· intro wS hSw; (try dsimp only at hSw); go_simp; try with_reducible rfl); simp only [Act.put, zA, z0, z1]; refine tkL 7 ?_ rfl hS ?_ ?_ (by kernel_rfl) (fun _ _ _ h => h) (by rfl); rotate_left; (· intro wS hSw; (try dsimp only at hSw); go_simp; try with_reducible rfl); simp only [Act.put, zA, z0, z1]; refine tkL 8 ?_ rfl hS ?_ ?_ (by kernel_rfl) (fun _ _ _ h => h) (by rfl); rotate_left; (· intro wS hSw; (try dsimp only at hSw); go_simp; try with_reducible rfl); simp only [Act.put, zA, z0, z1]; refine tkL 9 ?_ rfl hS ?_ ?_ (by kernel_rfl) (fun _ _ _ h => h) (by rfl); rotate_left; (· intro wS hSw; (try dsimp only at hSw); go_simp; try with_reducible rfl); simp only [Act.put, zA, z0, z1]
   refine tkL 10 ?_ rfl hS ?_ ?_ (by kernel_rfl) (fun _ _ _ h => h) (by rfl); rotate_left; (· intro wS hSw; (try dsimp only at hSw); go_simp; try with_reducible rfl); simp only [Act.put, zA, z0, z1]; refine tkL 11 ?_ rfl hS ?_ ?_ (by kernel_rfl) (fun _ _ _ h => h) (by rfl); rotate_left; (· intro wS hSw; (try dsimp only at hSw); go_simp; try with_reducible rfl); simp only [Act.put, zA, z0, z1]; refine tkL 12 ?_ rfl hS ?_ ?_ (by kernel_rfl) (fun _ _ _ h => h) (by rfl); rotate_left; (· intro wS hSw; (try dsimp only at hSw); go_simp; try with_reducible rfl); simp only [Act.put, zA, z0, z1]; refine oneT (i := 13) rfl (by kernel_rfl) (fun K hK => ?_); go_simp; go_at_call 73; refine (Hjoin.out w1.drew Hrx.out Hry.out).mono ?_; rintro e w2 ⟨vj, rfl, hOj, hyj, hb2⟩; replace hb2 : Below w1.heap.size w1 w2 := bl_trans (Below.refl w1.heap.size w1).drew hb2; obtain ⟨aj, cj, rfl, hrj, hownj, hcj1, hcj2⟩ := hOj.read; go_simp; refine hK _ _ (fun h => absurd h (by omega)) ?_; clear hK K hS d1 d2 Hjoin; refine restartT (fun _ => True) 20 (by kernel_rfl) ?_; have hS : True := trivial; refine tkT 14 ?_ rfl hS ?_ ?_ (by kernel_rfl) (fun _ _ _ h => h) (by rfl); rotate_left; (· intro wS hSw; (try dsimp only at hSw); go_simp; try with_reducible rfl); simp only [Act.put, zA, z0, z1]; refine tkT 15 ?_ rfl hS ?_ ?_ (by kernel_rfl) (fun _ _ _ h => h) (by rfl); rotate_left; (· intro wS hSw; (try dsimp only at hSw); go_simp; try with_reducible rfl); simp only [Act.put, zA, z0, z1]; refine tkT 16 ?_ rfl hS ?_ ?_ (by kernel_rfl) (fun _ _ _ h => h) (by rfl); rotate_left; (· intro wS hSw; (try dsimp only at hSw); go_simp; try with_reducible rfl); simp only [Act.put, zA, z0, z1]
   refine tkT 17 ?_ rfl hS ?_ ?_ (by kernel_rfl) (fun _ _ _ h => h) (by rfl); rotate_left; (· intro wS hSw; (try dsimp only at hSw); go_simp; try with_reducible rfl); simp only [Act.put, zA, z0, z1]; refine tkT 18 ?_ rfl hS ?_ ?_ (by kernel_rfl) (fun _ _ _ h => h) (by rfl); rotate_left; (· intro wS hSw; (try dsimp only at hSw); go_simp; try with_reducible rfl); simp only [Act.put, zA, z0, z1]; have hP2 := HP1.out.below hb2; have f2 := hP2.row.frozen (i * 2 + 1); have c2 : w2.cell? ⟨g, i * 2 + 1, none⟩ = some (ptV pj[i]) := by
    rw [hP2.row.cell? _ (by rw [ptC_len]; omega)]; exact (ptC_get pj i hi2).2
   have hgj : ∀ ad, aj = some ad → w1.heap.size ≤ ad.block ∧ ad.block < w2.heap.size := fun ad ha => by
    have h1 := hownj ad ha; exact ⟨hyj _ h1, hOj.lt h1⟩
   have hrow2 : RowP w2 ((pj[i].1.1, joinL x y v), aj, cj) := ⟨hrj, hcj2, hcj1, fun ad ha => (hgj ad ha).2⟩
   have hP3 := hP2.store hi2 (p := ((pj[i].1.1, joinL x y v), aj, cj)) rfl hrow2 (fun ad ha => by have := (hgj ad ha).1; have := HP1.out.lt; omega); have hB2 : Below B w w2 := hB1'.out.trans (hb2.mono (by have := HP1.out.lo; have := HP1.out.lt; omega)); have hB3 : Below B w (w2.setCell ⟨g, i * 2 + 1, none⟩ (ptV ((pj[i].1.1, joinL x y v), aj, cj))) := hB2.setCell HP1.out.lo _; unfold ptV at hP3 hB3; simp only at hP3 hB3; have HP3 := Lib.hid hP3; have HB3 := Lib.hid hB3; clear hP2 hgj hrow2 hP3 hB2 hB3 hOj hyj hrj hownj hcj1 hcj2 hb2 HP1 hB1'; refine oneT (i := 19) rfl (by kernel_rfl) (fun K hK => ?_); go_simp; refine hK _ _ (fun _ => trivial) ?_; clear hK K hS c2 f2; refine doneT (by kernel_rfl) ?_ _; generalize w2.setCell ⟨g, i * 2 + 1, none⟩ (.slice aj (joinL x y v).length cj) = w3 at HP3 HB3 ⊢; have hdel := delP_walk g cap pj.length j (ptC (pj.set i ((pj[i].1.1, joinL x y v), aj, cj))) w3 HP3.out.row (by rw [ptC_len, List.length_set]) hj2 (by have := HP3.out.len; rwa [List.length_set] at this) (ptC_one _); go_wp2_with fail; refine hdel.mono ?_; rintro e w4 ⟨rfl, hrow4, hg4⟩; have hP4 := HP3.out.del (j := j) (by rw [List.length_set]; exact hj2) hrow4 hg4; have hB4 : Below B w w4 := HB3.out.grown hg4 (by have := HP3.out.lo; have := HP3.out.lt; omega) (fun k hk => by cases hk; exact HP3.out.lo); have hlen4 : ((pj.set i ((pj[i].1.1, joinL x y v), aj, cj)).eraseIdx j).length = pj.length - 1 := by rw [List.length_eraseIdx, List.length_set, if_pos hj2]
   have hq4 : ptQ ((pj.set i ((pj[i].1.1, joinL x y v), aj, cj)).eraseIdx j) = mergeQ (ptQ pj) i j v := by rw [ptQ_del, ptQ_set, Hms.out]
   have hp0 : 0 < pj.length := by omega
   have HP4 := Lib.hid hP4; have HB4 := Lib.hid hB4; have Hlen4 := Lib.hid hlen4; have Hq4 := Lib.hid hq4; clear hP4 hB4 hlen4 hq4 hdel hrow4 hg4 HP3 HB3; go_wp2_with fail; go_roundg (gk - 1)
   case measure => have := Hlen.out; omega
   case rel => exact ⟨_, by have := Hlen.out; rw [Hlen4.out]; omega, by rw [Hlen4.out], HP4.out, by rw [Hq4.out]; exact Hq2.out, by rw [Hq4.out]; exact Hto.out.snoc Hstep.out, HB4.out⟩
  ·
   have hP1 := hP.below hb1; have hB1 : Below B w w1 := hB.trans (hb1.mono (by have := hP.lo; have := hP.lt; omega)); have hno := hc.normal hq; have Hno := Lib.hid hno; clear hc hno hal hb1 hB hP hq; go_wp2_with fail; go_ret; exact ⟨pj, rfl, hP1, Hto.out, Hno.out, hB1⟩
end Go.Proofs.YtagcbnpahgfgmaaGreat
namespace Go.Proofs.YtagcbnpahgfgmaaGreat
open Go Go.RowKit Go.Sort
def GrN (w w' : World) : Prop := ∃ (q : Nat) (os : Array Obj), w' = grow (w.drewN q) os
theorem gr_refl (w : World) : GrN w w := ⟨0, #[], by cases w; simp [grow, World.drewN]⟩
theorem gr_alloc (w : World) (o : Obj) : GrN w (w.alloc o) := ⟨0, #[o], by rw [alloc_eq_grow]; cases w; simp [grow, World.drewN]⟩
theorem gr_trans {a b c : World} (h : GrN a b) (k : GrN b c) : GrN a c := by
 obtain ⟨q, os, rfl⟩ := h
 obtain ⟨q2, os2, rfl⟩ := k
 exact ⟨q + q2, os ++ os2, by cases a; simp [grow, World.drewN, Nat.add_assoc]⟩
theorem GrN.below {w w' : World} (h : GrN w w') : Below w.heap.size w w' := by
 obtain ⟨q, os, rfl⟩ := h
 refine ⟨rfl, rfl, rfl, by simp [grow, World.drewN], fun k hk => ?_⟩
 show (w.heap ++ os)[k]? = _
 rw [Array.getElem?_append_left hk]
def RetG (w : World) (z : Int) (e : Ending) (w' : World) : Prop := e = .returned (.int .i64 z) ∧ GrN w w'
set_option maxHeartbeats 1000000 in
theorem cmp1_walkG (x y : Lk) (w : World) :
  Calls Tryz.prog 78 #[.agg #[.int .i64 x.1, .int .i64 x.2.1, .int .i64 x.2.2], .agg #[.int .i64 y.1, .int .i64 y.2.1, .int .i64 y.2.2]] w (RetG w (cmpL x y)) := by
 have hpe := fun w => lk_eq x y w
 unfold lkV at hpe
 obtain ⟨x1, x2, x3⟩ := x
 obtain ⟨y1, y2, y3⟩ := y
 simp only at hpe ⊢
 have hgt : Tryz.prog.eqGuardType Tryz.prog.depth 38 = false := by kernel_rfl
 have hB := gr_trans (gr_alloc w (.cells #[.int .i64 x1, .int .i64 x2, .int .i64 x3] 38)) (gr_alloc _ (.cells #[.int .i64 y1, .int .i64 y2, .int .i64 y3] 38))
 obtain ⟨z, hz⟩ : ∃ z, z = cmpL (x1, x2, x3) (y1, y2, y3) := ⟨_, rfl⟩
 rw [← hz]
 by_cases he : ((x1, x2, x3) : Lk) = (y1, y2, y3)
 ·
  rw [decide_eq_true he] at hpe
  have h0 := cmpL_zero.2 he
  rw [← hz] at h0
  clear he hz
  subst h0
  go_enter Tryz.func78, Tryz.ntmps78
  go_wp2_with fail
  go_ret
  exact ⟨rfl, hB⟩
 ·
  rw [decide_eq_false he] at hpe
  unfold cmpL orI at hz
  simp only at hz
  by_cases h1 : x1 = y1
  ·
   have k1 : (x1 != y1) = false := by simpa using h1
   by_cases h2 : x2 = y2
   ·
    have k2 : (x2 != y2) = false := by simpa using h2
    have hc : z = cmpI x3 y3 := by
     rw [hz, if_pos (by unfold cmpI; rw [h1]; simp), if_pos (by unfold cmpI; rw [h2]; simp)]
    clear hz he; have Hc := Lib.hid hc; have H1 := Lib.hid h1; have H2 := Lib.hid h2; clear hc h1 h2; go_enter Tryz.func78, Tryz.ntmps78; go_wp2_with (go_at_call 79; refine (compare_any _ _ _).mono ?_; rintro e w' ⟨rfl, rfl⟩); go_ret; exact ⟨by rw [Hc.out] <;> rfl, hB⟩
   ·
    have k2 : (x2 != y2) = true := by simpa using h2
    have hc : z = cmpI x2 y2 := by
     rw [hz, if_pos (by unfold cmpI; rw [h1]; simp), if_neg (by unfold cmpI; split <;> (try split) <;> omega)]
    clear hz he; have Hc := Lib.hid hc; have H1 := Lib.hid h1; clear hc h1 h2; go_enter Tryz.func78, Tryz.ntmps78; go_wp2_with (go_at_call 79; refine (compare_any _ _ _).mono ?_; rintro e w' ⟨rfl, rfl⟩); go_ret; exact ⟨by rw [Hc.out] <;> rfl, hB⟩
  ·
   have k1 : (x1 != y1) = true := by simpa using h1
   have hc : z = cmpI x1 y1 := by
    rw [hz, if_neg (by unfold cmpI; split <;> (try split) <;> omega)]
   clear hz he; have Hc := Lib.hid hc; clear hc h1; go_enter Tryz.func78, Tryz.ntmps78; go_wp2_with (go_at_call 79; refine (compare_any _ _ _).mono ?_; rintro e w' ⟨rfl, rfl⟩); go_ret; exact ⟨by rw [Hc.out] <;> rfl, hB⟩
set_option maxRecDepth 100000 in
set_option maxHeartbeats 4000000 in
theorem compareF_walkG (a b : Option Addr) (ca cb : Nat) (x y : List Lk) (w : World) (hx : RdL w a x) (hy : RdL w b y) (hxl : x.length ≤ 9223372036854775807) (hyl : y.length ≤ 9223372036854775807) :
  Calls Tryz.prog 77 #[.slice a x.length ca, .slice b y.length cb, .func (.func 78) #[] #[]] w (RetG w (cmpLs x y)) := by
 obtain ⟨z, hz⟩ : ∃ z, z = cmpLs x y := ⟨_, rfl⟩
 rw [← hz]
 have Hz := Lib.hid hz; clear hz
 go_enter Tryz.func77, Tryz.ntmps77
 go_wp2_with fail
 go_loopg [13] x.length (fun r iv wj => ∃ i : Nat, i + r = x.length ∧ i ≤ y.length ∧ iv = .int .i64 i ∧ cmpLs (x.drop i) (y.drop i) = cmpLs x y ∧ GrN w wj)
 case atStart => exact ⟨0, by omega, by omega, rfl, rfl, gr_refl _⟩
 case round =>
  obtain ⟨i, hi, hiy, rfl, hst, hb⟩ := hrel
  have Hi := Lib.hid hi
  by_cases hil : i < x.length
  ·
   clear hi; have hst' := hst; obtain ⟨b1, o1, rfl, p0, p1, p2⟩ := (hx.below hb.below).at i hil; by_cases hly : i < y.length
   ·
    obtain ⟨b2, o2, rfl, q0, q1, q2⟩ := (hy.below hb.below).at i hly; rw [cmpLs_at hil hly] at hst; obtain ⟨⟨x1, x2, x3⟩, hxe⟩ : ∃ u : Lk, x[i] = u := ⟨_, rfl⟩
    obtain ⟨⟨y1, y2, y3⟩, hye⟩ : ∃ u : Lk, y[i] = u := ⟨_, rfl⟩
    rw [hxe] at p0 p1 p2 hst; rw [hye] at q0 q1 q2 hst; simp only at p0 p1 p2 q0 q1 q2; have g0 : decide ((y.length : Int) ≤ (i : Int)) = false := by simp; omega
    have g0' : decide (y.length ≤ i) = false := by simp; omega
    have hba := bl_alloc wr (.cells #[.int .i64 x1, .int .i64 x2, .int .i64 x3] 38); have q0' := keep_cell hba q0; have q1' := keep_cell hba q1; have q2' := keep_cell hba q2; have i2 : (i : Int) < (y.length : Int) := by omega
    have Hst := Lib.hid hst; obtain ⟨c, hc⟩ : ∃ c, c = cmpL (x1, x2, x3) (y1, y2, y3) := ⟨_, rfl⟩
    have Hc := Lib.hid hc; clear hxe hye hst hst' hba q0 q1 q2 hc; go_wp2_with fail; refine (cmp1_walkG (x1, x2, x3) (y1, y2, y3) _).mono ?_; rw [← Hc.out]; rintro e w2 ⟨rfl, hb2⟩; have hB := gr_trans hb (gr_trans (gr_trans (gr_alloc _ _) (gr_alloc _ _)) hb2); by_cases h0 : c = 0
    ·
     have k0 : (c != 0) = false := by simpa using h0
     have hnx : cmpLs (x.drop (i + 1)) (y.drop (i + 1)) = cmpLs x y := by rw [← Hst.out, if_pos (by rw [← Hc.out]; exact h0)]
     have Hnx := Lib.hid hnx; clear h0 hnx; go_wp2_with fail; go_roundg (gk - 1)
     case measure => have := Hi.out; omega
     case rel => exact ⟨i + 1, by have := Hi.out; omega, by omega, by go_num, Hnx.out, hB⟩
    ·
     have k0 : (c != 0) = true := by simpa using h0
     have hfin : z = c := by rw [Hz.out, ← Hst.out, if_neg (by rw [← Hc.out]; exact h0), ← Hc.out]
     have Hfin := Lib.hid hfin; clear h0 hfin; go_wp2_with fail; go_ret; exact ⟨by rw [Hfin.out] <;> rfl, hB⟩
   ·
    have hiy2 : i = y.length := by omega
    subst hiy2; have hfin : z = 1 := by
     rw [Hz.out, ← hst', List.drop_eq_getElem_cons hil, List.drop_eq_nil_of_le (Nat.le_refl _)]; rfl
    subst hfin; obtain ⟨⟨x1, x2, x3⟩, hxe⟩ : ∃ u : Lk, x[y.length] = u := ⟨_, rfl⟩
    rw [hxe] at p0 p1 p2; simp only at p0 p1 p2; clear hst hst' hxe hly; go_wp2_with fail; go_ret; exact ⟨rfl, gr_trans hb (gr_alloc _ _)⟩
  ·
   have hin : i = x.length := by omega
   subst hin; clear hi; rw [List.drop_eq_nil_of_le (Nat.le_refl x.length)] at hst; by_cases hly : x.length < y.length
   ·
    have hfin : z = -1 := by
     rw [Hz.out, ← hst, List.drop_eq_getElem_cons hly]; rfl
    have k1 : decide ((x.length : Int) < (y.length : Int)) = true := by simp; omega
    have k2 : decide (x.length < y.length) = true := by simp; omega
    subst hfin; clear hst hly; go_wp2_with fail; go_ret; exact ⟨rfl, hb⟩
   ·
    have hfin : z = 0 := by
     rw [Hz.out, ← hst, List.drop_eq_nil_of_le (by omega)]; rfl
    have k1 : decide ((x.length : Int) < (y.length : Int)) = false := by simp; omega
    have k2 : decide (x.length < y.length) = false := by simp; omega
    subst hfin; clear hst hly; go_wp2_with fail; go_ret; exact ⟨rfl, hb⟩
theorem compareP_walkG (a b : Option Addr) (ca cb : Nat) (x y : List Lk) (w : World) (hx : RdL w a x) (hy : RdL w b y) (hxl : x.length ≤ 9223372036854775807) (hyl : y.length ≤ 9223372036854775807) :
  Calls Tryz.prog 39 #[.slice a x.length ca, .slice b y.length cb] w (RetG w (cmpLs x y)) := by
 go_enter Tryz.func39, Tryz.ntmps39
 go_wp2_with fail
 refine (compareF_walkG a b ca cb x y _ hx hy hxl hyl).mono ?_
 rintro e w1 ⟨rfl, hb1⟩
 go_wp2_with fail
 go_ret
 exact ⟨rfl, hb1⟩
end Go.Proofs.YtagcbnpahgfgmaaGreat
namespace Go.Proofs.YtagcbnpahgfgmaaGreat
open Go Go.RowKit Go.Sort
section
variable {α : Type}
theorem flat_get (enc : α → List Value) (k : Nat) (hk : ∀ x, (enc x).length = k) : ∀ (ls : List α) (j t : Nat) (hj : j < ls.length), t < k → (ls.flatMap enc)[j * k + t]? = (enc ls[j])[t]?
 | [], j, t, hj, _ => by simp at hj
 | a :: ls, 0, t, _, ht => by
  rw [List.flatMap_cons, List.getElem?_append_left (by rw [hk]; omega)]; simp
 | a :: ls, j + 1, t, hj, ht => by
  rw [List.flatMap_cons, List.getElem?_append_right (by rw [hk, Nat.add_mul]; omega), hk, Nat.add_mul, Nat.one_mul, show j * k + k + t - k = j * k + t by omega]
  exact flat_get enc k hk ls j t (by simpa using hj) ht
theorem flat_len (enc : α → List Value) (k : Nat) (hk : ∀ x, (enc x).length = k) (ls : List α) : (ls.flatMap enc).length = ls.length * k := by
 induction ls with
 | nil => simp
 | cons a ls ih => rw [List.flatMap_cons, List.length_append, hk, ih, List.length_cons, Nat.add_mul, Nat.one_mul]; omega
variable [Inhabited α]
theorem flatK_gen (enc : α → List Value) (k : Nat) (hk : ∀ x, (enc x).length = k) (h0 : 0 < k) (ls : List α) : (flatK enc k ls.toArray).toList = ls.flatMap enc := by
 apply List.ext_getElem?
 intro i
 by_cases hi : i < ls.length * k
 ·
  have hj : i / k < ls.length := Nat.div_lt_of_lt_mul (by rw [Nat.mul_comm]; exact hi)
  have ht : i % k < k := Nat.mod_lt _ h0
  have h1 : (flatK enc k ls.toArray).toList[i]? = some ((enc ls[i / k])[i % k]!) := by
   rw [Array.getElem?_toList, Array.getElem?_eq_getElem (by simpa using hi)]; simp [flatK, hj]
  have h2 := flat_get enc k hk ls (i / k) (i % k) hj ht
  rw [show i / k * k + i % k = i by rw [Nat.mul_comm]; exact Nat.div_add_mod i k] at h2
  rw [h1, h2, List.getElem?_eq_getElem (by rw [hk]; exact ht), getElem!_pos _ _ (by rw [hk]; exact ht)]
 · rw [List.getElem?_eq_none (by simp; omega), List.getElem?_eq_none (by rw [flat_len enc k hk]; omega)]
theorem Row.holdsG {w : World} {g cap k : Nat} {e : TypeId} (enc : α → List Value) (hk : ∀ x, (enc x).length = k) (h0 : 0 < k) {ls : List α} (h : Row w g e k cap (ls.flatMap enc)) : HoldsK enc k w g 0 ls.toArray := by
 intro j hj
 have hj' : j < (ls.flatMap enc).length := by rw [flat_len enc k hk]; simpa using hj
 refine ⟨?_, h.frozen _⟩
 rw [Nat.zero_add, h.cell j hj']
 have := flatK_gen enc k hk h0 ls
 congr 1
 have h2 : (flatK enc k ls.toArray).toList[j]? = some ((ls.flatMap enc)[j]) := by rw [this]; simp [hj']
 rw [Array.getElem?_toList] at h2
 simp [getElem!_def, h2]
theorem Row.sortedG {w : World} {g cap n k : Nat} {e : TypeId} {os : Array Obj} (enc : α → List Value) (hk : ∀ x, (enc x).length = k) (h0 : 0 < k) {ls ts : List α} (h : Row w g e k cap (ls.flatMap enc)) (hl : ts.length = ls.length) :
  Row (sortWorldK enc k w g 0 n ts.toArray os) g e k cap (ts.flatMap enc) ∧ w.grownBy (sortWorldK enc k w g 0 n ts.toArray os) (some g) := by
 obtain ⟨cur, hg, hs, hle, hm, ht⟩ := h
 have hlt : g < w.heap.size := (Array.getElem?_eq_some_iff.1 hg).1
 have hcur : (sortWorldK enc k w g 0 n ts.toArray os).heap[g]? = some (.cells (putCells id 0 (flatK enc k ts.toArray) cur) e (0, 0)) := by
  unfold sortWorldK
  rw [heap_grow_old _ _ (by simpa [putRowK, putRow, mapBlock, Sort.ahead] using hlt)]
  simp [putRowK, putRow, mapBlock, Sort.ahead, Array.getElem?_modify, hg, onCells]
 have hlen : (ts.flatMap enc).length = (ls.flatMap enc).length := by rw [flat_len enc k hk, flat_len enc k hk, hl]
 refine ⟨⟨_, hcur, by simpa [putCells] using hs, by rw [hlen]; exact hle, hm, ?_⟩, ⟨rfl, rfl, rfl, by simp [sortWorldK, grow, putRowK, putRow, mapBlock, Sort.ahead], fun q hq hne => ?_⟩⟩
 ·
  apply List.ext_getElem?
  intro j
  by_cases hj : j < (ts.flatMap enc).length
  ·
   rw [List.getElem?_take_of_lt hj, Array.getElem?_toList]; have hjc : j < cur.size := by rw [hlen] at hj; omega
   have h2 : (flatK enc k ts.toArray)[j]? = (ts.flatMap enc)[j]? := by rw [← Array.getElem?_toList, flatK_gen enc k hk h0]
   rw [← h2]; have hf' : j < ts.length * k := by rw [← flat_len enc k hk]; exact hj
   simp [putCells, hf', hjc]
  · rw [List.getElem?_take_eq_none (by omega), List.getElem?_eq_none (by omega)]
 ·
  unfold sortWorldK
  rw [heap_grow_old _ _ (by simpa [putRowK, putRow, mapBlock, Sort.ahead] using hq)]
  have : g ≠ q := fun e => hne (by rw [e])
  simp [putRowK, putRow, mapBlock, Sort.ahead, Array.getElem?_modify, this]
end
theorem cmpT_walk (k1 k2 : Int) (a b : Option Addr) (ca cb : Nat) (x y : List Lk) (w : World) (hx : RdL w a x) (hy : RdL w b y) (hxl : x.length ≤ 9223372036854775807) (hyl : y.length ≤ 9223372036854775807) :
  Calls Tryz.prog 38 #[.agg #[.int .i64 k1, .slice a x.length ca], .agg #[.int .i64 k2, .slice b y.length cb]] w (RetG w (cmpLs x y)) := by
 obtain ⟨z, hz⟩ : ∃ z, z = cmpLs x y := ⟨_, rfl⟩
 have hcon := fun (w : World) (hx : RdL w a x) (hy : RdL w b y) => compareP_walkG a b ca cb x y w hx hy hxl hyl
 rw [← hz] at hcon ⊢
 have hx2 := (hx.below (bl_alloc w (.cells #[.int .i64 k1, .slice a x.length ca] 49))).below (bl_alloc _ (.cells #[.int .i64 k2, .slice b y.length cb] 49))
 have hy2 := (hy.below (bl_alloc w (.cells #[.int .i64 k1, .slice a x.length ca] 49))).below (bl_alloc _ (.cells #[.int .i64 k2, .slice b y.length cb] 49))
 have hgr := gr_trans (gr_alloc w (.cells #[.int .i64 k1, .slice a x.length ca] 49)) (gr_alloc _ (.cells #[.int .i64 k2, .slice b y.length cb] 49))
 have Hcon := Lib.hid hcon
 clear hz hcon hx hy hxl hyl
 go_enter Tryz.func38, Tryz.ntmps38
 go_wp2_with fail
 refine (Hcon.out _ hx2 hy2).mono ?_
 rintro e w' ⟨rfl, hg⟩
 have hg2 := gr_trans hgr hg
 clear hgr hx2 hy2 hg
 go_wp2_with fail
 go_ret
 exact ⟨rfl, hg2⟩
theorem sortP_walk (B g cap : Nat) (ps : List PtR) (w : World) (h : PtI w B g cap ps) (hd : ∀ x ∈ ps, ∀ y ∈ ps, x.1.2 = y.1.2 → x = y) (hne : ps ≠ []) (hsz : ps.length ≤ 1000000) :
  Calls Tryz.prog 37 #[.slice (some ⟨g, 0, none⟩) ps.length cap, .func (.func 38) #[] #[]] w
   fun e w' => e = .returned (.tuple #[]) ∧ ∃ ts, ts.Perm ps ∧ (ptQ ts).Pairwise LeP ∧ PtI w' B g cap ts ∧ w.grownBy w' (some g) := by
 have eg : ∀ args w, (callFunc 38 args).run Tryz.prog w = .ok (.enter 38 args) w := enters_of Tryz.func38 (by kernel_rfl) rfl
 obtain ⟨p0, hp0⟩ := List.exists_mem_of_ne_nil _ hne
 letI : Inhabited {p : PtR // p ∈ ps} := ⟨⟨p0, hp0⟩⟩
 obtain ⟨enc, henc⟩ : ∃ enc : {p : PtR // p ∈ ps} → List Value, enc = fun p => [.int .i64 p.1.1.1, ptV p.1] := ⟨_, rfl⟩
 obtain ⟨cf, hcf⟩ : ∃ cf : {p : PtR // p ∈ ps} → {p : PtR // p ∈ ps} → Int, cf = fun x y => cmpLs x.1.1.2 y.1.1.2 := ⟨_, rfl⟩
 have hk : ∀ x, (enc x).length = 2 := fun x => by rw [henc]; rfl
 have hcells : ∀ l : List {p : PtR // p ∈ ps}, l.flatMap enc = ptC (l.map fun p => p.1) := fun l => by
  rw [henc]
  unfold ptC
  rw [List.flatMap_map]
 have hatt : ps.attach.map (fun p => p.1) = ps := List.attach_map_subtype_val ps
 have hrow : Row w g 49 2 cap (ps.attach.flatMap enc) := by rw [hcells, hatt]; exact h.row
 have hlt : ∀ x y, ltOf cf x y = decide (cmpLs x.1.1.2 y.1.1.2 < 0) := fun x y => by rw [hcf]; rfl
 have hO : SWO (ltOf cf) := by
  refine ⟨fun x => ?_, fun x y z h1 h2 => ?_, fun x y z h1 h2 => ?_⟩
  · rw [hlt, cmpLs_self]; rfl
  ·
   rw [hlt, decide_eq_true_eq] at *
   have a1 := cmpLs_lt_trans (a := x.1.1.2) (b := y.1.1.2) (c := z.1.1.2) (by omega) (by omega); refine Classical.byContradiction fun hno => ?_; have h0 : cmpLs x.1.1.2 z.1.1.2 = 0 := by omega
   rw [cmpLs_zero] at h0; rw [h0] at h1; have := cmpLs_swap y.1.1.2 z.1.1.2; omega
  ·
   rw [hlt, decide_eq_false_iff_not] at *
   have b1 := cmpLs_swap x.1.1.2 y.1.1.2; have b2 := cmpLs_swap y.1.1.2 z.1.1.2; have b3 := cmpLs_swap x.1.1.2 z.1.1.2; have a1 := cmpLs_lt_trans (a := z.1.1.2) (b := y.1.1.2) (c := x.1.1.2) (by omega) (by omega); omega
 have hcmp : CmpLays Tryz.prog 38 #[] enc 2 cf g 0 ps.attach.toArray.size w := by
  intro m os dk hdk x y
  have hg := (Row.sortedG (n := m) (os := os) enc hk (by omega) hrow (ts := dk.toList) (by simpa using hdk)).2
  have hx := h.each x.1 x.2
  have hy := h.each y.1 y.2
  have rx := hx.1.grown hg fun ad ha e => hx.2 ad ha (by cases e; rfl)
  have ry := hy.1.grown hg fun ad ha e => hy.2 ad ha (by cases e; rfl)
  have hxl := hx.1.2; have hyl := hy.1.2
  unfold maxLen at hxl hyl
  have hc := cmpT_walk x.1.1.1 y.1.1.1 x.1.2.1 y.1.2.1 x.1.2.2 y.1.2.2 x.1.1.2 y.1.1.2 _ rx.1 ry.1 (by omega) (by omega)
  rw [Array.toArray_toList] at hc
  have hc2 : Calls Tryz.prog 38 (#[.agg (enc x).toArray, .agg (enc y).toArray] ++ #[]) (sortWorldK enc 2 w g 0 m dk os) (RetG (sortWorldK enc 2 w g 0 m dk os) (cmpLs x.1.1.2 y.1.1.2)) := by
   have e1 : ∀ z, enc z = [.int .i64 z.1.1.1, .slice z.1.2.1 z.1.1.2.length z.1.2.2] := fun z => by rw [henc]; rfl
   rw [e1, e1]; exact hc
  refine hc2.mono ?_
  rintro e w' ⟨rfl, q, os', rfl⟩
  exact ⟨by rw [hcf], q, os', rfl⟩
 have hcon := AnyQ.slices_SortFunc_total Tryz.laySortP 2 Tryz.isAgg49 Tryz.sizeOf49 enc hk (fun x v hv => by rw [henc] at hv; simp at hv; rcases hv with rfl | rfl <;> rfl) cf hO 38 #[] g 0 cap ps.attach.toArray w eg
  hcmp (Row.holdsG enc hk (by omega) hrow) h.lt (by simp; omega) (fun x y h1 h2 => by
   rw [hlt, decide_eq_false_iff_not] at h1 h2; have := cmpLs_swap x.1.1.2 y.1.1.2; have h0 : cmpLs x.1.1.2 y.1.1.2 = 0 := by omega
   rw [cmpLs_zero] at h0
   exact Subtype.ext (hd x.1 x.2 y.1 y.2 h0))
 change Calls Tryz.prog 37 _ _ _ at hcon
 simp only [List.size_toArray, List.length_attach] at hcon
 refine hcon.mono ?_
 rintro e w' ⟨rfl, n, os, rfl⟩
 obtain ⟨ts, hts⟩ : ∃ ts, ts = ps.attach.mergeSort fun x y => !ltOf cf y x := ⟨_, rfl⟩
 have hperm : ts.Perm ps.attach := by rw [hts]; exact List.mergeSort_perm _ _
 have hsort : ts.Pairwise fun x y => cmpLs x.1.1.2 y.1.1.2 ≤ 0 := by
  have h1 := List.pairwise_mergeSort (le := fun x y => !ltOf cf y x) (fun a b c h1 h2 => by
   simp only [hlt, Bool.not_eq_true', decide_eq_false_iff_not] at *
   have b1 := cmpLs_swap a.1.1.2 b.1.1.2; have b2 := cmpLs_swap b.1.1.2 c.1.1.2; have b3 := cmpLs_swap a.1.1.2 c.1.1.2; have a1 := cmpLs_lt_trans (a := a.1.1.2) (b := b.1.1.2) (c := c.1.1.2) (by omega) (by omega)
   omega) (fun a b => by
   simp only [hlt, Bool.or_eq_true, Bool.not_eq_true', decide_eq_false_iff_not]; have b1 := cmpLs_swap a.1.1.2 b.1.1.2
   omega) ps.attach
  rw [← hts] at h1
  exact h1.imp fun {a b} hab => by
   simp only [hlt, Bool.not_eq_true', decide_eq_false_iff_not] at hab; have b1 := cmpLs_swap a.1.1.2 b.1.1.2; omega
 obtain ⟨r1, r2⟩ := Row.sortedG (n := n) (os := os) enc hk (by omega) hrow (ts := ts) (by rw [hperm.length_eq])
 rw [hts] at r1 r2
 have hpm : (ts.map fun p => p.1).Perm ps := by
  have := hperm.map fun p => p.1
  rw [hatt] at this; exact this
 refine ⟨rfl, ts.map fun p => p.1, hpm, ?_, ⟨?_, ?_, h.lo, fun p hp => ?_⟩, r2⟩
 ·
  unfold ptQ LeP
  rw [List.map_map, List.pairwise_map]
  exact hsort
 · rw [← hcells, hts]; exact r1
 · rw [hpm.length_eq]; exact h.len
 ·
  obtain ⟨e1, e2⟩ := h.each p (hpm.mem_iff.1 hp)
  exact ⟨e1.grown r2 fun ad ha e => e2 ad ha (by cases e; rfl), e2⟩
end Go.Proofs.YtagcbnpahgfgmaaGreat
namespace Go.Proofs.YtagcbnpahgfgmaaGreat
open Go Go.RowKit
def wantT (ls : List Lk) : Bool := twoL ls && (!(ls.any fun k => k.2.2 != 0) && decide (3 ≤ (vertsL ls).length))
def RetTe (w : World) (ls : List Lk) (e : Ending) (w' : World) : Prop :=
 Below w.heap.size w w' ∧ ((wantT ls = true ∧ ∃ a c T, e = .returned (.tuple #[.slice a T.length c, .int .i64 0]) ∧ RdQ w' a T ∧ TreeTo kindL ls T ∧ T.length ≤ c ∧ c ≤ maxLen) ∨ (wantT ls = false ∧ e = .returned (.tuple #[.slice none 0 0, .int .i64 150])))
theorem virtual_walk (k : Lk) (w : World) :
  Calls Tryz.prog 32 #[.agg #[.int .i64 k.1, .int .i64 k.2.1, .int .i64 k.2.2]] w fun e w' => e = .returned (.bool (k.2.2 != 0)) ∧ Below w.heap.size w w' := by
 obtain ⟨x, y, v⟩ := k
 simp only
 obtain ⟨t, ht⟩ : ∃ t, t = (v != 0) := ⟨_, rfl⟩
 rw [← ht]
 cases t with
 | true =>
  have e1 : (v != 0) = true := ht.symm
  clear ht
  go_enter Tryz.func32, Tryz.ntmps32
  go_wp2_with fail
  go_ret
  exact ⟨by first | rfl | (rw [e1]; rfl), bl_alloc w _⟩
 | false =>
  have e1 : (v != 0) = false := ht.symm
  clear ht
  go_enter Tryz.func32, Tryz.ntmps32
  go_wp2_with fail
  go_ret
  exact ⟨by first | rfl | (rw [e1]; rfl), bl_alloc w _⟩
theorem cell_lt {w : World} {a : Addr} {v : Value} (h : w.cell? a = some v) : a.block < w.heap.size := by
 rcases Nat.lt_or_ge a.block w.heap.size with h' | h'
 · exact h'
 · simp [World.cell?, Array.getElem?_eq_none h'] at h
theorem news2 (W : World) (t : TypeId) (x y : Value) : ∀ (j : Nat) v, [x, y][j]? = some v → (W.alloc (.cells #[x, y] t)).cell? ((⟨W.heap.size, 0, none⟩ : Addr).add j) = some v := by
 intro j v hj
 match j with
 | 0 => simp at hj; subst hj; simp [Addr.add]
 | 1 => simp at hj; subst hj; simp [Addr.add]
 | j + 2 => simp at hj
def PtsI (w0 wj : World) (vo : Value) (ps : List PtR) : Prop :=
 Own wj vo 49 2 ps.length (ptC ps) ∧ (∀ p ∈ ps, RowP wj p ∧ ∀ ad, p.2.1 = some ad → ad.block < w0.heap.size) ∧ (∀ g, vo.ownBlock = some g → w0.heap.size ≤ g) ∧ Below w0.heap.size w0 wj
theorem PtsI.pt {w0 wj : World} {vo : Value} {ps : List PtR} (h : PtsI w0 wj vo ps) (hn : ps ≠ []) : ∃ g cap, vo = .slice (some ⟨g, 0, none⟩) ps.length cap ∧ PtI wj w0.heap.size g cap ps := by
 obtain ⟨h1, h2, h3, h4⟩ := h
 rcases h1.2 with ⟨rfl, h0⟩ | ⟨g, cap, rfl, hc, hr⟩
 · exact absurd (List.eq_nil_of_length_eq_zero h0) hn
 ·
  have hg := h3 g rfl
  exact ⟨g, cap, rfl, hr, hc, hg, fun p hp => ⟨(h2 p hp).1, fun ad ha => by have := (h2 p hp).2 ad ha; omega⟩⟩
theorem tree_distinct {ls : List Lk} {ps : List PtR} (h : QI ls (ptQ ps)) : ∀ x ∈ ps, ∀ y ∈ ps, x.1.2 = y.1.2 → x = y := by
 intro x hx y hy he
 obtain ⟨i, hi, rfl⟩ := List.getElem_of_mem hx
 obtain ⟨j, hj, rfl⟩ := List.getElem_of_mem hy
 by_cases hij : i = j
 · subst hij; rfl
 ·
  obtain ⟨R, hR⟩ := perm_any (Q := ptQ ps) hij (by rw [ptQ_len]; exact hi) (by rw [ptQ_len]; exact hj)
  exact absurd (by simpa [ptQ] using he) (h.distinct hR)
theorem qi_ne {ls : List Lk} {Q : List Pt} (h : QI ls Q) : Q ≠ [] := fun e => by
 obtain ⟨D, hT, _⟩ := h.tree
 have := hT.len
 rw [e] at this
 simp at this
theorem three_links {ls : List Lk} (h : twoL ls = true) (h3 : 3 ≤ (vertsL ls).length) : 3 ≤ ls.length := by
 refine Classical.byContradiction fun hno => ?_
 have h1 := vertsL_length ls
 match ls, h1, hno with
 | [], h1, _ => have e : ([] : List Lk).length = 0 := rfl; omega
 | [x], h1, _ => have e : [x].length = 1 := rfl; omega
 | _ :: _ :: _ :: _, _, hno => simp only [List.length_cons] at hno; omega
 | [e, f], _, _ =>
  obtain ⟨g1, m1, n1, v1⟩ := two_deg h h3 (e := e) (by simp) (.inl rfl)
  obtain ⟨g2, m2, n2, v2⟩ := two_deg h h3 (e := e) (by simp) (.inr rfl)
  have e1 : g1 = f := by simp at m1; exact m1.resolve_left n1
  have e2 : g2 = f := by simp at m2; exact m2.resolve_left n2
  rw [e1] at v1
  rw [e2] at v2
  have hR := (two_right h).2.1
  have ok1 := hR e (by simp); have ok2 := hR f (by simp)
  unfold OkL at ok1 ok2
  have hsub := RightQ.sub_len (verts_nodup [e, f]) (m := [e.1, e.2.1]) fun x hx => by
   obtain ⟨k, hk, hx⟩ := (mem_vertsL _ _).1 hx; simp at hk ⊢; rcases hk with rfl | rfl <;> omega
  simp only [List.length_cons, List.length_nil] at hsub
  omega
set_option maxRecDepth 100000 in
set_option maxHeartbeats 8000000 in
theorem stree_walk (a : Option Addr) (cap : Nat) (ls : List Lk) (w : World) (hr : RdL w a ls) (hcap : ls.length ≤ 9223372036854775807) :
  Calls Tryz.prog 7 #[.slice a ls.length cap] w (RetTe w ls) := by
 cases h2 : twoL ls with
 | false =>
  have hw : wantT ls = false := by unfold wantT; rw [h2]; rfl
  have H2 := Lib.hid h2; have Hw := Lib.hid hw
  clear h2 hw
  go_enter Tryz.func7, Tryz.ntmps7
  go_wp2_with fail
  refine (two_walk a cap ls _ hr hcap).mono ?_
  rw [H2.out]
  rintro e w1 ⟨rfl, hb1⟩
  go_wp2_with fail
  go_ret2
  exact ⟨hb1, .inr ⟨Hw.out, rfl⟩⟩
 | true =>
  have hRl := two_right h2
  have hn := hRl.1
  cases hv : ls.any (fun k => k.2.2 != 0) with
  | true =>
   have hw : wantT ls = false := by unfold wantT; rw [h2, hv]; rfl
   have H2 := Lib.hid h2; have Hw := Lib.hid hw; have Hv := Lib.hid hv; clear h2 hw hv hRl; go_enter Tryz.func7, Tryz.ntmps7; go_wp2_with fail; refine (two_walk a cap ls _ hr hcap).mono ?_; rw [H2.out]; rintro e w1 ⟨rfl, hb1⟩; have hr1 := hr.below hb1; go_wp2_with fail; refine (contains_walk0 (fun k => k.2.2 != 0) a cap ls _ hr1 (by omega) (fun k _ w1 _ => virtual_walk k w1)).mono ?_; rw [Hv.out]; rintro e w2 ⟨rfl, hb2⟩; have hB2 := bl_trans hb1 hb2; go_wp2_with fail; go_ret2; exact ⟨hB2, .inr ⟨Hw.out, rfl⟩⟩
  | false =>
   have hvl : (vertsL ls).length ≤ 2000 := by have := vertsL_length ls; omega
   have hv0 : ∀ k ∈ ls, k.2.2 = 0 := fun k hk => by
    have := List.any_eq_false.1 hv k hk; simpa using this
   by_cases h3 : (vertsL ls).length < 3
   ·
    have hw : wantT ls = false := by
     unfold wantT; rw [h2, hv, decide_eq_false (by omega)]; rfl
    obtain ⟨vs, hvs⟩ : ∃ vs, vs = vertsL ls := ⟨_, rfl⟩
    rw [← hvs] at h3 hvl; have e3 : decide ((vs.length : Int) < 3) = true := by simp; omega
    have H2 := Lib.hid h2; have Hw := Lib.hid hw; have Hv := Lib.hid hv; have Hvs := Lib.hid hvs; clear h2 hw hv h3 hv0 hvs hRl; go_enter Tryz.func7, Tryz.ntmps7; go_wp2_with fail; refine (two_walk a cap ls _ hr hcap).mono ?_; rw [H2.out]; rintro e w1 ⟨rfl, hb1⟩; have hr1 := hr.below hb1; go_wp2_with fail; refine (contains_walk0 (fun k => k.2.2 != 0) a cap ls _ hr1 (by omega) (fun k _ w1 _ => virtual_walk k w1)).mono ?_; rw [Hv.out]; rintro e w2 ⟨rfl, hb2⟩; have hB2 := bl_trans hb1 hb2; have hr2 := hr1.below hb2; go_wp2_with fail; refine (verts_walk a cap ls _ hr2 (by omega)).mono ?_; rw [← Hvs.out]; rintro e w3 ⟨av, cv, rfl, _, _, _, _, hb3⟩; have hB3 := bl_trans hB2 hb3; go_wp2_with fail; go_ret2; exact ⟨hB3, .inr ⟨Hw.out, rfl⟩⟩
   ·
    have hw : wantT ls = true := by
     unfold wantT; rw [h2, hv, decide_eq_true (by omega)]; rfl
    obtain ⟨vs, hvs⟩ : ∃ vs, vs = vertsL ls := ⟨_, rfl⟩
    rw [← hvs] at h3 hvl; have e3 : decide ((vs.length : Int) < 3) = false := by simp; omega
    have hl3 : 3 ≤ ls.length := three_links h2 (by rw [← hvs]; omega); have hspl := fun (w : World) (hr : RdL w a ls) => split_walk a cap ls 1 w hr h2 (by omega) (by omega) (fun k hk => by rw [hv0 k hk]; omega); have hok := fun (out : List (List Lk)) (n : Int) (h : SplitTo ls 1 out n) => h.ok hRl hv0 hl3; have H2 := Lib.hid h2; have Hw := Lib.hid hw; have Hv := Lib.hid hv; have Hvs := Lib.hid hvs; have Hok := Lib.hid hok; have Hspl := Lib.hid hspl; have HRl := Lib.hid hRl; clear h2 hw hv h3 hv0 hvs hok hspl hRl; go_enter Tryz.func7, Tryz.ntmps7; go_wp2_with fail; refine (two_walk a cap ls _ hr hcap).mono ?_; rw [H2.out]; rintro e w1 ⟨rfl, hb1⟩; have hr1 := hr.below hb1; go_wp2_with fail; refine (contains_walk0 (fun k => k.2.2 != 0) a cap ls _ hr1 (by omega) (fun k _ w1 _ => virtual_walk k w1)).mono ?_; rw [Hv.out]; rintro e w2 ⟨rfl, hb2⟩; have hB2 := bl_trans hb1 hb2; have hr2 := hr1.below hb2; clear hb1 hb2 hr1; go_wp2_with fail; refine (verts_walk a cap ls _ hr2 (by omega)).mono ?_; rw [← Hvs.out]; rintro e w3 ⟨av, cv, rfl, _, _, _, _, hb3⟩; have hB3 := bl_trans hB2 hb3; have hr3 := hr2.below hb3; clear hB2 hb3 hr2; go_wp2_with fail; refine (Hspl.out _ hr3).mono ?_; rintro e w4 ⟨a4, c4, out, n, rfl, hro, hso, hol, hoe, hb4⟩; have hB4 := bl_trans hB3 hb4; have hpo := Hok.out out n hso; have Hso := Lib.hid hso; have Hpo := Lib.hid hpo; clear hb4 hr3 hB3 hso hpo hr; have hI0 : PtsI w4 w4 (.slice none 0 0) [] := ⟨own_nil _ _ _, fun p hp => by simp at hp, fun g hg => by simp [Value.ownBlock] at hg, bl_refl w4⟩
    go_wp2_with fail; go_loopg [8, 35] out.length (fun r vo iv wj => ∃ (i : Nat) (ps : List PtR), i + r = out.length ∧ iv = .int .i64 i ∧ ps.length = i ∧ ptQ ps = (out.take i).map (fun p => (kindL p, p)) ∧ PtsI w4 wj vo ps)
    case atStart => exact ⟨0, [], by omega, rfl, rfl, by simp [ptQ], hI0⟩
    case round =>
     clear hI0; obtain ⟨i, ps, hi, rfl, hpl, hpq, hI⟩ := hrel; have Hi := Lib.hid hi; have Hpq := Lib.hid hpq; have Hpl := Lib.hid hpl; have HI := Lib.hid hI; by_cases hil : i < out.length
     ·
      obtain ⟨r, hrr⟩ : ∃ r, r = out[i] := ⟨_, rfl⟩
      have hoi : out[i]? = some r := by rw [hrr]; exact List.getElem?_eq_getElem hil
      have hrm : r ∈ out := by rw [hrr]; exact List.getElem_mem hil
      obtain ⟨bo, oo, au, cu, rfl, c0, rl0, cu1, cu2⟩ := hro i r hoi; have c1 := keep_cell hI.2.2.2 c0; have rl1 := rl0.below hI.2.2.2; have hr3 := Hpo.out.three r hrm; have hre := hoe r hrm; have haul : ∀ ad, au = some ad → ad.block < w4.heap.size := fun ad ha => by
       obtain ⟨b, o, h1, h2, -⟩ := rl0.at 0 (by omega); rw [ha] at h1; cases h1; exact cell_lt h2
      have htk : (out.take (i + 1)).map (fun p => (kindL p, p)) = (out.take i).map (fun p => (kindL p, p)) ++ [(kindL r, r)] := by
       rw [List.take_succ_eq_append_getElem hil, List.map_append, ← hrr]; rfl
      have Htk := Lib.hid htk; have i1 : (i : Int) < (out.length : Int) := by omega
      have Haul := Lib.hid haul; have Hrl0 := Lib.hid rl0; clear hi hpq hpl hI hrr hoi hrm c0 rl0 haul htk; go_wp2_with fail; refine (kind_walk au cu r _ rl1 (by omega)).mono ?_; rintro e w5 ⟨rfl, hb5⟩; obtain ⟨kd, hkd⟩ : ∃ kd, kd = kindL r := ⟨_, rfl⟩
      rw [← hkd]; have Hkd := Lib.hid hkd; have hown5 : Own w5 u8 49 2 ps.length (ptC ps) := HI.out.1.below fun g hg => hb5.block g (Own.lt HI.out.1 hg); have hB5 : Below w4.heap.size w4 w5 := bl_trans HI.out.2.2.2 hb5; have hps : ps.length ≤ 1001 := by rw [Hpl.out]; omega
      have hold : ∀ p ∈ ps, RowP w5 p ∧ ∀ ad, p.2.1 = some ad → ad.block < w4.heap.size := fun p hp => ⟨(HI.out.2.1 p hp).1.below hb5, (HI.out.2.1 p hp).2⟩
      have hlo := HI.out.2.2.1; clear hkd hb5 HI c1 rl1; have hlr : RdL w5 au r := Hrl0.out.below hB5; have hA5 := hown5.alloc (.cells #[.int .i64 kd, .slice au r.length cu] 49); go_wp2_with (at_builtin; refine wpList_append_row _ rfl (.tmp 39) (.tmp 44) 24 rfl 49 (.agg #[.int .i64 0, .slice none 0 0]) 2 32 Tryz.underlying24 info_part (by decide +kernel) u8 ps.length _ rfl hA5 ⟨w5.heap.size, 0, none⟩ 1 1 [.int .i64 kd, .slice au r.length cu] rfl rfl (news2 w5 _ _ _) (by intro u hu; simp at hu; rcases hu with rfl | rfl <;> rfl) (by omega) (by unfold maxLen; omega) (by omega) ?_; intro g6 c6 w6 hr6 hc6 hg6 hor6); have hb56 : Below w4.heap.size w4 w6 := (bl_trans hB5 (bl_alloc w5 _)).grown hg6 (by have := hB5.size; simp; omega) hlo; have hg56 : w5.grownBy w6 u8.ownBlock := ⟨hg6.os, hg6.tape, hg6.output, by have := hg6.size; simp at this; omega, fun k hk hne => (hg6.block k (by simp; omega) hne).trans (Below.heap_alloc w5 _ k hk)⟩
      have hlo6 : w4.heap.size ≤ g6 := by
       rcases hor6 with h | h
       · exact hlo g6 h
       · have := hB5.size; simp at h; omega
      have hI6 : PtsI w4 w6 (.slice (some ⟨g6, 0, none⟩) (ps.length + 1) c6) (ps ++ [((kd, r), au, cu)]) := by
       refine ⟨⟨by rw [ptC_len], .inr ⟨g6, c6, by simp, by simpa using hc6, ?_⟩⟩, fun p hp => ?_, fun g hg => by cases hg; exact hlo6, hb56⟩
       · rw [ptC_append]; exact hr6
       ·
        rcases List.mem_append.1 hp with hp | hp
        · exact ⟨(hold p hp).1.grown hg56 (fun ad ha e => by have h1 := (hold p hp).2 ad ha; have h2 := hlo _ e; omega), (hold p hp).2⟩
        ·
         simp at hp; subst hp; exact ⟨⟨Hrl0.out.below hb56, cu1, cu2, fun ad ha => by have := Haul.out ad ha; have := hb56.size; omega⟩, Haul.out⟩
      have HI6 := Lib.hid hI6; clear hI6 hr6 hc6 hg6 hor6 hb56 hg56 hlo6 hA5 hlr hown5 hB5 hold hlo; go_wp2_with fail; go_roundg (gk - 1)
      case measure => have := Hi.out; omega
      case rel => exact ⟨i + 1, ps ++ [((kd, r), au, cu)], by have := Hi.out; omega, by go_num, by rw [List.length_append, Hpl.out]; rfl, by rw [Htk.out, ← Hpq.out, ← Hkd.out]; simp [ptQ], HI6.out⟩
     ·
      have hin : i = out.length := by omega
      have hq := Hpo.out.qi (by exact HRl.out.1) kindL; rw [hin, List.take_length] at hpq; rw [← hpq] at hq; have hne : ps ≠ [] := fun e => qi_ne hq (by rw [e]; rfl); obtain ⟨g, cp, rfl, hP⟩ := hI.pt hne; have hp1000 : ps.length ≤ 1000 := by
       have h1 := hq.len; rw [ptQ_len] at h1; have := HRl.out.1; omega
      have hB := hI.2.2.2; have Hq := Lib.hid hq; have HP := Lib.hid hP; have HB := Lib.hid hB; rw [hpl, hin] at hp1000; have e9 : ps.length = out.length := by rw [hpl, hin]
      have hmg := merged_walk w4.heap.size g cp ps ls wr hP hq HRl.out.1 (by rw [e9]; exact hp1000); have E9 := Lib.hid e9; have Hmg := Lib.hid hmg; clear hq hP hB HI hI hpq hpl hi e9 hmg hne hp1000 Hpl; subst hin; go_wp2_with fail; refine Hmg.out.mono ?_; rintro e w5 ⟨pm, rfl, hP5, hto, hnm, hB5⟩; have hqm := hto.qi HRl.out.1 Hq.out; have hnem : pm ≠ [] := fun e => qi_ne hqm (by rw [e]; rfl); have hlm : pm.length ≤ 1000 := by
       have h1 := hqm.len; rw [ptQ_len] at h1; have := HRl.out.1; omega
      have hsort := sortP_walk w4.heap.size g cp pm w5 hP5 (tree_distinct hqm) hnem (by omega); have hlo5 := hP5.lo; have hsz5 : w4.heap.size ≤ w5.heap.size := by have := hP5.lt; omega
      have HB5 := Lib.hid (HB.out.trans hB5); have Hto := Lib.hid hto; have Hnm := Lib.hid hnm; clear hqm hnem hP5 hto hnm hB5 Hmg HB; go_wp2_with fail; refine hsort.mono ?_; rintro e w6 ⟨rfl, ts, hpt, hso, hP6, hg6⟩; have hB6 : Below w4.heap.size w4 w6 := HB5.out.grown hg6 hsz5 (fun k hk => by cases hk; exact hlo5); have hBw := bl_trans hB4 hB6; have hlen6 : ts.length = pm.length := hpt.length_eq; have hfin : TreeTo kindL ls (ptQ ts) := ⟨out, n, ptQ pm, Hso.out, by have := Hpq.out; rw [List.take_length] at this; rw [← this]; exact Hto.out, Hnm.out, (hpt.map _).symm, hso⟩
      have Hfin := Lib.hid hfin; have HP6 := Lib.hid hP6; clear hfin hP6 hB6 hg6 hso hsort hpt HB5 hB4; go_wp2_with fail; go_ret2; exact ⟨hBw, .inl ⟨Hw.out, some ⟨g, 0, none⟩, cp, ptQ ts, by rw [ptQ_len, hlen6]; rfl, HP6.out.rdq, Hfin.out, by rw [ptQ_len]; exact HP6.out.len, HP6.out.cap_le⟩⟩
end Go.Proofs.YtagcbnpahgfgmaaGreat
