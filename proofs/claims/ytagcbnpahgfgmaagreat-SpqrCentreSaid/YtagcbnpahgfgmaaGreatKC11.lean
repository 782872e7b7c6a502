/- Facts that the claim rests on, part 12. -/
import Derived.Test.YtagcbnpahgfgmaaGreatKC10
namespace Go.Proofs.YtagcbnpahgfgmaaGreat
open Go Go.RowKit
def RetJ (w : World) (ls : List Lk) (e : Ending) (w' : World) : Prop :=
 ∃ v, e = .returned (.tuple #[v, .int .i64 0]) ∧ OwnL w' v ls ∧ (∀ g, v.ownBlock = some g → w.heap.size ≤ g) ∧ Below w.heap.size w w'
theorem drop_at {x x1 x2 : List Lk} {e : Lk} (h : x = x1 ++ e :: x2) (hn : x.Nodup) (hu : ∀ k ∈ x, k.2.2 = e.2.2 → k = e) : dropV e.2.2 x = x1 ++ x2 := by
 subst h
 rw [List.nodup_append] at hn
 obtain ⟨h1, h2, h3⟩ := hn
 rw [List.nodup_cons] at h2
 rw [dropV_append]
 have a1 : dropV e.2.2 x1 = x1 := dropV_self fun k hk hv => h3 k hk e (by simp) (hu k (by simp [hk]) hv)
 have a2 : dropV e.2.2 (e :: x2) = x2 := by
  unfold dropV
  rw [List.filter_cons, if_neg (by simp)]
  exact dropV_self fun k hk hv => h2.1 (by rw [← hu k (by simp [hk]) hv]; exact hk)
 rw [a1, a2]
theorem idx_at {x x1 x2 : List Lk} {e : Lk} (h : x = x1 ++ e :: x2) (hn : x.Nodup) (hu : ∀ k ∈ x, k.2.2 = e.2.2 → k = e) : idxL (fun k => k.2.2 == e.2.2) x = (x1.length : Int) := by
 subst h
 rw [List.nodup_append] at hn
 obtain ⟨h1, h2, h3⟩ := hn
 unfold idxL
 have : (x1 ++ e :: x2).findIdx? (fun k => k.2.2 == e.2.2) = some x1.length := by
  rw [List.findIdx?_eq_some_iff_getElem]
  refine ⟨by simp, by simp, fun j hj => ?_⟩
  rw [List.getElem_append_left hj]
  intro hv
  have hv := beq_iff_eq.1 hv
  exact h3 _ (List.getElem_mem hj) e (by simp) (hu _ (by simp [List.getElem_mem hj]) hv)
 rw [this]
theorem tail_no {x x1 x2 : List Lk} {e : Lk} (h : x = x1 ++ e :: x2) (hn : x.Nodup) (hu : ∀ k ∈ x, k.2.2 = e.2.2 → k = e) : (x2.any fun k => k.2.2 == e.2.2) = false := by
 subst h
 rw [List.nodup_append] at hn
 obtain ⟨h1, h2, h3⟩ := hn
 rw [List.nodup_cons] at h2
 rw [List.any_eq_false]
 intro k hk hv
 exact h2.1 (by rw [← hu k (by simp [hk]) (by simpa using hv)]; exact hk)
def fromA (b o k cap : Nat) : Option Addr := if cap = k then some ⟨b, o, none⟩ else some ⟨b, o + k * 3, none⟩
theorem rdL_from {w : World} {b o : Nat} {ls : List Lk} (h : RdL w (some ⟨b, o, none⟩) ls) (k cap : Nat) (hk : k ≤ ls.length) (hc : ls.length ≤ cap) : RdL w (fromA b o k cap) (ls.drop k) := by
 unfold fromA
 split
 ·
  rename_i e
  have : ls.drop k = [] := List.drop_eq_nil_of_le (by omega)
  rw [this]; exact rdL_nil _ _
 ·
  intro i u hu
  have e : lkCells ls = lkCells (ls.take k) ++ lkCells (ls.drop k) := by rw [← lkCells_append, List.take_append_drop]
  have hl : (lkCells (ls.take k)).length = k * 3 := by rw [lkCells_length, List.length_take]; omega
  obtain ⟨b', o', ha, hc⟩ := h (k * 3 + i) u (by rw [e, List.getElem?_append_right (by omega), hl, show k * 3 + i - k * 3 = i by omega]; exact hu)
  cases ha
  exact ⟨b, o + k * 3, rfl, by rw [← Nat.add_assoc] at hc; exact hc⟩
theorem rdL_head {w : World} {a : Option Addr} {ls : List Lk} (h : RdL w a ls) (k : Nat) : RdL w a (ls.take k) := by
 intro i u hu
 have e : lkCells ls = lkCells (ls.take k) ++ lkCells (ls.drop k) := by rw [← lkCells_append, List.take_append_drop]
 have hi := (List.getElem?_eq_some_iff.1 hu).1
 exact h i u (by rw [e, List.getElem?_append_left hi]; exact hu)
theorem run_from (b o n cap k : Nat) (hk : k ≤ n) (w : World) : (Instr.slice 22 (.slice (some ⟨b, o, none⟩) n cap) (some (.int .i64 k)) none none).run Tryz.prog w = .ok (.slice (fromA b o k cap) (n - k) (cap - k)) w := by
 have hu : Tryz.prog.underlying 22 = some (.slice (Tryz.prog.elem 22)) := by kernel_rfl
 have hs : ∀ w, (sizeOf (Tryz.prog.elem 22)).run Tryz.prog w = .ok 3 w := fun w => by kernel_rfl
 rw [run_slice_l w 22 (some ⟨b, o, none⟩) n cap hu .i64 k (by omega) (by omega), hs]
 unfold fromA sliced
 simp only [Result.andThen, Int.toNat_natCast]
 split <;> simp [Addr.add]
set_option maxRecDepth 100000 in
set_option maxHeartbeats 8000000 in
theorem join_walk (b o ca b' o' cb : Nat) (x y : List Lk) (e : Lk) (w : World) (hrx : RdL w (some ⟨b, o, none⟩) x) (hry : RdL w (some ⟨b', o', none⟩) y) (hca : x.length ≤ ca) (hcb : y.length ≤ cb) (hcam : ca ≤ maxLen) (hcbm : cb ≤ maxLen)
  (Rx : RightL x) (Ry : RightL y) (hv : 1 ≤ e.2.2 ∧ e.2.2 ≤ 1048576) (hx : e ∈ x) (hy : e ∈ y) (ux : ∀ k ∈ x, k.2.2 = e.2.2 → k = e) (uy : ∀ k ∈ y, k.2.2 = e.2.2 → k = e) (hR : RightL (joinL x y e.2.2)) :
  Calls Tryz.prog 73 #[.slice (some ⟨b, o, none⟩) x.length ca, .slice (some ⟨b', o', none⟩) y.length cb, .int .i64 e.2.2] w (RetJ w (joinL x y e.2.2)) := by
 obtain ⟨x1, x2, hxe⟩ := List.append_of_mem hx
 obtain ⟨y1, y2, hye⟩ := List.append_of_mem hy
 have dx := drop_at hxe (right_nodup Rx) ux
 have dy := drop_at hye (right_nodup Ry) uy
 have ix := idx_at hxe (right_nodup Rx) ux
 have iy := idx_at hye (right_nodup Ry) uy
 have tx := tail_no hxe (right_nodup Rx) ux
 have ty := tail_no hye (right_nodup Ry) uy
 have hJ : joinL x y e.2.2 = sortL (x1 ++ x2 ++ (y1 ++ y2)) := by unfold joinL; rw [dx, dy]
 have hlx : x.length = x1.length + x2.length + 1 := by rw [hxe]; simp; omega
 have hly : y.length = y1.length + y2.length + 1 := by rw [hye]; simp; omega
 have hrX := (rightL_iff x).2 Rx
 have hrY := (rightL_iff y).2 Ry
 have hxl := Rx.1; have hyl := Ry.1
 obtain ⟨e1, e2, v⟩ := e
 simp only at hv ux uy dx dy ix iy tx ty hJ hR ⊢
 have q1 : decide (v < 1) = false := by simp; omega
 have hdx : x.drop (x1.length + 1) = x2 := by rw [hxe]; simp
 have hdy : y.drop (y1.length + 1) = y2 := by rw [hye]; simp
 have htx : x.take x1.length = x1 := by rw [hxe]; simp
 have hty : y.take y1.length = y1 := by rw [hye]; simp
 have hex : x[x1.length]'(by omega) = (e1, e2, v) := by simp [hxe]
 have hey : y[y1.length]'(by omega) = (e1, e2, v) := by simp [hye]
 have px := hrx.at x1.length (by omega)
 have py := hry.at y1.length (by omega)
 rw [hex] at px
 rw [hey] at py
 obtain ⟨_, _, z1, p0, p1, p2⟩ := px
 obtain ⟨_, _, z2, s0, s1, s2⟩ := py
 cases z1; cases z2
 simp only at p0 p1 p2 s0 s1 s2
 have i1 : (x1.length : Int) < (x.length : Int) := by omega
 have j1 : (y1.length : Int) < (y.length : Int) := by omega
 have Hix := Lib.hid ix; have Hiy := Lib.hid iy; have Htx := Lib.hid tx; have Hty := Lib.hid ty; have HJ := Lib.hid hJ; have HR := Lib.hid hR; have Hlx := Lib.hid hlx; have Hly := Lib.hid hly
 have HrX := Lib.hid hrX; have HrY := Lib.hid hrY; have Hdx := Lib.hid hdx; have Hdy := Lib.hid hdy; have Htkx := Lib.hid htx; have Htky := Lib.hid hty
 have Hcam := Lib.hid hcam; have Hcbm := Lib.hid hcbm
 clear hex hey
 clear ux uy dx dy ix iy tx ty hJ hR hxe hye hrX hrY hdx hdy htx hty hcam hcbm hx hy Rx Ry hlx hly
 have hA := bl_alloc w (.cells #[.int .i64 v] 3)
 have hvb : (w.alloc (.cells #[.int .i64 v] 3)).cell? ⟨w.heap.size, 0, none⟩ = some (.int .i64 v) := cell_new1 rfl
 have hrxA := hrx.below hA
 have hryA := hry.below hA
 go_enter Tryz.func73, Tryz.ntmps73
 go_wp2_with fail
 refine (lright_walk _ ca x _ hrxA (by omega)).mono ?_
 rw [HrX.out]
 rintro e w1 ⟨rfl, hb1⟩
 have hB1 := bl_trans hA hb1
 have hry1 := hry.below hB1
 have hvb1 := keep_cell hb1 hvb
 clear hb1 hrxA hryA hvb hA
 go_wp2_with fail
 refine (lright_walk _ cb y _ hry1 (by omega)).mono ?_
 rw [HrY.out]
 rintro e w2 ⟨rfl, hb2⟩
 have hB2 := bl_trans hB1 hb2
 have hrx2 := hrx.below hB2
 have hvb2 := keep_cell hb2 hvb1
 clear hb2 hry1 hB1 hvb1
 go_wp2_with fail
 refine (index_walkP w.heap.size (fun k => k.2.2 == v) _ ca x _ hrx2 (by omega) (fun k _ w3 hb3 => numbered_walk k w.heap.size v _ w3 (keep_cell hb3 hvb2) rfl)).mono ?_
 rw [Hix.out]
 rintro e w3 ⟨rfl, hb3⟩
 have hB3 := bl_trans hB2 hb3
 have hry3 := hry.below hB3
 have hvb3 := keep_cell hb3 hvb2
 clear hb3 hrx2 hB2 hvb2
 go_wp2_with fail
 refine (index_walkP w.heap.size (fun k => k.2.2 == v) _ cb y _ hry3 (by omega) (fun k _ w3 hb3 => numbered_walk k w.heap.size v _ w3 (keep_cell hb3 hvb3) rfl)).mono ?_
 rw [Hiy.out]
 rintro e w4 ⟨rfl, hb4⟩
 have hB4 := bl_trans hB3 hb4
 have hrx4 := hrx.below hB4
 have hry4 := hry.below hB4
 have hvb4 := keep_cell hb4 hvb3
 have p0' := keep_cell hB4 p0
 have p1' := keep_cell hB4 p1
 have p2' := keep_cell hB4 p2
 have s0' := keep_cell hB4 s0
 have s1' := keep_cell hB4 s1
 have s2' := keep_cell hB4 s2
 clear hb4 hry3 hB3 hvb3 p0 p1 p2 s0 s1 s2
 have hgt : Tryz.prog.eqGuardType Tryz.prog.depth 38 = false := by kernel_rfl
 have hpe := fun w => lk_eq (e1, e2, v) (e1, e2, v) w
 rw [show decide (((e1, e2, v) : Lk) = (e1, e2, v)) = true by simp] at hpe
 unfold lkV at hpe
 simp only at hpe
 have g1 : decide ((x1.length : Int) < 0) = false := by simp
 have g2 : decide ((y1.length : Int) < 0) = false := by simp
 go_wp2_with fail
 go_quiet (fail)
 have hrx5 := hrx4.below (below_drewN (bl_refl w4) nq)
 have hry5 := hry4.below (below_drewN (bl_refl w4) nq)
 have hB5 := below_drewN hB4 nq
 have hvb5 : (w4.drewN nq).cell? ⟨w.heap.size, 0, none⟩ = some (.int .i64 v) := hvb4
 clear p0' p1' p2' s0' s1' s2' hrx4 hry4 hvb4 hB4 hgt hpe g1 g2
 have f1 : ∀ w, (Instr.slice 22 (.slice (some ⟨b, o, none⟩) x.length ca) (some (.int .i64 ((x1.length : Int) + 1))) none none).run Tryz.prog w = .ok (.slice (fromA b o (x1.length + 1) ca) (x.length - (x1.length + 1)) (ca - (x1.length + 1))) w := fun w => run_from b o x.length ca (x1.length + 1) (by omega) w
 have f2 : ∀ w, (Instr.slice 22 (.slice (some ⟨b', o', none⟩) y.length cb) (some (.int .i64 ((y1.length : Int) + 1))) none none).run Tryz.prog w = .ok (.slice (fromA b' o' (y1.length + 1) cb) (y.length - (y1.length + 1)) (cb - (y1.length + 1))) w := fun w => run_from b' o' y.length cb (y1.length + 1) (by omega) w
 have hn1 : x.length - (x1.length + 1) = x2.length := by have := Hlx.out; omega
 have hn2 : y.length - (y1.length + 1) = y2.length := by have := Hly.out; omega
 have hf1 := rdL_from hrx5 (x1.length + 1) ca (by omega) hca
 have hf2 := rdL_from hry5 (y1.length + 1) cb (by omega) hcb
 rw [Hdx.out] at hf1
 rw [Hdy.out] at hf2
 rw [hn1] at f1
 rw [hn2] at f2
 generalize fromA b o (x1.length + 1) ca = A1 at f1 hf1
 generalize fromA b' o' (y1.length + 1) cb = A2 at f2 hf2
 have hc1 : x2.length ≤ ca - (x1.length + 1) ∧ ca - (x1.length + 1) ≤ maxLen := by have := Hlx.out; have := Hcam.out; omega
 have hc2 : y2.length ≤ cb - (y1.length + 1) ∧ cb - (y1.length + 1) ≤ maxLen := by have := Hly.out; have := Hcbm.out; omega
 generalize ca - (x1.length + 1) = C1 at f1 hc1
 generalize cb - (y1.length + 1) = C2 at f2 hc2
 have Hc1 := Lib.hid hc1; have Hc2 := Lib.hid hc2
 clear hc1 hc2
 have i3 : IntKind.i64.wrap ((x1.length : Int) + 1) = (x1.length : Int) + 1 := IntWalk.i64_in _ (by omega)
 have i4 : IntKind.i64.wrap ((y1.length : Int) + 1) = (y1.length : Int) + 1 := IntWalk.i64_in _ (by omega)
 have hlx2 : x2.length ≤ 1000 := by omega
 have hly2 : y2.length ≤ 1000 := by omega
 clear hn1 hn2
 go_wp2_with fail
 refine (contains_walkP w.heap.size (fun k => k.2.2 == v) A1 C1 x2 _ hf1 (by omega) (fun k _ w3 hb3 => numbered_walk k w.heap.size v _ w3 (keep_cell hb3 hvb5) rfl)).mono ?_
 rw [Htx.out]
 rintro e w6 ⟨rfl, hb6⟩
 have hB6 := bl_trans hB5 hb6
 have hf2' := hf2.below hb6
 have hf1' := hf1.below hb6
 have hvb6 := keep_cell hb6 hvb5
 clear hb6 hf2 hf1 hvb5 hB5 hrx5 hry5
 go_wp2_with fail
 refine (contains_walkP w.heap.size (fun k => k.2.2 == v) A2 C2 y2 _ hf2' (by omega) (fun k _ w3 hb3 => numbered_walk k w.heap.size v _ w3 (keep_cell hb3 hvb6) rfl)).mono ?_
 rw [Hty.out]
 rintro e w7 ⟨rfl, hb7⟩
 have hB7 := bl_trans hB6 hb7
 have hf1 := hf1'.below hb7
 have hf2 := hf2'.below hb7
 have hrx7 := rdL_head (hrx.below hB7) x1.length
 have hry7 := rdL_head (hry.below hB7) y1.length
 rw [Htkx.out] at hrx7
 rw [Htky.out] at hry7
 clear hb7 hf1' hf2' hvb6 hB6
 have hca0 : 0 < ca := by omega
 have hcb0 : 0 < cb := by omega
 have hl1 : x1.length ≤ ca := by omega
 have hl2 : y1.length ≤ cb := by omega
 go_wp2_with fail
 refine regionT (fun _ => True) 14 (by kernel_rfl) ?_
 have hS : True := trivial
 refine tkT 0 ?_ rfl hS ?_ ?_ (by kernel_rfl) (fun _ _ _ h => h) (by rfl); rotate_left; (· intro wS hSw; (try dsimp only at hSw); go_simp; try with_reducible rfl); simp only [Act.put, zA, z0, z1]
 refine tkT 1 ?_ rfl hS ?_ ?_ (by kernel_rfl) (fun _ _ _ h => h) (by rfl); rotate_left; (· intro wS hSw; (try dsimp only at hSw); go_simp; try with_reducible rfl); simp only [Act.put, zA, z0, z1]
 refine tkT 2 ?_ rfl hS ?_ ?_ (by kernel_rfl) (fun _ _ _ h => h) (by rfl); rotate_left; (· intro wS hSw; (try dsimp only at hSw); go_simp; try with_reducible rfl); simp only [Act.put, zA, z0, z1]
 refine tkT 3 ?_ rfl hS ?_ ?_ (by kernel_rfl) (fun _ _ _ h => h) (by rfl); rotate_left; (· intro wS hSw; (try dsimp only at hSw); go_simp; try with_reducible rfl); simp only [Act.put, zA, z0, z1]
 refine tkT 4 ?_ rfl hS ?_ ?_ (by kernel_rfl) (fun _ _ _ h => h) (by rfl); rotate_left; (· intro wS hSw; (try dsimp only at hSw); go_simp; try with_reducible rfl); simp only [Act.put, zA, z0, z1]
 refine tkT 5 ?_ rfl hS ?_ ?_ (by kernel_rfl) (fun _ _ _ h => h) (by rfl); rotate_left; (· intro wS hSw; (try dsimp only at hSw); go_simp; try with_reducible rfl); simp only [Act.put, zA, z0, z1]
 refine tkT 6 ?_ rfl hS ?_ ?_ (by kernel_rfl) (fun _ _ _ h => h) (by rfl); rotate_left; (· intro wS hSw; (try dsimp only at hSw); go_simp; try with_reducible rfl); simp only [Act.put, zA, z0, z1]
 refine tkT 7 ?_ rfl hS ?_ ?_ (by kernel_rfl) (fun _ _ _ h => h) (by rfl); rotate_left; (· intro wS hSw; (try dsimp only at hSw); go_simp; try with_reducible rfl); simp only [Act.put, zA, z0, z1]
 refine tkT 8 ?_ rfl hS ?_ ?_ (by kernel_rfl) (fun _ _ _ h => h) (by rfl); rotate_left; (· intro wS hSw; (try dsimp only at hSw); go_simp; try with_reducible rfl); simp only [Act.put, zA, z0, z1]
 refine tkT 9 ?_ rfl hS ?_ ?_ (by kernel_rfl) (fun _ _ _ h => h) (by rfl); rotate_left; (· intro wS hSw; (try dsimp only at hSw); go_simp; try with_reducible rfl); simp only [Act.put, zA, z0, z1]
 refine tkT 10 ?_ rfl hS ?_ ?_ (by kernel_rfl) (fun _ _ _ h => h) (by rfl); rotate_left; (· intro wS hSw; (try dsimp only at hSw); go_simp; try with_reducible rfl); simp only [Act.put, zA, z0, z1]
 refine tkT 11 ?_ rfl hS ?_ ?_ (by kernel_rfl) (fun _ _ _ h => h) (by rfl); rotate_left; (· intro wS hSw; (try dsimp only at hSw); go_simp; try with_reducible rfl); simp only [Act.put, zA, z0, z1]
 refine tkT 12 ?_ rfl hS ?_ ?_ (by kernel_rfl) (fun _ _ _ h => h) (by rfl); rotate_left; (· intro wS hSw; (try dsimp only at hSw); go_simp; try with_reducible rfl); simp only [Act.put, zA, z0, z1]
 refine tkT 13 ?_ rfl hS ?_ ?_ (by kernel_rfl) (fun _ _ _ h => h) (by rfl); rotate_left; (· intro wS hSw; (try dsimp only at hSw); go_simp; try with_reducible rfl); simp only [Act.put, zA, z0, z1]
 refine oneT (i := 14) rfl (by kernel_rfl) (fun K hK => ?_)
 go_simp
 refine hK _ _ (fun h => absurd h (by omega)) ?_
 clear hK K
 have hA8 : Below w7.heap.size w7 ((w7.alloc (.cells #[.slice (some ⟨b, o, none⟩) x1.length ca, .slice A1 x2.length C1, .slice (some ⟨b', o', none⟩) y1.length cb, .slice A2 y2.length C2] 22)).drew) := (bl_alloc w7 _).drew
 have hrow : Row ((w7.alloc (.cells #[.slice (some ⟨b, o, none⟩) x1.length ca, .slice A1 x2.length C1, .slice (some ⟨b', o', none⟩) y1.length cb, .slice A2 y2.length C2] 22)).drew) w7.heap.size 22 1 4 [.slice (some ⟨b, o, none⟩) x1.length ca, .slice A1 x2.length C1, .slice (some ⟨b', o', none⟩) y1.length cb, .slice A2 y2.length C2] :=
  (row_lit w7 [.slice (some ⟨b, o, none⟩) x1.length ca, .slice A1 x2.length C1, .slice (some ⟨b', o', none⟩) y1.length cb, .slice A2 y2.length C2] _ (by unfold maxLen; simp)).drew
 have hG : RdLs ((w7.alloc (.cells #[.slice (some ⟨b, o, none⟩) x1.length ca, .slice A1 x2.length C1, .slice (some ⟨b', o', none⟩) y1.length cb, .slice A2 y2.length C2] 22)).drew) (some ⟨w7.heap.size, 0, none⟩) [x1, x2, y1, y2] := by
  intro i r hi
  have hc := fun (j : Nat) (hj : j < 4) => hrow.cell? j hj
  match i with
  | 0 => simp at hi; subst hi; exact ⟨_, _, _, _, rfl, by rw [Nat.zero_add, hc 0 (by omega)]; rfl, hrx7.below hA8, hl1, Hcam.out⟩
  | 1 => simp at hi; subst hi; exact ⟨_, _, _, _, rfl, by rw [Nat.zero_add, hc 1 (by omega)]; rfl, hf1.below hA8, Hc1.out.1, Hc1.out.2⟩
  | 2 => simp at hi; subst hi; exact ⟨_, _, _, _, rfl, by rw [Nat.zero_add, hc 2 (by omega)]; rfl, hry7.below hA8, hl2, Hcbm.out⟩
  | 3 => simp at hi; subst hi; exact ⟨_, _, _, _, rfl, by rw [Nat.zero_add, hc 3 (by omega)]; rfl, hf2.below hA8, Hc2.out.1, Hc2.out.2⟩
  | i + 4 => simp at hi
 have hB8 := bl_trans hB7 hA8
 have hsum : sumN [x1, x2, y1, y2] [x1, x2, y1, y2].length ≤ 100000 := by simp [sumN]; omega
 clear hrow hA8 hrx7 hry7 hf1 hf2 f1 f2 hS
 generalize ((w7.alloc (.cells #[.slice (some ⟨b, o, none⟩) x1.length ca, .slice A1 x2.length C1, .slice (some ⟨b', o', none⟩) y1.length cb, .slice A2 y2.length C2] 22)).drew) = w8 at hG hB8 ⊢
 have HG := Lib.hid hG; have Hsum := Lib.hid hsum
 clear hG hsum
 refine oneT (i := 15) rfl (by kernel_rfl) (fun K hK => ?_)
 go_simp
 go_at_call 96
 refine (concat_walk (some ⟨w7.heap.size, 0, none⟩) 4 [x1, x2, y1, y2] _ HG.out (by simp) Hsum.out).mono ?_
 rintro e w9 ⟨v9, rfl, ho9, hg9, hb9⟩
 have hfl : [x1, x2, y1, y2].flatten = x1 ++ x2 ++ (y1 ++ y2) := by simp
 rw [hfl] at ho9
 have hlen : (x1 ++ x2 ++ (y1 ++ y2)).length ≤ 1000 := by
  have h1 := HR.out.1
  rw [HJ.out, sortL_length] at h1
  exact h1
 obtain ⟨a9, c9, rfl, hr9, _, hc9m, hc9⟩ := OwnL.read ho9
 have hB9 := bl_trans hB8 hb9
 generalize hZ : x1 ++ x2 ++ (y1 ++ y2) = Z at hr9 hlen hc9 HJ ⊢
 clear hZ ho9 hg9 hb9 hfl HG Hsum hB8
 go_simp
 refine hK _ _ (fun h => absurd h (by omega)) ?_
 clear hK K
 refine restartT (fun _ => True) 17 (by kernel_rfl) ?_
 have hS : True := trivial
 refine tkT 16 ?_ rfl hS ?_ ?_ (by kernel_rfl) (fun _ _ _ h => h) (by rfl); rotate_left; (· intro wS hSw; (try dsimp only at hSw); go_simp; try with_reducible rfl); simp only [Act.put, zA, z0, z1]
 refine doneT (by kernel_rfl) ?_ _
 have hlz : decide ((1000 : Int) < (Z.length : Int)) = false := by simp; omega
 go_wp2_with fail
 refine (sorted_walk a9 c9 Z _ hr9 (by omega)).mono ?_
 rintro e wa ⟨va, rfl, hoa, hga, hba⟩
 have hBa := bl_trans hB9 hba
 have hlo : ∀ g, va.ownBlock = some g → w.heap.size ≤ g := fun g hg => Nat.le_trans hB9.size (hga g hg)
 have hRZ : RightL (sortL Z) := by rw [← HJ.out]; exact HR.out
 obtain ⟨S, hS⟩ : ∃ S, S = sortL Z := ⟨_, rfl⟩
 rw [← hS] at hoa hRZ
 have Hoa := Lib.hid hoa; have HRS := Lib.hid hRZ; have Hlo := Lib.hid hlo; have HS := Lib.hid hS
 have hSl : S.length ≤ 1000 := hRZ.1
 obtain ⟨aS, cS, hvas, hrS, _, _, _⟩ := OwnL.read hoa
 clear hoa hga hba hRZ hlo hS hB9 hr9
 have hgt : Tryz.prog.eqGuardType Tryz.prog.depth 38 = false := by kernel_rfl
 rw [hvas] at Hoa Hlo ⊢
 clear hvas
 go_wp2_with fail
 go_loopg [86] S.length (fun r iv wj => ∃ i : Nat, i + r = S.length ∧ iv = .int .i64 i ∧ ∃ d, wj = wa.drewN d)
 case atStart => exact ⟨0, by omega, rfl, 0, rfl⟩
 case round =>
  obtain ⟨i, hi, rfl, d, rfl⟩ := hrel
  have Hi := Lib.hid hi
  by_cases hil : i < S.length
  ·
   clear hi; by_cases h0 : i = 0
   ·
    subst h0; go_wp2_with fail; go_quiet (fail)
    go_wp2_with fail; go_roundg (gk - 1)
    case measure => have := Hi.out; omega
    case rel => exact ⟨1, by have := Hi.out; omega, by go_num, d + nq, by first | rfl | rw [World.drewN_drewN]⟩
   ·
    obtain ⟨m, rfl⟩ : ∃ m, i = m + 1 := ⟨i - 1, by omega⟩
    obtain ⟨bs, os, rfl, a0, a1, a2⟩ := hrS.at (m + 1) hil; obtain ⟨bs', os', he, b0, b1, b2⟩ := hrS.at m (by omega); cases he; have hlt : LtL (S[m]'(by omega)) S[m + 1] := List.pairwise_iff_getElem.1 HRS.out.2.2 m (m + 1) (by omega) hil (by omega); have hne : S[m]'(by omega) ≠ S[m + 1] := fun e => LtL.irrefl _ (e ▸ hlt); obtain ⟨⟨x1', x2', x3'⟩, hxe⟩ : ∃ x : Lk, S[m + 1] = x := ⟨_, rfl⟩
    obtain ⟨⟨y1', y2', y3'⟩, hye⟩ : ∃ x : Lk, S[m]'(by omega) = x := ⟨_, rfl⟩
    rw [hxe] at a0 a1 a2 hne; rw [hye] at b0 b1 b2 hne; simp only at a0 a1 a2 b0 b1 b2; have hpe := fun w => lk_eq (y1', y2', y3') (x1', x2', x3') w; rw [show decide (((y1', y2', y3') : Lk) = (x1', x2', x3')) = false by simpa using hne] at hpe; unfold lkV at hpe; simp only at hpe; have i1' : IntKind.i64.wrap ((m : Int) + 1 - 1) = (m : Int) := by rw [show ((m : Int) + 1 - 1) = m by omega]; exact IntWalk.i64_in _ (by omega)
    have i2' : IntKind.i64.wrap (m : Int) = (m : Int) := IntWalk.i64_in _ (by omega); have i3' : (0 : Int) ≤ (m : Int) := by omega
    have i4' : (m : Int) < (S.length : Int) := by omega
    have i5' : m < S.length := by omega
    have i6' : (m : Int) + 1 < (S.length : Int) := by omega
    have i7' : (0 : Int) ≤ (m : Int) + 1 := by omega
    clear hlt hne hxe hye h0; go_wp2_with fail; go_quiet (fail)
    go_wp2_with fail; go_roundg (gk - 1)
    case measure => have := Hi.out; omega
    case rel => exact ⟨m + 1 + 1, by have := Hi.out; omega, by go_num, d + nq, by first | rfl | rw [World.drewN_drewN]⟩
  ·
   clear hi; go_wp2_with fail; go_ret2; exact ⟨_, rfl, by rw [HJ.out, ← HS.out]; exact Own.ext Hoa.out (below_drewN (bl_refl wa) d), Hlo.out, below_drewN hBa _⟩
end Go.Proofs.YtagcbnpahgfgmaaGreat
namespace Go.Proofs.YtagcbnpahgfgmaaGreat
open Go
section
variable {P : Program} {md : Region.Mode} {ops : Array Oper} {Q : Exit → Act → World → Prop} {S : World → Prop} {N : Nat}
def tailL (md : Region.Mode) (ops : Array Oper) (listed : Array Bool) (N : Nat) : Bool :=
 (List.range ops.size).all fun j => decide (j < N) || (List.range N).all fun i => listed.getD i false || waitsB md ops i ops.size j
theorem tailL_late {l0 listed : Array Bool} (ht : tailL md ops l0 N = true) (hsub : ∀ i, l0.getD i false = true → listed.getD i false = true) (hc : closedT md ops listed) {j : Nat} (hj : j ∈ Region.ready md ops listed) (hN : N ≤ j) {i : Nat} (hi : i < N) :
  listed.getD i false = true := by
 obtain ⟨h0, o, ho, hall⟩ := mem_ready.1 hj
 have hjs : j < ops.size := (Array.getElem?_eq_some_iff.1 ho).1
 have h1 := List.all_eq_true.1 ht j (List.mem_range.2 hjs)
 simp only [Bool.or_eq_true, decide_eq_true_eq] at h1
 have h2 := List.all_eq_true.1 (h1.resolve_left (by omega)) i (List.mem_range.2 hi)
 simp only [Bool.or_eq_true] at h2
 rcases h2 with h2 | h2
 · exact hsub i h2
 ·
  refine waits_spec hc _ _ h2 fun o' ho' => ?_
  rw [ho] at ho'
  cases ho'
  exact hall
theorem anyL_first {l0 : Array Bool} {i : Nat} {oi : Oper} {v : Value} (hi : ops[i]? = some oi) (hsel : ∀ (j : Nat) (o : Oper) cs b, ops[j]? = some o → o.op ≠ .select cs b)
  (hQ : ∀ c a w, Q (.panic c) (a.put oi.dst v) w → Q (.panic c) a w) (hiN : i < N) (ht : tailL md ops l0 N = true) :
  ∀ (fuel : Nat) (listed : Array Bool) (a : Act) (w : World), (∀ i, l0.getD i false = true → listed.getD i false = true) → closedT md ops listed →
   (∀ j oj, ops[j]? = some oj → j ≠ i → listed.getD j true = false → (∀ e ∈ oj.after, Region.binds md e = true → e.on ≠ i) → oi.apart ops oj = true) →
   i ∈ Region.ready md ops listed → YieldsIf P ops S oi v a → S w →
   anyT P md ops Q S N fuel (listed.setIfInBounds i true) (a.put oi.dst v) w → anyT P md ops Q S N (fuel + 1) listed a w := by
 intro fuel
 induction fuel with
 | zero =>
  intro listed a w _ hc _ hr hy hS H
  refine ⟨fun h => (by rw [h] at hr; cases hr), fun j hj => ?_⟩
  by_cases hji : j = i
  · subst hji; exact hy.wpOp hi hS ⟨fun _ => hS, H⟩
  ·
   have := ready_mono hj hji; rw [H.1] at this; cases this
 | succ fuel ih =>
  intro listed a w hsub hc hfree hr hy hS H
  refine ⟨fun h => (by rw [h] at hr; cases hr), fun j hj => ?_⟩
  by_cases hji : j = i
  · subst hji; exact hy.wpOp hi hS ⟨fun _ => hS, H⟩
  ·
   have h1 := H.2 j (ready_mono hj hji); obtain ⟨hjun, oj, hoj, hall⟩ := mem_ready.1 hj; have hnot : ∀ e ∈ oj.after, Region.binds md e = true → e.on ≠ i := fun e he hb heq =>
    getD_clash (mem_ready.1 hr).1 (heq ▸ hall e he hb)
   have hjN : j < N := by
    rcases Nat.lt_or_ge j N with h | h
    · exact h
    · exact (getD_clash (mem_ready.1 hr).1 (tailL_late ht hsub hc hj h hiN)).elim
   have h2 := wpOp_putIf hoj (hfree j oj hoj hji hjun hnot) (fun cs b => hsel i oi cs b hi) (fun cs b => hsel j oj cs b hoj) hQ hy h1; have hfree' : ∀ k ok, ops[k]? = some ok → k ≠ i → (listed.setIfInBounds j true).getD k true = false →
     (∀ e ∈ ok.after, Region.binds md e = true → e.on ≠ i) → oi.apart ops ok = true := fun k ok hk hki hun hno => by
    refine hfree k ok hk hki ?_ hno; by_cases hjk : j = k
    · subst hjk; exact hjun
    · rw [getD_set_ne true hjk] at hun; exact hun
   refine wpOp_mono (fun a' w' h3 => ⟨h3.2.1, ih (listed.setIfInBounds j true) a' w' (fun i hi => getD_set_true (hsub i hi)) (closed_set hc hj) hfree' (ready_mono hr (Ne.symm hji)) h3.1 (h3.2.1 hjN) ?_⟩) h2; rw [Array.setIfInBounds_comm _ _ hji]; exact h3.2.2
end
section
variable {P : Program} {md : Region.Mode} {l : List Oper} {Q : Exit → Act → World → Prop} {S : World → Prop} {N : Nat}
theorem takeL {i : Nat} {oi : Oper} {v : Value} {fuel : Nat} {listed : Array Bool} {a : Act} {w : World} (hi : l[i]? = some oi)
  (hB : (Region.noSelect l.toArray && Region.free md l.toArray listed i && (Region.ready md l.toArray listed).contains i && tailL md l.toArray listed N && closedB md l.toArray listed && decide (i < N)) = true)
  (hQ : ∀ c a w, Q (.panic c) (a.put oi.dst v) w → Q (.panic c) a w) (hy : YieldsIf P l.toArray S oi v a) (hS : S w)
  (h : anyT P md l.toArray Q S N fuel (listed.setIfInBounds i true) (a.put oi.dst v) w) : anyT P md l.toArray Q S N (fuel + 1) listed a w := by
 simp only [Bool.and_eq_true, decide_eq_true_eq] at hB
 obtain ⟨⟨⟨⟨⟨hs, hf⟩, hr⟩, ht⟩, hc⟩, hN⟩ := hB
 have hi' : l.toArray[i]? = some oi := by simpa using hi
 exact anyL_first hi' (Region.noSelect_spec hs) hQ hN ht fuel listed a w (fun _ h => h) (closed_spec hc) (Region.free_spec hi' hf) (by simpa using hr) hy hS h
theorem weak_any {S' : World → Prop} {N' : Nat} : ∀ (fuel : Nat) (listed : Array Bool) (a : Act) (w : World), anyT P md l.toArray Q S' N' fuel listed a w → anyT P md l.toArray Q (fun _ => True) N fuel listed a w
 | 0, _, _, _, h => h
 | fuel + 1, _, _, _, h => ⟨h.1, fun i hi => wpOp_mono (fun _ _ h' => ⟨fun _ => trivial, weak_any fuel _ _ _ h'.2⟩) (h.2 i hi)⟩
theorem weakT {fuel : Nat} {listed : Array Bool} {a : Act} {w : World} (S' : World → Prop) (N' : Nat) (h : anyT P md l.toArray Q S' N' fuel listed a w) : anyT P md l.toArray Q (fun _ => True) N fuel listed a w := weak_any fuel listed a w h
end
theorem tkL {P : Program} {md : Region.Mode} {l : List Oper} {Q : Exit → Act → World → Prop} {S : World → Prop} {N : Nat} {oi : Oper} {fuel : Nat} {listed : Array Bool} {a : Act} {w : World} (i : Nat) (v : Value) (hi : l[i]? = some oi) (hS : S w)
 (h2 : ∀ w, S w → (execOp a.eval oi).run P w = .ok (.value v) w)
 (h : anyT P md l.toArray Q S N fuel (listed.setIfInBounds i true) (a.put oi.dst v) w)
 (hB : (Region.noSelect l.toArray && Region.free md l.toArray listed i && (Region.ready md l.toArray listed).contains i && tailL md l.toArray listed N && closedB md l.toArray listed && decide (i < N)) = true)
 (hQ : ∀ c a w, Q (.panic c) (a.put oi.dst v) w → Q (.panic c) a w) (h1 : Region.wanted oi (yielded l.toArray a.tmps) = true) : anyT P md l.toArray Q S N (fuel + 1) listed a w := takeL hi hB hQ (Or.inl ⟨h1, h2⟩) hS h
end Go.Proofs.YtagcbnpahgfgmaaGreat
namespace Go.Proofs.YtagcbnpahgfgmaaGreat
open Go Go.RowKit
def RetMg (w : World) (B g cap : Nat) (Q : List Pt) (e : Ending) (w' : World) : Prop :=
 ∃ ps, e = .returned (.slice (some ⟨g, 0, none⟩) ps.length cap) ∧ PtI w' B g cap ps ∧ MTo Q (ptQ ps) ∧ MNormal (ptQ ps) ∧ Below B w w'
theorem merge_facts {ls : List Lk} {Q : List Pt} (hl : ls.length ≤ 1000) (h : QI ls Q) {i j : Nat} {v : Int} (ha : alikeP Q i j v) :
  i < Q.length ∧ j < Q.length ∧ i ≠ j ∧ v ≠ 0 ∧ RightL (lnQ Q i) ∧ RightL (lnQ Q j) ∧ 3 ≤ (lnQ Q i).length ∧ 3 ≤ (lnQ Q j).length ∧ QI ls (mergeQ Q i j v) ∧ RightL (joinL (lnQ Q i) (lnQ Q j) v) ∧
  ∃ e, e.2.2 = v ∧ MStep e Q (mergeQ Q i j v) ∧ (1 ≤ v ∧ v ≤ 1048576) ∧ e ∈ lnQ Q i ∧ e ∈ lnQ Q j ∧ (∀ k ∈ lnQ Q i, k.2.2 = v → k = e) ∧ ∀ k ∈ lnQ Q j, k.2.2 = v → k = e := by
 obtain ⟨hi, hj, hij, h0, _⟩ := ha.two h
 obtain ⟨e, he, hf, hev, hs⟩ := ha.step h
 have hq := hs.qi hl h
 have mi : Q[i] ∈ Q := List.getElem_mem hi
 have mj : Q[j] ∈ Q := List.getElem_mem hj
 have he' := he; have hf' := hf
 rw [lnQ_at hi] at he'
 rw [lnQ_at hj] at hf'
 obtain ⟨D, hT, hD⟩ := h.tree
 have hed : e ∈ D := hT.memD.2 (mem_occL.2 ⟨_, List.mem_map_of_mem mi, he', by rw [hev]; exact h0⟩)
 have hjr : RightL (joinL (lnQ Q i) (lnQ Q j) v) := by
  have : (kdQ Q i, joinL (lnQ Q i) (lnQ Q j) v) ∈ mergeQ Q i j v := by
   obtain ⟨R, _, hR⟩ := perm_set hij hi hj (kdQ Q i, joinL (lnQ Q i) (lnQ Q j) v); exact hR.mem_iff.2 (by simp)
  exact hq.right _ this
 refine ⟨hi, hj, hij, h0, by rw [lnQ_at hi]; exact h.right _ mi, by rw [lnQ_at hj]; exact h.right _ mj, by rw [lnQ_at hi]; exact h.three _ mi, by rw [lnQ_at hj]; exact h.three _ mj, hq, hjr, e, hev, hs, by rw [← hev]; exact hD e hed, he, hf, ?_, ?_⟩
 ·
  rw [lnQ_at hi]
  exact fun k hk hv => h.uniq mi (mem_virtL.2 ⟨he', by rw [hev]; exact h0⟩) k hk (by rw [hv, hev])
 ·
  rw [lnQ_at hj]
  exact fun k hk hv => h.uniq mj (mem_virtL.2 ⟨hf', by rw [hev]; exact h0⟩) k hk (by rw [hv, hev])
set_option maxRecDepth 100000 in
set_option maxHeartbeats 8000000 in
theorem merged_walk (B g cap : Nat) (ps : List PtR) (ls : List Lk) (w : World) (h : PtI w B g cap ps) (hq : QI ls (ptQ ps)) (hl : ls.length ≤ 1000) (hn : ps.length ≤ 1000) :
  Calls Tryz.prog 36 #[.slice (some ⟨g, 0, none⟩) ps.length cap] w (RetMg w B g cap (ptQ ps)) := by
 have Hn := Lib.hid hn; have Hl := Lib.hid hl; have Hq := Lib.hid hq
 have hb0 : Below B w w := Below.refl _ _
 clear hn hl hq
 go_enter Tryz.func36, Tryz.ntmps36
 go_wp2_with fail
 go_loopg [0] ps.length (fun r vo wj => ∃ pj, pj.length ≤ r ∧ vo = .slice (some ⟨g, 0, none⟩) pj.length cap ∧ PtI wj B g cap pj ∧ QI ls (ptQ pj) ∧ MTo (ptQ ps) (ptQ pj) ∧ Below B w wj)
 case atStart => exact ⟨ps, Nat.le_refl _, rfl, h, Hq.out, .done (.refl _), hb0⟩
 case round =>
  clear h hb0
  obtain ⟨pj, hlen, rfl, hP, hq, hto, hB⟩ := hrel
  have Hlen := Lib.hid hlen; have Hto := Lib.hid hto
  have hqr := hq.right
  have hm0 : pj.length ≤ 1000 := by
   have h1 := hq.len; rw [ptQ_len] at h1; exact Nat.le_trans h1 Hl.out
  have hal := fun w (hw : PtI w B g cap pj) => alike_walk (some ⟨g, 0, none⟩) cap (ptQ pj) w hw.rdq (by rw [ptQ_len]; exact hm0) hqr
  simp only [ptQ_len] at hal
  clear hlen hto hqr
  go_wp2_with fail
  refine (hal _ hP).mono ?_
  rintro e w1 ⟨hb1, ⟨i, j, v, hi, hj, ha, rfl⟩ | ⟨hc, rfl⟩⟩
  ·
   have hP1 := hP.below hb1; have hB1 : Below B w w1 := hB.trans (hb1.mono (by have := hP.lo; have := hP.lt; omega)); obtain ⟨hi2, hj2, hij, hv0, Rx, Ry, lx, ly, hq2, hJR, e0, hev, hstep, hvr, hx, hy, ux, uy⟩ := merge_facts Hl.out hq ha; rw [ptQ_len] at hi2 hj2; obtain ⟨x, hxx⟩ : ∃ x, x = lnQ (ptQ pj) i := ⟨_, rfl⟩
   obtain ⟨y, hyy⟩ : ∃ y, y = lnQ (ptQ pj) j := ⟨_, rfl⟩
   have ex : pj[i].1.2 = x := by rw [hxx, lnQ_at (by rw [ptQ_len]; exact hi2)]; simp [ptQ]
   have ey : pj[j].1.2 = y := by rw [hyy, lnQ_at (by rw [ptQ_len]; exact hj2)]; simp [ptQ]
   have ek : kdQ (ptQ pj) i = pj[i].1.1 := by rw [kdQ_at (by rw [ptQ_len]; exact hi2)]; simp [ptQ]
   have hms : mergeQ (ptQ pj) i j v = ((ptQ pj).set i (pj[i].1.1, joinL x y v)).eraseIdx j := by unfold mergeQ; rw [ek, ← hxx, ← hyy]
   rw [← hxx] at Rx lx hx ux hJR; rw [← hyy] at Ry ly hy uy hJR; obtain ⟨⟨rx, cx, mx, bx⟩, fx⟩ := hP1.each _ (List.getElem_mem hi2); obtain ⟨⟨ry, cy, my, by_⟩, fy⟩ := hP1.each _ (List.getElem_mem hj2); obtain ⟨g1x, g2x⟩ := ptC_get pj i hi2; obtain ⟨g1y, g2y⟩ := ptC_get pj j hj2; have d1 : w1.cell? ⟨g, i * 2 + 1, none⟩ = some (ptV pj[i]) := by rw [hP1.row.cell? _ (by rw [ptC_len]; omega)]; exact g2x
   have d2 : w1.cell? ⟨g, j * 2 + 1, none⟩ = some (ptV pj[j]) := by rw [hP1.row.cell? _ (by rw [ptC_len]; omega)]; exact g2y
   unfold ptV at d1 d2; rw [ex] at rx cx d1; rw [ey] at ry cy d2; obtain ⟨cpx, hcpx⟩ : ∃ c, c = pj[i].2.2 := ⟨_, rfl⟩
   obtain ⟨cpy, hcpy⟩ : ∃ c, c = pj[j].2.2 := ⟨_, rfl⟩
   obtain ⟨bX, oX, hax, -⟩ := rx.at 0 (by omega); obtain ⟨bY, oY, hay, -⟩ := ry.at 0 (by omega); rw [hax, ← hcpx] at d1; rw [hay, ← hcpy] at d2; rw [hax] at rx; rw [hay] at ry; rw [← hcpx] at cx mx; rw [← hcpy] at cy my; have hjoin := fun (w : World) (h1 : RdL w (some ⟨bX, oX, none⟩) x) (h2 : RdL w (some ⟨bY, oY, none⟩) y) => join_walk bX oX cpx bY oY cpy x y e0 w h1 h2 cx cy mx my Rx Ry (by rw [hev]; exact hvr) hx hy (by rw [hev]; exact ux) (by rw [hev]; exact uy) (by rw [hev]; exact hJR); rw [hev] at hjoin; have Hjoin := Lib.hid hjoin; have HP1 := Lib.hid hP1; have Hms := Lib.hid hms; have Hstep := Lib.hid hstep; have Hq2 := Lib.hid hq2; have Hij := Lib.hid hij; have Hx3 := Lib.hid lx; have Hy3 := Lib.hid ly; have e5 : (v == 0) = false := by simpa using hv0
   have i1 : (i : Int) < (pj.length : Int) := by omega
   have i2 : (j : Int) < (pj.length : Int) := by omega
   have Hrx := Lib.hid rx; have Hry := Lib.hid ry; have hB1' := Lib.hid hB1; clear hjoin hP1 hms hstep hq2 hij lx ly hv0 hev hvr hx hy ux uy hJR Rx Ry fx fy bx by_ g1x g2x g1y g2y ek ex ey hxx hyy hax hay cx cy mx my hcpx hcpy hal hb1 hB hP hq ha hi hj rx ry hB1; go_wp2_with fail; refine regionT (fun _ => True) 20 (by kernel_rfl) ?_; have hS : True := trivial; refine tkT 0 ?_ rfl hS ?_ ?_ (by kernel_rfl) (fun _ _ _ h => h) (by rfl); rotate_left; (· intro wS hSw; (try dsimp only at hSw); go_simp; try with_reducible rfl); simp only [Act.put, zA, z0, z1]; refine tkT 1 ?_ rfl hS ?_ ?_ (by kernel_rfl) (fun _ _ _ h => h) (by rfl); rotate_left; (· intro wS hSw; (try dsimp only at hSw); go_simp; try with_reducible rfl); simp only [Act.put, zA, z0, z1]; refine weakT (fun w' => w'.cell? ⟨g, i * 2 + 1, none⟩ = some (.slice (some ⟨bX, oX, none⟩) x.length cpx) ∧ w'.cell? ⟨g, j * 2 + 1, none⟩ = some (.slice (some ⟨bY, oY, none⟩) y.length cpy)) 13 ?_; clear hS; have hS : w1.drew.cell? ⟨g, i * 2 + 1, none⟩ = some (.slice (some ⟨bX, oX, none⟩) x.length cpx) ∧ w1.drew.cell? ⟨g, j * 2 + 1, none⟩ = some (.slice (some ⟨bY, oY, none⟩) y.length cpy) := ⟨d1, d2⟩
   refine tkL 2 ?_ rfl hS ?_ ?_ (by kernel_rfl) (fun _ _ _ h => h) (by rfl); rotate_left; (· intro wS hSw; (try dsimp only at hSw); go_simp; try with_reducible rfl); simp only [Act.put, zA, z0, z1]; refine tkL 3 ?_ rfl hS ?_ ?_ (by kernel_rfl) (fun _ _ _ h => h) (by rfl); rotate_left; (· intro wS hSw; (try dsimp only at hSw); go_simp; try with_reducible rfl); simp only [Act.put, zA, z0, z1]; refine tkL 4 ?_ rfl hS ?_ ?_ (by kernel_rfl) (fun _ _ _ h => h) (by rfl); rotate_left; (· intro wS hSw; (try dsimp only at hSw); go_simp; try with_reducible rfl); simp only [Act.put, zA, z0, z1]; refine tkL 5 ?_ rfl hS ?_ ?_ (by kernel_rfl) (fun _ _ _ h => h) (by rfl); rotate_left; (· intro wS hSw; (try dsimp only at hSw); go_simp; try with_reducible rfl); simp only [Act.put, zA, z0, z1]; refine tkL 6 ?_ rfl hS ?_ ?_ (by kernel_rfl) (fun _ _ _ h => h) (by rfl); rotate_left; (· intro wS hSw; (try dsimp only at hSw); go_simp; try with_reducible rfl); simp only [Act.put, zA, z0, z1]; refine tkL 7 ?_ rfl hS ?_ ?_ (by kernel_rfl) (fun _ _ _ h => h) (by rfl); rotate_left; (· intro wS hSw; (try dsimp only at hSw); go_simp; try with_reducible rfl); simp only [Act.put, zA, z0, z1]; refine tkL 8 ?_ rfl hS ?_ ?_ (by kernel_rfl) (fun _ _ _ h => h) (by rfl); rotate_left; (· intro wS hSw; (try dsimp only at hSw); go_simp; try with_reducible rfl); simp only [Act.put, zA, z0, z1]; refine tkL 9 ?_ rfl hS ?_ ?_ (by kernel_rfl) (fun _ _ _ h => h) (by rfl); rotate_left; (· intro wS hSw; (try dsimp only at hSw); go_simp; try with_reducible rfl); simp only [Act.put, zA, z0, z1]
   refine tkL 10 ?_ rfl hS ?_ ?_ (by kernel_rfl) (fun _ _ _ h => h) (by rfl); rotate_left; (· intro wS hSw; (try dsimp only at hSw); go_simp; try with_reducible rfl); simp only [Act.put, zA, z0, z1]; refine tkL 11 ?_ rfl hS ?_ ?_ (by kernel_rfl) (fun _ _ _ h => h) (by rfl); rotate_left; (· intro wS hSw; (try dsimp only at hSw); go_simp; try with_reducible rfl); simp only [Act.put, zA, z0, z1]; refine tkL 12 ?_ rfl hS ?_ ?_ (by kernel_rfl) (fun _ _ _ h => h) (by rfl); rotate_left; (· intro wS hSw; (try dsimp only at hSw); go_simp; try with_reducible rfl); simp only [Act.put, zA, z0, z1]; refine oneT (i := 13) rfl (by kernel_rfl) (fun K hK => ?_); go_simp; go_at_call 73; refine (Hjoin.out w1.drew Hrx.out Hry.out).mono ?_; rintro e w2 ⟨vj, rfl, hOj, hyj, hb2⟩; replace hb2 : Below w1.heap.size w1 w2 := bl_trans (Below.refl w1.heap.size w1).drew hb2; obtain ⟨aj, cj, rfl, hrj, hownj, hcj1, hcj2⟩ := hOj.read; go_simp; refine hK _ _ (fun h => absurd h (by omega)) ?_; clear hK K hS d1 d2 Hjoin; refine restartT (fun _ => True) 20 (by kernel_rfl) ?_; have hS : True := trivial; refine tkT 14 ?_ rfl hS ?_ ?_ (by kernel_rfl) (fun _ _ _ h => h) (by rfl); rotate_left; (· intro wS hSw; (try dsimp only at hSw); go_simp; try with_reducible rfl); simp only [Act.put, zA, z0, z1]; refine tkT 15 ?_ rfl hS ?_ ?_ (by kernel_rfl) (fun _ _ _ h => h) (by rfl); rotate_left; (· intro wS hSw; (try dsimp only at hSw); go_simp; try with_reducible rfl); simp only [Act.put, zA, z0, z1]; refine tkT 16 ?_ rfl hS ?_ ?_ (by kernel_rfl) (fun _ _ _ h => h) (by rfl); rotate_left; (· intro wS hSw; (try dsimp only at hSw); go_simp; try with_reducible rfl); simp only [Act.put, zA, z0, z1]
   refine tkT 17 ?_ rfl hS ?_ ?_ (by kernel_rfl) (fun _ _ _ h => h) (by rfl); rotate_left; (· intro wS hSw; (try dsimp only at hSw); go_simp; try with_reducible rfl); simp only [Act.put, zA, z0, z1]; refine tkT 18 ?_ rfl hS ?_ ?_ (by kernel_rfl) (fun _ _ _ h => h) (by rfl); rotate_left; (· intro wS hSw; (try dsimp only at hSw); go_simp; try with_reducible rfl); simp only [Act.put, zA, z0, z1]; have hP2 := HP1.out.below hb2; have f2 := hP2.row.frozen (i * 2 + 1); have c2 : w2.cell? ⟨g, i * 2 + 1, none⟩ = some (ptV pj[i]) := by
    rw [hP2.row.cell? _ (by rw [ptC_len]; omega)]; exact (ptC_get pj i hi2).2
   have hgj : ∀ ad, aj = some ad → w1.heap.size ≤ ad.block ∧ ad.block < w2.heap.size := fun ad ha => by
    have h1 := hownj ad ha; exact ⟨hyj _ h1, hOj.lt h1⟩
   have hrow2 : RowP w2 ((pj[i].1.1, joinL x y v), aj, cj) := ⟨hrj, hcj2, hcj1, fun ad ha => (hgj ad ha).2⟩
   have hP3 := hP2.store hi2 (p := ((pj[i].1.1, joinL x y v), aj, cj)) rfl hrow2 (fun ad ha => by have := (hgj ad ha).1; have := HP1.out.lt; omega); have hB2 : Below B w w2 := hB1'.out.trans (hb2.mono (by have := HP1.out.lo; have := HP1.out.lt; omega)); have hB3 : Below B w (w2.setCell ⟨g, i * 2 + 1, none⟩ (ptV ((pj[i].1.1, joinL x y v), aj, cj))) := hB2.setCell HP1.out.lo _; unfold ptV at hP3 hB3; simp only at hP3 hB3; have HP3 := Lib.hid hP3; have HB3 := Lib.hid hB3; clear hP2 hgj hrow2 hP3 hB2 hB3 hOj hyj hrj hownj hcj1 hcj2 hb2 HP1 hB1'; refine oneT (i := 19) rfl (by kernel_rfl) (fun K hK => ?_); go_simp; refine hK _ _ (fun _ => trivial) ?_; clear hK K hS c2 f2; refine doneT (by kernel_rfl) ?_ _; generalize w2.setCell ⟨g, i * 2 + 1, none⟩ (.slice aj (joinL x y v).length cj) = w3 at HP3 HB3 ⊢; have hdel := delP_walk g cap pj.length j (ptC (pj.set i ((pj[i].1.1, joinL x y v), aj, cj))) w3 HP3.out.row (by rw [ptC_len, List.length_set]) hj2 (by have := HP3.out.len; rwa [List.length_set] at this) (ptC_one _); go_wp2_with fail; refine hdel.mono ?_; rintro e w4 ⟨rfl, hrow4, hg4⟩; have hP4 := HP3.out.del (j := j) (by rw [List.length_set]; exact hj2) hrow4 hg4; have hB4 : Below B w w4 := HB3.out.grown hg4 (by have := HP3.out.lo; have := HP3.out.lt; omega) (fun k hk => by cases hk; exact HP3.out.lo); have hlen4 : ((pj.set i ((pj[i].1.1, joinL x y v), aj, cj)).eraseIdx j).length = pj.length - 1 := by rw [List.length_eraseIdx, List.length_set, if_pos hj2]
   have hq4 : ptQ ((pj.set i ((pj[i].1.1, joinL x y v), aj, cj)).eraseIdx j) = mergeQ (ptQ pj) i j v := by rw [ptQ_del, ptQ_set, Hms.out]
   have hp0 : 0 < pj.length := by omega
   have HP4 := Lib.hid hP4; have HB4 := Lib.hid hB4; have Hlen4 := Lib.hid hlen4; have Hq4 := Lib.hid hq4; clear hP4 hB4 hlen4 hq4 hdel hrow4 hg4 HP3 HB3; go_wp2_with fail; go_roundg (gk - 1)
   case measure => have := Hlen.out; omega
   case rel => exact ⟨_, by have := Hlen.out; rw [Hlen4.out]; omega, by rw [Hlen4.out], HP4.out, by rw [Hq4.out]; exact Hq2.out, by rw [Hq4.out]; exact Hto.out.snoc Hstep.out, HB4.out⟩
  ·
   have hP1 := hP.below hb1; have hB1 : Below B w w1 := hB.trans (hb1.mono (by have := hP.lo; have := hP.lt; omega)); have hno := hc.normal hq; have Hno := Lib.hid hno; clear hc hno hal hb1 hB hP hq; go_wp2_with fail; go_ret; exact ⟨pj, rfl, hP1, Hto.out, Hno.out, hB1⟩
end Go.Proofs.YtagcbnpahgfgmaaGreat
namespace Go.Proofs.YtagcbnpahgfgmaaGreat
open Go Go.RowKit Go.Sort
section
variable {α : Type}
theorem flat_get (enc : α → List Value) (k : Nat) (hk : ∀ x, (enc x).length = k) : ∀ (ls : List α) (j t : Nat) (hj : j < ls.length), t < k → (ls.flatMap enc)[j * k + t]? = (enc ls[j])[t]?
 | [], j, t, hj, _ => by simp at hj
 | a :: ls, 0, t, _, ht => by
  rw [List.flatMap_cons, List.getElem?_append_left (by rw [hk]; omega)]; simp
 | a :: ls, j + 1, t, hj, ht => by
  rw [List.flatMap_cons, List.getElem?_append_right (by rw [hk, Nat.add_mul]; omega), hk, Nat.add_mul, Nat.one_mul, show j * k + k + t - k = j * k + t by omega]
  exact flat_get enc k hk ls j t (by simpa using hj) ht
theorem flat_len (enc : α → List Value) (k : Nat) (hk : ∀ x, (enc x).length = k) (ls : List α) : (ls.flatMap enc).length = ls.length * k := by
 induction ls with
 | nil => simp
 | cons a ls ih => rw [List.flatMap_cons, List.length_append, hk, ih, List.length_cons, Nat.add_mul, Nat.one_mul]; omega
variable [Inhabited α]
theorem flatK_gen (enc : α → List Value) (k : Nat) (hk : ∀ x, (enc x).length = k) (h0 : 0 < k) (ls : List α) : (flatK enc k ls.toArray).toList = ls.flatMap enc := by
 apply List.ext_getElem?
 intro i
 by_cases hi : i < ls.length * k
 ·
  have hj : i / k < ls.length := Nat.div_lt_of_lt_mul (by rw [Nat.mul_comm]; exact hi)
  have ht : i % k < k := Nat.mod_lt _ h0
  have h1 : (flatK enc k ls.toArray).toList[i]? = some ((enc ls[i / k])[i % k]!) := by
   rw [Array.getElem?_toList, Array.getElem?_eq_getElem (by simpa using hi)]; simp [flatK, hj]
  have h2 := flat_get enc k hk ls (i / k) (i % k) hj ht
  rw [show i / k * k + i % k = i by rw [Nat.mul_comm]; exact Nat.div_add_mod i k] at h2
  rw [h1, h2, List.getElem?_eq_getElem (by rw [hk]; exact ht), getElem!_pos _ _ (by rw [hk]; exact ht)]
 · rw [List.getElem?_eq_none (by simp; omega), List.getElem?_eq_none (by rw [flat_len enc k hk]; omega)]
theorem Row.holdsG {w : World} {g cap k : Nat} {e : TypeId} (enc : α → List Value) (hk : ∀ x, (enc x).length = k) (h0 : 0 < k) {ls : List α} (h : Row w g e k cap (ls.flatMap enc)) : HoldsK enc k w g 0 ls.toArray := by
 intro j hj
 have hj' : j < (ls.flatMap enc).length := by rw [flat_len enc k hk]; simpa using hj
 refine ⟨?_, h.frozen _⟩
 rw [Nat.zero_add, h.cell j hj']
 have := flatK_gen enc k hk h0 ls
 congr 1
 have h2 : (flatK enc k ls.toArray).toList[j]? = some ((ls.flatMap enc)[j]) := by rw [this]; simp [hj']
 rw [Array.getElem?_toList] at h2
 simp [getElem!_def, h2]
theorem Row.sortedG {w : World} {g cap n k : Nat} {e : TypeId} {os : Array Obj} (enc : α → List Value) (hk : ∀ x, (enc x).length = k) (h0 : 0 < k) {ls ts : List α} (h : Row w g e k cap (ls.flatMap enc)) (hl : ts.length = ls.length) :
  Row (sortWorldK enc k w g 0 n ts.toArray os) g e k cap (ts.flatMap enc) ∧ w.grownBy (sortWorldK enc k w g 0 n ts.toArray os) (some g) := by
 obtain ⟨cur, hg, hs, hle, hm, ht⟩ := h
 have hlt : g < w.heap.size := (Array.getElem?_eq_some_iff.1 hg).1
 have hcur : (sortWorldK enc k w g 0 n ts.toArray os).heap[g]? = some (.cells (putCells id 0 (flatK enc k ts.toArray) cur) e (0, 0)) := by
  unfold sortWorldK
  rw [heap_grow_old _ _ (by simpa [putRowK, putRow, mapBlock, Sort.ahead] using hlt)]
  simp [putRowK, putRow, mapBlock, Sort.ahead, Array.getElem?_modify, hg, onCells]
 have hlen : (ts.flatMap enc).length = (ls.flatMap enc).length := by rw [flat_len enc k hk, flat_len enc k hk, hl]
 refine ⟨⟨_, hcur, by simpa [putCells] using hs, by rw [hlen]; exact hle, hm, ?_⟩, ⟨rfl, rfl, rfl, by simp [sortWorldK, grow, putRowK, putRow, mapBlock, Sort.ahead], fun q hq hne => ?_⟩⟩
 ·
  apply List.ext_getElem?
  intro j
  by_cases hj : j < (ts.flatMap enc).length
  ·
   rw [List.getElem?_take_of_lt hj, Array.getElem?_toList]; have hjc : j < cur.size := by rw [hlen] at hj; omega
   have h2 : (flatK enc k ts.toArray)[j]? = (ts.flatMap enc)[j]? := by rw [← Array.getElem?_toList, flatK_gen enc k hk h0]
   rw [← h2]; have hf' : j < ts.length * k := by rw [← flat_len enc k hk]; exact hj
   simp [putCells, hf', hjc]
  · rw [List.getElem?_take_eq_none (by omega), List.getElem?_eq_none (by omega)]
 ·
  unfold sortWorldK
  rw [heap_grow_old _ _ (by simpa [putRowK, putRow, mapBlock, Sort.ahead] using hq)]
  have : g ≠ q := fun e => hne (by rw [e])
  simp [putRowK, putRow, mapBlock, Sort.ahead, Array.getElem?_modify, this]
end
theorem cmpT_walk (k1 k2 : Int) (a b : Option Addr) (ca cb : Nat) (x y : List Lk) (w : World) (hx : RdL w a x) (hy : RdL w b y) (hxl : x.length ≤ 9223372036854775807) (hyl : y.length ≤ 9223372036854775807) :
  Calls Tryz.prog 38 #[.agg #[.int .i64 k1, .slice a x.length ca], .agg #[.int .i64 k2, .slice b y.length cb]] w (RetG w (cmpLs x y)) := by
 obtain ⟨z, hz⟩ : ∃ z, z = cmpLs x y := ⟨_, rfl⟩
 have hcon := fun (w : World) (hx : RdL w a x) (hy : RdL w b y) => compareP_walkG a b ca cb x y w hx hy hxl hyl
 rw [← hz] at hcon ⊢
 have hx2 := (hx.below (bl_alloc w (.cells #[.int .i64 k1, .slice a x.length ca] 49))).below (bl_alloc _ (.cells #[.int .i64 k2, .slice b y.length cb] 49))
 have hy2 := (hy.below (bl_alloc w (.cells #[.int .i64 k1, .slice a x.length ca] 49))).below (bl_alloc _ (.cells #[.int .i64 k2, .slice b y.length cb] 49))
 have hgr := gr_trans (gr_alloc w (.cells #[.int .i64 k1, .slice a x.length ca] 49)) (gr_alloc _ (.cells #[.int .i64 k2, .slice b y.length cb] 49))
 have Hcon := Lib.hid hcon
 clear hz hcon hx hy hxl hyl
 go_enter Tryz.func38, Tryz.ntmps38
 go_wp2_with fail
 refine (Hcon.out _ hx2 hy2).mono ?_
 rintro e w' ⟨rfl, hg⟩
 have hg2 := gr_trans hgr hg
 clear hgr hx2 hy2 hg
 go_wp2_with fail
 go_ret
 exact ⟨rfl, hg2⟩
theorem sortP_walk (B g cap : Nat) (ps : List PtR) (w : World) (h : PtI w B g cap ps) (hd : ∀ x ∈ ps, ∀ y ∈ ps, x.1.2 = y.1.2 → x = y) (hne : ps ≠ []) (hsz : ps.length ≤ 1000000) :
  Calls Tryz.prog 37 #[.slice (some ⟨g, 0, none⟩) ps.length cap, .func (.func 38) #[] #[]] w
   fun e w' => e = .returned (.tuple #[]) ∧ ∃ ts, ts.Perm ps ∧ (ptQ ts).Pairwise LeP ∧ PtI w' B g cap ts ∧ w.grownBy w' (some g) := by
 have eg : ∀ args w, (callFunc 38 args).run Tryz.prog w = .ok (.enter 38 args) w := enters_of Tryz.func38 (by kernel_rfl) rfl
 obtain ⟨p0, hp0⟩ := List.exists_mem_of_ne_nil _ hne
 letI : Inhabited {p : PtR // p ∈ ps} := ⟨⟨p0, hp0⟩⟩
 obtain ⟨enc, henc⟩ : ∃ enc : {p : PtR // p ∈ ps} → List Value, enc = fun p => [.int .i64 p.1.1.1, ptV p.1] := ⟨_, rfl⟩
 obtain ⟨cf, hcf⟩ : ∃ cf : {p : PtR // p ∈ ps} → {p : PtR // p ∈ ps} → Int, cf = fun x y => cmpLs x.1.1.2 y.1.1.2 := ⟨_, rfl⟩
 have hk : ∀ x, (enc x).length = 2 := fun x => by rw [henc]; rfl
 have hcells : ∀ l : List {p : PtR // p ∈ ps}, l.flatMap enc = ptC (l.map fun p => p.1) := fun l => by
  rw [henc]
  unfold ptC
  rw [List.flatMap_map]
 have hatt : ps.attach.map (fun p => p.1) = ps := List.attach_map_subtype_val ps
 have hrow : Row w g 49 2 cap (ps.attach.flatMap enc) := by rw [hcells, hatt]; exact h.row
 have hlt : ∀ x y, ltOf cf x y = decide (cmpLs x.1.1.2 y.1.1.2 < 0) := fun x y => by rw [hcf]; rfl
 have hO : SWO (ltOf cf) := by
  refine ⟨fun x => ?_, fun x y z h1 h2 => ?_, fun x y z h1 h2 => ?_⟩
  · rw [hlt, cmpLs_self]; rfl
  ·
   rw [hlt, decide_eq_true_eq] at *
   have a1 := cmpLs_lt_trans (a := x.1.1.2) (b := y.1.1.2) (c := z.1.1.2) (by omega) (by omega); refine Classical.byContradiction fun hno => ?_; have h0 : cmpLs x.1.1.2 z.1.1.2 = 0 := by omega
   rw [cmpLs_zero] at h0; rw [h0] at h1; have := cmpLs_swap y.1.1.2 z.1.1.2; omega
  ·
   rw [hlt, decide_eq_false_iff_not] at *
   have b1 := cmpLs_swap x.1.1.2 y.1.1.2; have b2 := cmpLs_swap y.1.1.2 z.1.1.2; have b3 := cmpLs_swap x.1.1.2 z.1.1.2; have a1 := cmpLs_lt_trans (a := z.1.1.2) (b := y.1.1.2) (c := x.1.1.2) (by omega) (by omega); omega
 have hcmp : CmpLays Tryz.prog 38 #[] enc 2 cf g 0 ps.attach.toArray.size w := by
  intro m os dk hdk x y
  have hg := (Row.sortedG (n := m) (os := os) enc hk (by omega) hrow (ts := dk.toList) (by simpa using hdk)).2
  have hx := h.each x.1 x.2
  have hy := h.each y.1 y.2
  have rx := hx.1.grown hg fun ad ha e => hx.2 ad ha (by cases e; rfl)
  have ry := hy.1.grown hg fun ad ha e => hy.2 ad ha (by cases e; rfl)
  have hxl := hx.1.2; have hyl := hy.1.2
  unfold maxLen at hxl hyl
  have hc := cmpT_walk x.1.1.1 y.1.1.1 x.1.2.1 y.1.2.1 x.1.2.2 y.1.2.2 x.1.1.2 y.1.1.2 _ rx.1 ry.1 (by omega) (by omega)
  rw [Array.toArray_toList] at hc
  have hc2 : Calls Tryz.prog 38 (#[.agg (enc x).toArray, .agg (enc y).toArray] ++ #[]) (sortWorldK enc 2 w g 0 m dk os) (RetG (sortWorldK enc 2 w g 0 m dk os) (cmpLs x.1.1.2 y.1.1.2)) := by
   have e1 : ∀ z, enc z = [.int .i64 z.1.1.1, .slice z.1.2.1 z.1.1.2.length z.1.2.2] := fun z => by rw [henc]; rfl
   rw [e1, e1]; exact hc
  refine hc2.mono ?_
  rintro e w' ⟨rfl, q, os', rfl⟩
  exact ⟨by rw [hcf], q, os', rfl⟩
 have hcon := AnyQ.slices_SortFunc_total Tryz.laySortP 2 Tryz.isAgg49 Tryz.sizeOf49 enc hk (fun x v hv => by rw [henc] at hv; simp at hv; rcases hv with rfl | rfl <;> rfl) cf hO 38 #[] g 0 cap ps.attach.toArray w eg
  hcmp (Row.holdsG enc hk (by omega) hrow) h.lt (by simp; omega) (fun x y h1 h2 => by
   rw [hlt, decide_eq_false_iff_not] at h1 h2; have := cmpLs_swap x.1.1.2 y.1.1.2; have h0 : cmpLs x.1.1.2 y.1.1.2 = 0 := by omega
   rw [cmpLs_zero] at h0
   exact Subtype.ext (hd x.1 x.2 y.1 y.2 h0))
 change Calls Tryz.prog 37 _ _ _ at hcon
 simp only [List.size_toArray, List.length_attach] at hcon
 refine hcon.mono ?_
 rintro e w' ⟨rfl, n, os, rfl⟩
 obtain ⟨ts, hts⟩ : ∃ ts, ts = ps.attach.mergeSort fun x y => !ltOf cf y x := ⟨_, rfl⟩
 have hperm : ts.Perm ps.attach := by rw [hts]; exact List.mergeSort_perm _ _
 have hsort : ts.Pairwise fun x y => cmpLs x.1.1.2 y.1.1.2 ≤ 0 := by
  have h1 := List.pairwise_mergeSort (le := fun x y => !ltOf cf y x) (fun a b c h1 h2 => by
   simp only [hlt, Bool.not_eq_true', decide_eq_false_iff_not] at *
   have b1 := cmpLs_swap a.1.1.2 b.1.1.2; have b2 := cmpLs_swap b.1.1.2 c.1.1.2; have b3 := cmpLs_swap a.1.1.2 c.1.1.2; have a1 := cmpLs_lt_trans (a := a.1.1.2) (b := b.1.1.2) (c := c.1.1.2) (by omega) (by omega)
   omega) (fun a b => by
   simp only [hlt, Bool.or_eq_true, Bool.not_eq_true', decide_eq_false_iff_not]; have b1 := cmpLs_swap a.1.1.2 b.1.1.2
   omega) ps.attach
  rw [← hts] at h1
  exact h1.imp fun {a b} hab => by
   simp only [hlt, Bool.not_eq_true', decide_eq_false_iff_not] at hab; have b1 := cmpLs_swap a.1.1.2 b.1.1.2; omega
 obtain ⟨r1, r2⟩ := Row.sortedG (n := n) (os := os) enc hk (by omega) hrow (ts := ts) (by rw [hperm.length_eq])
 rw [hts] at r1 r2
 have hpm : (ts.map fun p => p.1).Perm ps := by
  have := hperm.map fun p => p.1
  rw [hatt] at this; exact this
 refine ⟨rfl, ts.map fun p => p.1, hpm, ?_, ⟨?_, ?_, h.lo, fun p hp => ?_⟩, r2⟩
 ·
  unfold ptQ LeP
  rw [List.map_map, List.pairwise_map]
  exact hsort
 · rw [← hcells, hts]; exact r1
 · rw [hpm.length_eq]; exact h.len
 ·
  obtain ⟨e1, e2⟩ := h.each p (hpm.mem_iff.1 hp)
  exact ⟨e1.grown r2 fun ad ha e => e2 ad ha (by cases e; rfl), e2⟩
end Go.Proofs.YtagcbnpahgfgmaaGreat
namespace Go.Proofs.YtagcbnpahgfgmaaGreat
open Go Go.RowKit
def wantT (ls : List Lk) : Bool := twoL ls && (!(ls.any fun k => k.2.2 != 0) && decide (3 ≤ (vertsL ls).length))
def RetTe (w : World) (ls : List Lk) (e : Ending) (w' : World) : Prop :=
 Below w.heap.size w w' ∧ ((wantT ls = true ∧ ∃ a c T, e = .returned (.tuple #[.slice a T.length c, .int .i64 0]) ∧ RdQ w' a T ∧ TreeTo kindL ls T ∧ T.length ≤ c ∧ c ≤ maxLen) ∨ (wantT ls = false ∧ e = .returned (.tuple #[.slice none 0 0, .int .i64 150])))
theorem virtual_walk (k : Lk) (w : World) :
  Calls Tryz.prog 32 #[.agg #[.int .i64 k.1, .int .i64 k.2.1, .int .i64 k.2.2]] w fun e w' => e = .returned (.bool (k.2.2 != 0)) ∧ Below w.heap.size w w' := by
 obtain ⟨x, y, v⟩ := k
 simp only
 obtain ⟨t, ht⟩ : ∃ t, t = (v != 0) := ⟨_, rfl⟩
 rw [← ht]
 cases t with
 | true =>
  have e1 : (v != 0) = true := ht.symm
  clear ht
  go_enter Tryz.func32, Tryz.ntmps32
  go_wp2_with fail
  go_ret
  exact ⟨by first | rfl | (rw [e1]; rfl), bl_alloc w _⟩
 | false =>
  have e1 : (v != 0) = false := ht.symm
  clear ht
  go_enter Tryz.func32, Tryz.ntmps32
  go_wp2_with fail
  go_ret
  exact ⟨by first | rfl | (rw [e1]; rfl), bl_alloc w _⟩
theorem cell_lt {w : World} {a : Addr} {v : Value} (h : w.cell? a = some v) : a.block < w.heap.size := by
 rcases Nat.lt_or_ge a.block w.heap.size with h' | h'
 · exact h'
 · simp [World.cell?, Array.getElem?_eq_none h'] at h
theorem news2 (W : World) (t : TypeId) (x y : Value) : ∀ (j : Nat) v, [x, y][j]? = some v → (W.alloc (.cells #[x, y] t)).cell? ((⟨W.heap.size, 0, none⟩ : Addr).add j) = some v := by
 intro j v hj
 match j with
 | 0 => simp at hj; subst hj; simp [Addr.add]
 | 1 => simp at hj; subst hj; simp [Addr.add]
 | j + 2 => simp at hj
def PtsI (w0 wj : World) (vo : Value) (ps : List PtR) : Prop :=
 Own wj vo 49 2 ps.length (ptC ps) ∧ (∀ p ∈ ps, RowP wj p ∧ ∀ ad, p.2.1 = some ad → ad.block < w0.heap.size) ∧ (∀ g, vo.ownBlock = some g → w0.heap.size ≤ g) ∧ Below w0.heap.size w0 wj
theorem PtsI.pt {w0 wj : World} {vo : Value} {ps : List PtR} (h : PtsI w0 wj vo ps) (hn : ps ≠ []) : ∃ g cap, vo = .slice (some ⟨g, 0, none⟩) ps.length cap ∧ PtI wj w0.heap.size g cap ps := by
 obtain ⟨h1, h2, h3, h4⟩ := h
 rcases h1.2 with ⟨rfl, h0⟩ | ⟨g, cap, rfl, hc, hr⟩
 · exact absurd (List.eq_nil_of_length_eq_zero h0) hn
 ·
  have hg := h3 g rfl
  exact ⟨g, cap, rfl, hr, hc, hg, fun p hp => ⟨(h2 p hp).1, fun ad ha => by have := (h2 p hp).2 ad ha; omega⟩⟩
theorem tree_distinct {ls : List Lk} {ps : List PtR} (h : QI ls (ptQ ps)) : ∀ x ∈ ps, ∀ y ∈ ps, x.1.2 = y.1.2 → x = y := by
 intro x hx y hy he
 obtain ⟨i, hi, rfl⟩ := List.getElem_of_mem hx
 obtain ⟨j, hj, rfl⟩ := List.getElem_of_mem hy
 by_cases hij : i = j
 · subst hij; rfl
 ·
  obtain ⟨R, hR⟩ := perm_any (Q := ptQ ps) hij (by rw [ptQ_len]; exact hi) (by rw [ptQ_len]; exact hj)
  exact absurd (by simpa [ptQ] using he) (h.distinct hR)
theorem qi_ne {ls : List Lk} {Q : List Pt} (h : QI ls Q) : Q ≠ [] := fun e => by
 obtain ⟨D, hT, _⟩ := h.tree
 have := hT.len
 rw [e] at this
 simp at this
theorem three_links {ls : List Lk} (h : twoL ls = true) (h3 : 3 ≤ (vertsL ls).length) : 3 ≤ ls.length := by
 refine Classical.byContradiction fun hno => ?_
 have h1 := vertsL_length ls
 match ls, h1, hno with
 | [], h1, _ => have e : ([] : List Lk).length = 0 := rfl; omega
 | [x], h1, _ => have e : [x].length = 1 := rfl; omega
 | _ :: _ :: _ :: _, _, hno => simp only [List.length_cons] at hno; omega
 | [e, f], _, _ =>
  obtain ⟨g1, m1, n1, v1⟩ := two_deg h h3 (e := e) (by simp) (.inl rfl)
  obtain ⟨g2, m2, n2, v2⟩ := two_deg h h3 (e := e) (by simp) (.inr rfl)
  have e1 : g1 = f := by simp at m1; exact m1.resolve_left n1
  have e2 : g2 = f := by simp at m2; exact m2.resolve_left n2
  rw [e1] at v1
  rw [e2] at v2
  have hR := (two_right h).2.1
  have ok1 := hR e (by simp); have ok2 := hR f (by simp)
  unfold OkL at ok1 ok2
  have hsub := RightQ.sub_len (verts_nodup [e, f]) (m := [e.1, e.2.1]) fun x hx => by
   obtain ⟨k, hk, hx⟩ := (mem_vertsL _ _).1 hx; simp at hk ⊢; rcases hk with rfl | rfl <;> omega
  simp only [List.length_cons, List.length_nil] at hsub
  omega
set_option maxRecDepth 100000 in
set_option maxHeartbeats 8000000 in
theorem stree_walk (a : Option Addr) (cap : Nat) (ls : List Lk) (w : World) (hr : RdL w a ls) (hcap : ls.length ≤ 9223372036854775807) :
  Calls Tryz.prog 7 #[.slice a ls.length cap] w (RetTe w ls) := by
 cases h2 : twoL ls with
 | false =>
  have hw : wantT ls = false := by unfold wantT; rw [h2]; rfl
  have H2 := Lib.hid h2; have Hw := Lib.hid hw
  clear h2 hw
  go_enter Tryz.func7, Tryz.ntmps7
  go_wp2_with fail
  refine (two_walk a cap ls _ hr hcap).mono ?_
  rw [H2.out]
  rintro e w1 ⟨rfl, hb1⟩
  go_wp2_with fail
  go_ret2
  exact ⟨hb1, .inr ⟨Hw.out, rfl⟩⟩
 | true =>
  have hRl := two_right h2
  have hn := hRl.1
  cases hv : ls.any (fun k => k.2.2 != 0) with
  | true =>
   have hw : wantT ls = false := by unfold wantT; rw [h2, hv]; rfl
   have H2 := Lib.hid h2; have Hw := Lib.hid hw; have Hv := Lib.hid hv; clear h2 hw hv hRl; go_enter Tryz.func7, Tryz.ntmps7; go_wp2_with fail; refine (two_walk a cap ls _ hr hcap).mono ?_; rw [H2.out]; rintro e w1 ⟨rfl, hb1⟩; have hr1 := hr.below hb1; go_wp2_with fail; refine (contains_walk0 (fun k => k.2.2 != 0) a cap ls _ hr1 (by omega) (fun k _ w1 _ => virtual_walk k w1)).mono ?_; rw [Hv.out]; rintro e w2 ⟨rfl, hb2⟩; have hB2 := bl_trans hb1 hb2; go_wp2_with fail; go_ret2; exact ⟨hB2, .inr ⟨Hw.out, rfl⟩⟩
  | false =>
   have hvl : (vertsL ls).length ≤ 2000 := by have := vertsL_length ls; omega
   have hv0 : ∀ k ∈ ls, k.2.2 = 0 := fun k hk => by
    have := List.any_eq_false.1 hv k hk; simpa using this
   by_cases h3 : (vertsL ls).length < 3
   ·
    have hw : wantT ls = false := by
     unfold wantT; rw [h2, hv, decide_eq_false (by omega)]; rfl
    obtain ⟨vs, hvs⟩ : ∃ vs, vs = vertsL ls := ⟨_, rfl⟩
    rw [← hvs] at h3 hvl; have e3 : decide ((vs.length : Int) < 3) = true := by simp; omega
    have H2 := Lib.hid h2; have Hw := Lib.hid hw; have Hv := Lib.hid hv; have Hvs := Lib.hid hvs; clear h2 hw hv h3 hv0 hvs hRl; go_enter Tryz.func7, Tryz.ntmps7; go_wp2_with fail; refine (two_walk a cap ls _ hr hcap).mono ?_; rw [H2.out]; rintro e w1 ⟨rfl, hb1⟩; have hr1 := hr.below hb1; go_wp2_with fail; refine (contains_walk0 (fun k => k.2.2 != 0) a cap ls _ hr1 (by omega) (fun k _ w1 _ => virtual_walk k w1)).mono ?_; rw [Hv.out]; rintro e w2 ⟨rfl, hb2⟩; have hB2 := bl_trans hb1 hb2; have hr2 := hr1.below hb2; go_wp2_with fail; refine (verts_walk a cap ls _ hr2 (by omega)).mono ?_; rw [← Hvs.out]; rintro e w3 ⟨av, cv, rfl, _, _, _, _, hb3⟩; have hB3 := bl_trans hB2 hb3; go_wp2_with fail; go_ret2; exact ⟨hB3, .inr ⟨Hw.out, rfl⟩⟩
   ·
    have hw : wantT ls = true := by
     unfold wantT; rw [h2, hv, decide_eq_true (by omega)]; rfl
    obtain ⟨vs, hvs⟩ : ∃ vs, vs = vertsL ls := ⟨_, rfl⟩
    rw [← hvs] at h3 hvl; have e3 : decide ((vs.length : Int) < 3) = false := by simp; omega
    have hl3 : 3 ≤ ls.length := three_links h2 (by rw [← hvs]; omega); have hspl := fun (w : World) (hr : RdL w a ls) => split_walk a cap ls 1 w hr h2 (by omega) (by omega) (fun k hk => by rw [hv0 k hk]; omega); have hok := fun (out : List (List Lk)) (n : Int) (h : SplitTo ls 1 out n) => h.ok hRl hv0 hl3; have H2 := Lib.hid h2; have Hw := Lib.hid hw; have Hv := Lib.hid hv; have Hvs := Lib.hid hvs; have Hok := Lib.hid hok; have Hspl := Lib.hid hspl; have HRl := Lib.hid hRl; clear h2 hw hv h3 hv0 hvs hok hspl hRl; go_enter Tryz.func7, Tryz.ntmps7; go_wp2_with fail; refine (two_walk a cap ls _ hr hcap).mono ?_; rw [H2.out]; rintro e w1 ⟨rfl, hb1⟩; have hr1 := hr.below hb1; go_wp2_with fail; refine (contains_walk0 (fun k => k.2.2 != 0) a cap ls _ hr1 (by omega) (fun k _ w1 _ => virtual_walk k w1)).mono ?_; rw [Hv.out]; rintro e w2 ⟨rfl, hb2⟩; have hB2 := bl_trans hb1 hb2; have hr2 := hr1.below hb2; clear hb1 hb2 hr1; go_wp2_with fail; refine (verts_walk a cap ls _ hr2 (by omega)).mono ?_; rw [← Hvs.out]; rintro e w3 ⟨av, cv, rfl, _, _, _, _, hb3⟩; have hB3 := bl_trans hB2 hb3; have hr3 := hr2.below hb3; clear hB2 hb3 hr2; go_wp2_with fail; refine (Hspl.out _ hr3).mono ?_; rintro e w4 ⟨a4, c4, out, n, rfl, hro, hso, hol, hoe, hb4⟩; have hB4 := bl_trans hB3 hb4; have hpo := Hok.out out n hso; have Hso := Lib.hid hso; have Hpo := Lib.hid hpo; clear hb4 hr3 hB3 hso hpo hr; have hI0 : PtsI w4 w4 (.slice none 0 0) [] := ⟨own_nil _ _ _, fun p hp => by simp at hp, fun g hg => by simp [Value.ownBlock] at hg, bl_refl w4⟩
    go_wp2_with fail; go_loopg [8, 35] out.length (fun r vo iv wj => ∃ (i : Nat) (ps : List PtR), i + r = out.length ∧ iv = .int .i64 i ∧ ps.length = i ∧ ptQ ps = (out.take i).map (fun p => (kindL p, p)) ∧ PtsI w4 wj vo ps)
    case atStart => exact ⟨0, [], by omega, rfl, rfl, by simp [ptQ], hI0⟩
    case round =>
     clear hI0; obtain ⟨i, ps, hi, rfl, hpl, hpq, hI⟩ := hrel; have Hi := Lib.hid hi; have Hpq := Lib.hid hpq; have Hpl := Lib.hid hpl; have HI := Lib.hid hI; by_cases hil : i < out.length
     ·
      obtain ⟨r, hrr⟩ : ∃ r, r = out[i] := ⟨_, rfl⟩
      have hoi : out[i]? = some r := by rw [hrr]; exact List.getElem?_eq_getElem hil
      have hrm : r ∈ out := by rw [hrr]; exact List.getElem_mem hil
      obtain ⟨bo, oo, au, cu, rfl, c0, rl0, cu1, cu2⟩ := hro i r hoi; have c1 := keep_cell hI.2.2.2 c0; have rl1 := rl0.below hI.2.2.2; have hr3 := Hpo.out.three r hrm; have hre := hoe r hrm; have haul : ∀ ad, au = some ad → ad.block < w4.heap.size := fun ad ha => by
       obtain ⟨b, o, h1, h2, -⟩ := rl0.at 0 (by omega); rw [ha] at h1; cases h1; exact cell_lt h2
      have htk : (out.take (i + 1)).map (fun p => (kindL p, p)) = (out.take i).map (fun p => (kindL p, p)) ++ [(kindL r, r)] := by
       rw [List.take_succ_eq_append_getElem hil, List.map_append, ← hrr]; rfl
      have Htk := Lib.hid htk; have i1 : (i : Int) < (out.length : Int) := by omega
      have Haul := Lib.hid haul; have Hrl0 := Lib.hid rl0; clear hi hpq hpl hI hrr hoi hrm c0 rl0 haul htk; go_wp2_with fail; refine (kind_walk au cu r _ rl1 (by omega)).mono ?_; rintro e w5 ⟨rfl, hb5⟩; obtain ⟨kd, hkd⟩ : ∃ kd, kd = kindL r := ⟨_, rfl⟩
      rw [← hkd]; have Hkd := Lib.hid hkd; have hown5 : Own w5 u8 49 2 ps.length (ptC ps) := HI.out.1.below fun g hg => hb5.block g (Own.lt HI.out.1 hg); have hB5 : Below w4.heap.size w4 w5 := bl_trans HI.out.2.2.2 hb5; have hps : ps.length ≤ 1001 := by rw [Hpl.out]; omega
      have hold : ∀ p ∈ ps, RowP w5 p ∧ ∀ ad, p.2.1 = some ad → ad.block < w4.heap.size := fun p hp => ⟨(HI.out.2.1 p hp).1.below hb5, (HI.out.2.1 p hp).2⟩
      have hlo := HI.out.2.2.1; clear hkd hb5 HI c1 rl1; have hlr : RdL w5 au r := Hrl0.out.below hB5; have hA5 := hown5.alloc (.cells #[.int .i64 kd, .slice au r.length cu] 49); go_wp2_with (at_builtin; refine wpList_append_row _ rfl (.tmp 39) (.tmp 44) 24 rfl 49 (.agg #[.int .i64 0, .slice none 0 0]) 2 32 Tryz.underlying24 info_part (by decide +kernel) u8 ps.length _ rfl hA5 ⟨w5.heap.size, 0, none⟩ 1 1 [.int .i64 kd, .slice au r.length cu] rfl rfl (news2 w5 _ _ _) (by intro u hu; simp at hu; rcases hu with rfl | rfl <;> rfl) (by omega) (by unfold maxLen; omega) (by omega) ?_; intro g6 c6 w6 hr6 hc6 hg6 hor6); have hb56 : Below w4.heap.size w4 w6 := (bl_trans hB5 (bl_alloc w5 _)).grown hg6 (by have := hB5.size; simp; omega) hlo; have hg56 : w5.grownBy w6 u8.ownBlock := ⟨hg6.os, hg6.tape, hg6.output, by have := hg6.size; simp at this; omega, fun k hk hne => (hg6.block k (by simp; omega) hne).trans (Below.heap_alloc w5 _ k hk)⟩
      have hlo6 : w4.heap.size ≤ g6 := by
       rcases hor6 with h | h
       · exact hlo g6 h
       · have := hB5.size; simp at h; omega
      have hI6 : PtsI w4 w6 (.slice (some ⟨g6, 0, none⟩) (ps.length + 1) c6) (ps ++ [((kd, r), au, cu)]) := by
       refine ⟨⟨by rw [ptC_len], .inr ⟨g6, c6, by simp, by simpa using hc6, ?_⟩⟩, fun p hp => ?_, fun g hg => by cases hg; exact hlo6, hb56⟩
       · rw [ptC_append]; exact hr6
       ·
        rcases List.mem_append.1 hp with hp | hp
        · exact ⟨(hold p hp).1.grown hg56 (fun ad ha e => by have h1 := (hold p hp).2 ad ha; have h2 := hlo _ e; omega), (hold p hp).2⟩
        ·
         simp at hp; subst hp; exact ⟨⟨Hrl0.out.below hb56, cu1, cu2, fun ad ha => by have := Haul.out ad ha; have := hb56.size; omega⟩, Haul.out⟩
      have HI6 := Lib.hid hI6; clear hI6 hr6 hc6 hg6 hor6 hb56 hg56 hlo6 hA5 hlr hown5 hB5 hold hlo; go_wp2_with fail; go_roundg (gk - 1)
      case measure => have := Hi.out; omega
      case rel => exact ⟨i + 1, ps ++ [((kd, r), au, cu)], by have := Hi.out; omega, by go_num, by rw [List.length_append, Hpl.out]; rfl, by rw [Htk.out, ← Hpq.out, ← Hkd.out]; simp [ptQ], HI6.out⟩
     ·
      have hin : i = out.length := by omega
      have hq := Hpo.out.qi (by exact HRl.out.1) kindL; rw [hin, List.take_length] at hpq; rw [← hpq] at hq; have hne : ps ≠ [] := fun e => qi_ne hq (by rw [e]; rfl); obtain ⟨g, cp, rfl, hP⟩ := hI.pt hne; have hp1000 : ps.length ≤ 1000 := by
       have h1 := hq.len; rw [ptQ_len] at h1; have := HRl.out.1; omega
      have hB := hI.2.2.2; have Hq := Lib.hid hq; have HP := Lib.hid hP; have HB := Lib.hid hB; rw [hpl, hin] at hp1000; have e9 : ps.length = out.length := by rw [hpl, hin]
      have hmg := merged_walk w4.heap.size g cp ps ls wr hP hq HRl.out.1 (by rw [e9]; exact hp1000); have E9 := Lib.hid e9; have Hmg := Lib.hid hmg; clear hq hP hB HI hI hpq hpl hi e9 hmg hne hp1000 Hpl; subst hin; go_wp2_with fail; refine Hmg.out.mono ?_; rintro e w5 ⟨pm, rfl, hP5, hto, hnm, hB5⟩; have hqm := hto.qi HRl.out.1 Hq.out; have hnem : pm ≠ [] := fun e => qi_ne hqm (by rw [e]; rfl); have hlm : pm.length ≤ 1000 := by
       have h1 := hqm.len; rw [ptQ_len] at h1; have := HRl.out.1; omega
      have hsort := sortP_walk w4.heap.size g cp pm w5 hP5 (tree_distinct hqm) hnem (by omega); have hlo5 := hP5.lo; have hsz5 : w4.heap.size ≤ w5.heap.size := by have := hP5.lt; omega
      have HB5 := Lib.hid (HB.out.trans hB5); have Hto := Lib.hid hto; have Hnm := Lib.hid hnm; clear hqm hnem hP5 hto hnm hB5 Hmg HB; go_wp2_with fail; refine hsort.mono ?_; rintro e w6 ⟨rfl, ts, hpt, hso, hP6, hg6⟩; have hB6 : Below w4.heap.size w4 w6 := HB5.out.grown hg6 hsz5 (fun k hk => by cases hk; exact hlo5); have hBw := bl_trans hB4 hB6; have hlen6 : ts.length = pm.length := hpt.length_eq; have hfin : TreeTo kindL ls (ptQ ts) := ⟨out, n, ptQ pm, Hso.out, by have := Hpq.out; rw [List.take_length] at this; rw [← this]; exact Hto.out, Hnm.out, (hpt.map _).symm, hso⟩
      have Hfin := Lib.hid hfin; have HP6 := Lib.hid hP6; clear hfin hP6 hB6 hg6 hso hsort hpt HB5 hB4; go_wp2_with fail; go_ret2; exact ⟨hBw, .inl ⟨Hw.out, some ⟨g, 0, none⟩, cp, ptQ ts, by rw [ptQ_len, hlen6]; rfl, HP6.out.rdq, Hfin.out, by rw [ptQ_len]; exact HP6.out.len, HP6.out.cap_le⟩⟩
end Go.Proofs.YtagcbnpahgfgmaaGreat
namespace Go.Proofs.YtagcbnpahgfgmaaGreat
def normB (Q : List Pt) : Bool := Q.all fun x => Q.all fun y => decide (x = y) || (decide (x.1 ≠ y.1) || (decide (x.1 = 3) || (virtL x.2).all fun e => decide (e ∉ virtL y.2)))
theorem normal_of {Q : List Pt} (hn : Q.Nodup) (hb : normB Q = true) : MNormal Q := fun e Q' hs => by
 have h : ∀ x ∈ Q, ∀ y ∈ Q, x ≠ y → x.1 = y.1 → x.1 ≠ 3 → ∀ e ∈ virtL x.2, e ∉ virtL y.2 := fun x hx y hy h1 h2 h3 e he => by
  have := List.all_eq_true.1 (List.all_eq_true.1 hb x hx) y hy
  simp only [Bool.or_eq_true, decide_eq_true_eq, List.all_eq_true] at this
  rcases this with h | h | h | h
  · exact absurd h h1
  · exact absurd h2 h
  · exact absurd h h3
  · exact h e he
 obtain ⟨x, y, R, hp, hex, hey, hk, h3, _⟩ := hs
 have hxy : x ≠ y := fun he => by
  have := hp.nodup_iff.1 hn
  rw [he] at this
  simp at this
 exact h x (hp.mem_iff.2 (by simp)) y (hp.mem_iff.2 (by simp)) hxy hk h3 e hex hey
def okC (Q : List Pt) (v : Int) : Bool := decide ((atV v (allQ Q)).length = 2) && pairB Q (atV v (allQ Q))
def seenC (Q : List Pt) : Bool := (List.range Q.length).all fun j => match Q[j]? with
 | none => true
 | some q => decide (q.1 ≠ 0) && (decide (q.1 = kindL q.2) && (decide (j = 0) || decide (cmpLs (lnQ Q (j - 1)) q.2 < 0)))
def rightC (Q : List Pt) : Bool := decide (0 < Q.length) && (seenC Q && ((allQ Q).all (fun p => decide (p.2.2.2 = 0) || okC Q p.2.2.2) && (decide (realsO (allQ Q)).Nodup && (decide (nvO (allQ Q) + 2 = 2 * Q.length) && (List.range Q.length).all fun j => roundS Q Q.length j))))
theorem rightC_right {Q : List Pt} (h : rightC Q = true) : RightQ Q := by
 unfold rightC at h
 simp only [Bool.and_eq_true, decide_eq_true_eq, List.all_eq_true, List.mem_range, Bool.or_eq_true] at h
 obtain ⟨h0, h1, h2, h3, h4, h5⟩ := h
 refine (right_doc h0).2 ⟨fun j hj _ => ?_, fun p hp hv => ?_, h3, h4, h5⟩
 ·
  unfold seenC at h1
  have := List.all_eq_true.1 h1 j (List.mem_range.2 hj)
  rw [List.getElem?_eq_getElem hj] at this
  simp only [Bool.and_eq_true, decide_eq_true_eq, Bool.or_eq_true] at this
  obtain ⟨a1, a2, a3⟩ := this
  refine ⟨a1, by rw [kind_same]; exact a2, fun hj0 => ?_⟩
  have a4 := a3.resolve_left (by omega)
  rw [lnQ_at (by omega)] at a4
  exact a4
 ·
  have := (h2 p hp).resolve_left hv
  unfold okC at this
  simp only [Bool.and_eq_true, decide_eq_true_eq] at this
  exact this
theorem tree_ex {ls : List Lk} {out : List (List Lk)} {n : Int} {k : Nat} {T : List Pt} (h1 : (SpS.steps k ⟨[ls], [], 1⟩).todo = []) (h2 : (SpS.steps k ⟨[ls], [], 1⟩).out = out) (h3 : (SpS.steps k ⟨[ls], [], 1⟩).next = n)
  (hm : MTo (out.map fun p => (kindL p, p)) T) (hn : MNormal T) (hs : T.Pairwise LeP) : TreeTo kindL ls T := by
 refine ⟨out, n, T, ⟨k, ?_⟩, hm, hn, .refl _, hs⟩
 obtain ⟨s, hs⟩ : ∃ s, s = SpS.steps k ⟨[ls], [], 1⟩ := ⟨_, rfl⟩
 rw [← hs] at h1 h2 h3 ⊢
 cases s
 simp only at h1 h2 h3
 subst h1; subst h2; subst h3; rfl
def exA : List Lk := [(0, 1, 0), (0, 3, 0), (1, 2, 0), (2, 3, 0)]
def exB : List Lk := [(0, 1, 0), (0, 2, 0), (0, 3, 0), (1, 2, 0), (1, 3, 0), (2, 3, 0)]
def exC : List Lk := [(0, 1, 0), (0, 2, 0), (0, 3, 0), (1, 2, 0), (1, 3, 0)]
def tA : List Pt := [(1, exA)]
def tB : List Pt := [(3, exB)]
def tC : List Pt := [(2, [(0, 1, 0), (0, 1, 1), (0, 1, 2)]), (1, [(0, 1, 1), (0, 2, 0), (1, 2, 0)]), (1, [(0, 1, 2), (0, 3, 0), (1, 3, 0)])]
theorem exA_s : sortL ([(0, 1), (1, 2), (2, 3), (0, 3)].map fun e : Int × Int => ((e.1, e.2, 0) : Lk)) = exA := by decide +kernel
theorem exB_s : sortL ([(0, 1), (0, 2), (0, 3), (1, 2), (1, 3), (2, 3)].map fun e : Int × Int => ((e.1, e.2, 0) : Lk)) = exB := by decide +kernel
theorem exC_s : sortL ([(0, 1), (0, 2), (1, 2), (0, 3), (1, 3)].map fun e : Int × Int => ((e.1, e.2, 0) : Lk)) = exC := by decide +kernel
theorem exA_w : wantT exA = true := by decide +kernel
theorem exB_w : wantT exB = true := by decide +kernel
theorem exC_w : wantT exC = true := by decide +kernel
theorem exA_r : RightL exA := (rightL_iff _).1 (by decide +kernel)
theorem exB_r : RightL exB := (rightL_iff _).1 (by decide +kernel)
theorem exC_r : RightL exC := (rightL_iff _).1 (by decide +kernel)
theorem one_normal (q : Pt) : MNormal [q] := fun e Q' hs => by
 obtain ⟨x, y, R, hp, _⟩ := hs
 have := hp.length_eq
 simp at this
instance instLeP (a b : Pt) : Decidable (LeP a b) := by unfold LeP; infer_instance
theorem exA_t : TreeTo kindL exA tA := by
 refine tree_ex (k := 3) (out := [[(0, 1, 0), (0, 2, 1), (1, 2, 0)], [(0, 2, 1), (0, 3, 0), (2, 3, 0)]]) (n := 2) (by decide +kernel) (by decide +kernel) (by decide +kernel) (.step (e := (0, 2, 1)) (Q1 := tA) ⟨(1, [(0, 1, 0), (0, 2, 1), (1, 2, 0)]), (1, [(0, 2, 1), (0, 3, 0), (2, 3, 0)]), [], ?_, by decide +kernel, by decide +kernel, rfl, by decide, ?_⟩ (.done (.refl _))) (one_normal _) (by decide +kernel)
 ·
  have h1 : kindL [(0, 1, 0), (0, 2, 1), (1, 2, 0)] = 1 := by decide +kernel
  have h2 : kindL [(0, 2, 1), (0, 3, 0), (2, 3, 0)] = 1 := by decide +kernel
  simp only [List.map_cons, List.map_nil, h1, h2]
  exact .refl _
 ·
  have h3 : joinL [(0, 1, 0), (0, 2, 1), (1, 2, 0)] [(0, 2, 1), (0, 3, 0), (2, 3, 0)] 1 = exA := by decide +kernel
  simp only [h3]
  exact .refl _
theorem exB_t : TreeTo kindL exB tB := by
 refine tree_ex (k := 1) (out := [exB]) (n := 1) (by decide +kernel) (by decide +kernel) (by decide +kernel) (.done ?_) (one_normal _) (by decide +kernel)
 have h1 : kindL exB = 3 := by decide +kernel
 simp only [List.map_cons, List.map_nil, h1]
 exact .refl _
theorem exC_t : TreeTo kindL exC tC := by
 refine tree_ex (k := 5) (out := [[(0, 1, 1), (0, 2, 0), (1, 2, 0)], [(0, 1, 2), (0, 3, 0), (1, 3, 0)], [(0, 1, 0), (0, 1, 1), (0, 1, 2)]]) (n := 3) (by decide +kernel) (by decide +kernel) (by decide +kernel) (.done ?_) (normal_of (by decide +kernel) (by decide +kernel)) (by decide +kernel)
 have h1 : kindL [(0, 1, 1), (0, 2, 0), (1, 2, 0)] = 1 := by decide +kernel
 have h2 : kindL [(0, 1, 2), (0, 3, 0), (1, 3, 0)] = 1 := by decide +kernel
 have h3 : kindL [(0, 1, 0), (0, 1, 1), (0, 1, 2)] = 2 := by decide +kernel
 simp only [List.map_cons, List.map_nil, h1, h2, h3]
 decide +kernel
theorem exC_right : RightQ tC := rightC_right (by decide +kernel)
theorem exC_c : centreL tC = [0] := by
 have hb : rightB tC = true := rightB_iff.2 exC_right
 have he : besQ tC = nbQ tC := funext fun i => (nb_bes exC_right i).symm
 unfold centreL
 rw [hb]
 unfold centreQ
 rw [he]
 decide +kernel
theorem exC_w2 : wholeL tC = exC := by
 have hb : rightB tC = true := rightB_iff.2 exC_right
 unfold wholeL
 rw [hb]
 decide +kernel
end Go.Proofs.YtagcbnpahgfgmaaGreat
namespace Go.Proofs.YtagcbnpahgfgmaaGreat
open Go Go.RowKit
def lkOf (e : Int × Int) : Lk := (e.1, e.2, 0)
set_option maxHeartbeats 1000000 in
theorem of15_walk (a : Option Addr) (cap : Nat) (es : List (Int × Int)) (w : World) (hr : RdP w a es) (hl : es.length ≤ 1000) :
  Calls Tryz.prog 40 #[.slice a es.length cap] w (RetLk w (sortL (es.map lkOf))) := by
 go_enter Tryz.func40, Tryz.ntmps40
 go_wp2_with fail
 have ho0 : OwnL w (.slice none 0 0) ((es.take 0).map lkOf) := own_nil _ _ _
 go_loopg [3, 8] es.length (fun r vo iv wj => ∃ i : Nat, i + r = es.length ∧ iv = .int .i64 i ∧ OwnL wj vo ((es.take i).map lkOf) ∧ (∀ g, vo.ownBlock = some g → w.heap.size ≤ g) ∧ Below w.heap.size w wj)
 case atStart => exact ⟨0, by omega, rfl, ho0, fun g hg => by simp [Value.ownBlock] at hg, bl_refl w⟩
 case round =>
  clear ho0
  obtain ⟨i, hi, rfl, hown, hyoung, hB⟩ := hrel
  have Hi := Lib.hid hi; have Hyoung := Lib.hid hyoung
  clear hyoung
  by_cases hil : i < es.length
  ·
   clear hi; obtain ⟨b, o, rfl, c0, c1⟩ := (hr.below hB).at i hil; obtain ⟨⟨x, y⟩, hx⟩ : ∃ e : Int × Int, es[i] = e := ⟨_, rfl⟩
   have htk : (es.take (i + 1)).map lkOf = (es.take i).map lkOf ++ [(x, y, 0)] := by
    rw [List.take_succ_eq_append_getElem hil, List.map_append, hx]; rfl
   rw [hx] at c0 c1; simp only at c0 c1; have hRl : ((es.take i).map lkOf).length ≤ 1000 := by rw [List.length_map, List.length_take]; omega
   obtain ⟨R, hR⟩ : ∃ R, R = (es.take i).map lkOf := ⟨_, rfl⟩
   rw [← hR] at hown htk hRl; have Htk := Lib.hid htk; have i1 : (i : Int) < (es.length : Int) := by omega
   have hA1 := bl_alloc wr (.cells #[.int .i64 x, .int .i64 y] 62); have d0 : (wr.alloc (.cells #[.int .i64 x, .int .i64 y] 62)).cell? ⟨wr.heap.size, 0, none⟩ = some (.int .i64 x) := by simp
   have d1 : (wr.alloc (.cells #[.int .i64 x, .int .i64 y] 62)).cell? ⟨wr.heap.size, 1, none⟩ = some (.int .i64 y) := by simp
   have hownA : OwnL (wr.alloc (.cells #[.int .i64 x, .int .i64 y] 62)) u3 R := hown.alloc _; have hBA := bl_trans hB hA1; clear htk hR hx; go_upto_region 5 with (fail)
   clear c0 c1 hown hB hA1; generalize wr.alloc (.cells #[.int .i64 x, .int .i64 y] 62) = wA at d0 d1 hownA hBA ⊢; have hownB : Own (wA.alloc (.cells #[.int .i64 x, .int .i64 y, .int .i64 0] 38)) u3 38 3 R.length (lkCells R) := Own.alloc hownA _; have hszA := hBA.size; go_wp2_with (at_builtin; refine wpList_append_row _ rfl (.tmp 12) (.tmp 18) 22 rfl 38 (.agg #[.int .i64 0, .int .i64 0, .int .i64 0]) 3 24 Tryz.underlying22 link_info rfl u3 R.length _ rfl hownB ⟨wA.heap.size, 0, none⟩ 1 1 [.int .i64 x, .int .i64 y, .int .i64 0] rfl rfl (news3 _ _ _ _ _) (one3 _ _ _) (by omega) (by unfold maxLen; omega) (by omega) ?_; intro g5 c5 w5 hr5 hc5 hg5 hor5); have hB5 : Below w.heap.size w w5 := (bl_trans hBA (bl_alloc wA (.cells #[.int .i64 x, .int .i64 y, .int .i64 0] 38))).grown hg5 (by simp; omega) (fun j hj => Hyoung.out j hj); have hy5 : w.heap.size ≤ g5 := by
    rcases hor5 with h | h
    · exact Hyoung.out g5 h
    · simp at h; omega
   have hown5 : OwnL w5 (.slice (some ⟨g5, 0, none⟩) (R.length + 1) c5) ((es.take (i + 1)).map lkOf) := by
    rw [Htk.out]; have e2 : lkCells R ++ [Value.int .i64 x, Value.int .i64 y, Value.int .i64 0] = lkCells (R ++ [(x, y, 0)]) := by rw [lkCells_append]; rfl
    rw [e2] at hr5; exact ⟨lkCells_length _, .inr ⟨g5, c5, by simp, by simpa using hc5, hr5⟩⟩
   clear hr5 hg5 hor5 hownA hownB d0 d1; go_wp2_with fail; go_roundg (gk - 1)
   case measure => have := Hi.out; omega
   case rel => exact ⟨i + 1, by have := Hi.out; omega, by go_num, hown5, fun j hj => by cases hj; exact hy5, hB5⟩
  ·
   have hin : i = es.length := by omega
   subst hin; rw [List.take_of_length_le (Nat.le_refl _)] at hown; obtain ⟨R, hR⟩ : ∃ R, R = es.map lkOf := ⟨_, rfl⟩
   have hRl : R.length ≤ 1000 := by rw [hR, List.length_map]; omega
   rw [← hR] at hown; have HR := Lib.hid hR; obtain ⟨a2, c2, rfl, hr2, -, -, -⟩ := hown.read; have hsw := sorted_walk a2 c2 R wr hr2 (by omega); have Hsw := Lib.hid hsw; have hsz := hB.size; clear hi Hi hown hr2 hsw hR; go_wp2_with fail; refine Hsw.out.mono ?_; rintro e w2 ⟨v, rfl, h1, h2, h3⟩; have hB2 := bl_trans hB h3; go_wp2_with fail; go_ret; exact ⟨v, rfl, by rw [← HR.out]; exact h1, fun g hg => by have := h2 g hg; omega, hB2⟩
theorem pairs_at (w : World) (es : List (Int × Int)) (n : Nat) (h : es.length = n) (hm : n ≤ maxLen) : RdP (w.alloc (.cells (pairCells es).toArray 62)) (some ⟨w.heap.size, 0, none⟩) es := by
 have hl : (pairCells es).length = es.length * 2 := by
  clear h
  induction es with
  | nil => rfl
  | cons e es ih => simp only [pairCells, List.flatMap_cons, List.length_append, List.length_cons, List.length_nil] at ih ⊢; omega
 have := (row_new w (pairCells es).toArray 62 2 n (by simp [hl]; omega) hm).at_
 unfold RdP
 simpa using this
def rawA : List (Int × Int) := [(0, 1), (1, 2), (2, 3), (0, 3)]
def rawB : List (Int × Int) := [(0, 1), (0, 2), (0, 3), (1, 2), (1, 3), (2, 3)]
def rawC : List (Int × Int) := [(0, 1), (0, 2), (1, 2), (0, 3), (1, 3)]
set_option maxRecDepth 100000 in
set_option maxHeartbeats 8000000 in
theorem awake15_walk (w : World) : Calls Tryz.prog 9 #[] w (RetT w true) := by
 go_enter Tryz.func9, Tryz.ntmps9
 have hpx := pairs_at w rawA 4 rfl (by unfold maxLen; omega)
 have hbpx := bl_alloc w (.cells (pairCells rawA).toArray 62)
 go_wp2_with fail
 refine (of15_walk (some ⟨(w).heap.size, 0, none⟩) 4 rawA _ hpx (by decide)).mono ?_
 rw [show rawA.map lkOf = rawA.map (fun e : Int × Int => ((e.1, e.2, 0) : Lk)) from rfl, show sortL (rawA.map fun e : Int × Int => ((e.1, e.2, 0) : Lk)) = exA from exA_s]
 rintro e wx1 ⟨vx, rfl, hox, -, hbx1⟩
 obtain ⟨ax, cx, rfl, hrx, -, -, -⟩ := hox.read
 have hBx := bl_trans hbpx hbx1
 clear hpx hox
 go_wp2_with fail
 refine (stree_walk ax cx exA _ hrx (by decide)).mono ?_
 rintro e wx2 ⟨hbx2, ⟨-, sx, dx, T, rfl, hqx, ht, hscx, hsmx⟩ | ⟨hno, -⟩⟩
 rotate_left
 · rw [exA_w] at hno; cases hno
 obtain rfl : T = tA := ht.one exA_t exA_r (by decide) (by decide)
 clear ht
 rw [show tA.length = 1 from rfl]
 have hBx := bl_trans hBx hbx2
 have hpy := pairs_at wx2 rawB 6 rfl (by unfold maxLen; omega)
 have hbpy := bl_alloc wx2 (.cells (pairCells rawB).toArray 62)
 go_wp2_with fail
 refine (of15_walk (some ⟨(wx2).heap.size, 0, none⟩) 6 rawB _ hpy (by decide)).mono ?_
 rw [show rawB.map lkOf = rawB.map (fun e : Int × Int => ((e.1, e.2, 0) : Lk)) from rfl, show sortL (rawB.map fun e : Int × Int => ((e.1, e.2, 0) : Lk)) = exB from exB_s]
 rintro e wy1 ⟨vy, rfl, hoy, -, hby1⟩
 obtain ⟨ay, cy, rfl, hry, -, -, -⟩ := hoy.read
 have hBy := bl_trans hbpy hby1
 clear hpy hoy
 go_wp2_with fail
 refine (stree_walk ay cy exB _ hry (by decide)).mono ?_
 rintro e wy2 ⟨hby2, ⟨-, sy, dy, T, rfl, hqy, ht, hscy, hsmy⟩ | ⟨hno, -⟩⟩
 rotate_left
 · rw [exB_w] at hno; cases hno
 obtain rfl : T = tB := ht.one exB_t exB_r (by decide) (by decide)
 clear ht
 rw [show tB.length = 1 from rfl]
 have hBy := bl_trans hBx (bl_trans hBy hby2)
 have hqx := hqx.below (bl_trans (bl_trans (bl_alloc wx2 _) hby1) hby2)
 have hpz := pairs_at wy2 rawC 5 rfl (by unfold maxLen; omega)
 have hbpz := bl_alloc wy2 (.cells (pairCells rawC).toArray 62)
 go_wp2_with fail
 refine (of15_walk (some ⟨(wy2).heap.size, 0, none⟩) 5 rawC _ hpz (by decide)).mono ?_
 rw [show rawC.map lkOf = rawC.map (fun e : Int × Int => ((e.1, e.2, 0) : Lk)) from rfl, show sortL (rawC.map fun e : Int × Int => ((e.1, e.2, 0) : Lk)) = exC from exC_s]
 rintro e wz1 ⟨vz, rfl, hoz, -, hbz1⟩
 obtain ⟨az, cz, rfl, hrz, -, -, -⟩ := hoz.read
 have hBz := bl_trans hbpz hbz1
 clear hpz hoz
 go_wp2_with fail
 refine (stree_walk az cz exC _ hrz (by decide)).mono ?_
 rintro e wz2 ⟨hbz2, ⟨-, sz, dz, T, rfl, hqz, ht, hscz, hsmz⟩ | ⟨hno, -⟩⟩
 rotate_left
 · rw [exC_w] at hno; cases hno
 obtain rfl : T = tC := ht.one exC_t exC_r (by decide) (by decide)
 clear ht
 rw [show tC.length = 3 from rfl]
 have hBz := bl_trans hBy (bl_trans hBz hbz2)
 have hrz2 := hrz.below hbz2
 have hyz := bl_trans (bl_trans (bl_alloc wy2 (.cells (pairCells rawC).toArray 62)) hbz1) hbz2
 have hqx := hqx.below hyz
 have hqy := hqy.below hyz
 clear hyz hbz2 hbz1 hbpz hby1 hbpy hby2 hbpx hbx1 hbx2
 go_wp2_with fail
 refine (centre_walk sz dz tC _ hqz (by decide)).mono ?_
 rw [exC_c]
 rintro e w5 ⟨a5, c5, rfl, hc5, hb5⟩
 have hB5 := bl_trans hBz hb5
 have hqx := hqx.below hb5
 have hqy := hqy.below hb5
 have hqz := hqz.below hb5
 have hrz := hrz2.below hb5
 clear hb5 hrz2
 obtain ⟨b1, o1, au1, cu1, rfl, x0, x1, -, -, -⟩ := hqx 0 _ rfl
 obtain ⟨b2, o2, au2, cu2, rfl, y0, y1, -, -, -⟩ := hqy 0 _ rfl
 obtain ⟨b3, o3, au3, cu3, rfl, z0, z1, -, -, -⟩ := hqz 0 _ rfl
 obtain ⟨b4, o4, rfl, m0⟩ := hc5 0 _ rfl
 simp only [Nat.zero_mul, Nat.add_zero] at x0 x1 y0 y1 z0 z1 m0
 replace m0 : w5.cell? ⟨b4, o4, none⟩ = some (.int .i64 0) := m0
 replace x0 : w5.cell? ⟨b1, o1, none⟩ = some (.int .i64 1) := x0
 replace y0 : w5.cell? ⟨b2, o2, none⟩ = some (.int .i64 3) := y0
 replace z0 : w5.cell? ⟨b3, o3, none⟩ = some (.int .i64 2) := z0
 replace x1 : w5.cell? ⟨b1, o1 + 1, none⟩ = some (.slice au1 4 cu1) := x1
 replace z1 : w5.cell? ⟨b3, o3 + 1, none⟩ = some (.slice au3 3 cu3) := z1
 go_wp2_with fail
 refine (sright_walk (some ⟨b3, o3, none⟩) dz tC _ hqz (by decide)).mono ?_
 rw [rightB_iff.2 exC_right]
 rintro e w6 ⟨rfl, hb6⟩
 have hqz := hqz.below hb6
 have hrz := hrz.below hb6
 have hB6 := bl_trans hB5 hb6
 go_wp2_with fail
 refine (whole_walk (some ⟨b3, o3, none⟩) dz tC _ hqz (by decide)).mono ?_
 rw [exC_w2]
 rintro e w7 ⟨v7, rfl, ho7, -, hb7⟩
 obtain ⟨a7, c7, rfl, hr7, -, -, -⟩ := ho7.read
 have hrz := hrz.below hb7
 have hB7 := bl_trans hB6 hb7
 go_wp2_with fail
 refine (same_walk a7 az c7 cz exC exC _ hr7 hrz (by decide) (by decide)).mono ?_
 rw [decide_eq_true rfl]
 rintro e w8 ⟨rfl, d, rfl⟩
 have hB8 := below_drewN hB7 d
 go_wp2_with fail
 go_ret
 exact ⟨rfl, hB8⟩
end Go.Proofs.YtagcbnpahgfgmaaGreat
namespace Go.Proofs.YtagcbnpahgfgmaaGreat
open Go Go.RowKit
def twoR (ls : List Lk) : Bool := !(ls.any fun k => k.2.2 != 0) && (decide (ls.length ≤ 40) && (twoL ls && decide (3 ≤ (vertsL ls).length)))
set_option maxHeartbeats 1000000 in
theorem two15_walk (a : Option Addr) (cap : Nat) (ls : List Lk) (w : World) (hr : RdL w a ls) (hcap : ls.length ≤ 9223372036854775807) :
  Calls Tryz.prog 8 #[.slice a ls.length cap] w (RetT w (twoR ls)) := by
 obtain ⟨t, ht⟩ : ∃ t, t = twoR ls := ⟨_, rfl⟩
 rw [← ht]
 have Ht := Lib.hid ht; clear ht
 go_enter Tryz.func8, Tryz.ntmps8
 go_wp2_with fail
 go_loopg [6] ls.length (fun r iv wj => ∃ i : Nat, i + r = ls.length ∧ iv = .int .i64 i ∧ (∀ j (h : j < ls.length), j < i → ls[j].2.2 = 0) ∧ w = wj)
 case atStart => exact ⟨0, by omega, rfl, fun j _ hj => absurd hj (by omega), rfl⟩
 case round =>
  obtain ⟨i, hi, rfl, hall, rfl⟩ := hrel
  have Hi := Lib.hid hi; have Hall := Lib.hid hall
  clear hall
  by_cases hil : i < ls.length
  ·
   clear hi; obtain ⟨b, o, rfl, c0, c1, c2⟩ := hr.at i hil; obtain ⟨⟨x, y, v⟩, hk⟩ : ∃ k : Lk, ls[i] = k := ⟨_, rfl⟩
   rw [hk] at c0 c1 c2; simp only at c0 c1 c2; have Hk := Lib.hid hk; have iI : (i : Int) < (ls.length : Int) := by omega
   clear hk; by_cases hv : v = 0
   ·
    subst hv; go_wp2_with fail; go_roundg (gk - 1)
    case measure => have := Hi.out; omega
    case rel => exact ⟨i + 1, by have := Hi.out; omega, by go_num, fun j hj hji => (by
     by_cases e : j = i
     · subst e; rw [Hk.out]
     · exact Hall.out j hj (by omega)), rfl⟩
   ·
    have e1 : (v == (0 : Int)) = false := by simpa using hv
    have hfin : t = false := by
     rw [Ht.out]; unfold twoR; have h1 : (ls.any fun k => k.2.2 != 0) = true := by
      rw [List.any_eq_true]; exact ⟨_, List.getElem_mem hil, by rw [Hk.out]; simpa using hv⟩
     rw [h1]; rfl
    subst hfin; clear hv; go_wp2_with fail; go_ret; exact ⟨rfl, bl_refl _⟩
  ·
   have hin : i = ls.length := by omega
   subst hin; have hany : (ls.any fun k => k.2.2 != 0) = false := by
    rw [List.any_eq_false]; intro k hk; obtain ⟨j, hj, rfl⟩ := List.getElem_of_mem hk; simpa using Hall.out j hj hj
   have hfin : t = (decide (ls.length ≤ 40) && (twoL ls && decide (3 ≤ (vertsL ls).length))) := by
    rw [Ht.out]; unfold twoR; rw [hany]; rfl
   clear hi hany Ht; by_cases h40 : ls.length ≤ 40
   ·
    have e1 : decide ((ls.length : Int) ≤ 40) = true := by simp; omega
    rw [decide_eq_true h40, Bool.true_and] at hfin; have Hfin := Lib.hid hfin; clear hfin; go_wp2_with fail; refine (two_walk a cap ls _ hr hcap).mono ?_; obtain ⟨u, hu⟩ : ∃ u, u = twoL ls := ⟨_, rfl⟩
    rw [← hu] at Hfin ⊢; rintro e w1 ⟨rfl, hb1⟩; clear hu; cases u with
    | false =>
     go_wp2_with fail; go_ret; exact ⟨by rw [Hfin.out] <;> rfl, hb1⟩
    | true =>
     go_wp2_with fail; refine (verts_walk a cap ls _ (hr.below hb1) (by omega)).mono ?_; rintro e w2 ⟨av, cv, rfl, -, -, -, -, hb2⟩; have hB := bl_trans hb1 hb2; clear hb1 hb2; have e2 : decide ((3 : Int) ≤ ((vertsL ls).length : Int)) = t := by
      rw [Hfin.out, Bool.true_and, decide_eq_decide]; omega
     go_wp2_with fail; go_ret; exact ⟨rfl, hB⟩
   ·
    have e1 : decide ((ls.length : Int) ≤ 40) = false := by simp; omega
    rw [decide_eq_false h40, Bool.false_and] at hfin; subst hfin; clear h40; go_wp2_with fail; go_ret; exact ⟨rfl, bl_refl _⟩
end Go.Proofs.YtagcbnpahgfgmaaGreat
namespace Go.Proofs.YtagcbnpahgfgmaaGreat
namespace Uq
open Classical
structure Gr (α : Type) where
 VS : List Int
 I : α → Int → Prop
variable {α : Type}
def bd (G : Gr α) (X : α → Prop) (v : Int) : Prop := (∃ k, X k ∧ G.I k v) ∧ ∃ k, ¬ X k ∧ G.I k v
noncomputable def lam (G : Gr α) (X : α → Prop) : Nat := (G.VS.filter fun v => decide (bd G X v)).length
structure Ok (G : Gr α) : Prop where
 nd : G.VS.Nodup
 ends : ∀ k v, G.I k v → v ∈ G.VS
 conn : ∀ X : α → Prop, (∃ k, X k) → (∃ k, ¬ X k) → 2 ≤ lam G X
theorem Ok.ge {G : Gr α} (h : Ok G) {X : α → Prop} (h1 : ∃ k, X k) (h2 : ∃ k, ¬ X k) (a : Int) : ∃ v, v ≠ a ∧ bd G X v := by
 refine Classical.byContradiction fun hno => ?_
 have h3 := h.conn X h1 h2
 have hm : ∀ v ∈ (G.VS.filter fun v => decide (bd G X v)), v = a := fun v hv => by
  rw [List.mem_filter, decide_eq_true_eq] at hv
  exact Classical.byContradiction fun hne => hno ⟨v, hne, hv.2⟩
 have hn : (G.VS.filter fun v => decide (bd G X v)).Nodup := h.nd.filter _
 unfold lam at h3
 generalize (G.VS.filter fun v => decide (bd G X v)) = l at h3 hm hn
 match l, h3, hm, hn with
 | x :: y :: r, _, hm, hn =>
  have := hm x (by simp); have := hm y (by simp)
  subst_vars
  simp at hn
theorem sub_le {β : Type} : ∀ {l m : List β}, l.Nodup → (∀ x ∈ l, x ∈ m) → l.length ≤ m.length
 | [], _, _, _ => Nat.zero_le _
 | a :: l, m, hn, h => by
  obtain ⟨m1, m2, rfl⟩ := List.append_of_mem (h a (by simp))
  have hn' := List.nodup_cons.1 hn
  have := sub_le (m := m1 ++ m2) hn'.2 fun x hx => by
   have := h x (by simp [hx])
   simp only [List.mem_append, List.mem_cons] at this ⊢
   rcases this with h1 | rfl | h1
   · exact .inl h1
   · exact absurd hx hn'.1
   · exact .inr h1
  simp at this ⊢
  omega
theorem third {β : Type} {l : List β} (hn : l.Nodup) (h3 : 3 ≤ l.length) (x y : β) : ∃ z ∈ l, z ≠ x ∧ z ≠ y := by
 refine Classical.byContradiction fun hno => ?_
 have hm : ∀ z ∈ l, z = x ∨ z = y := fun z hz => by
  by_cases h1 : z = x
  · exact .inl h1
  · exact .inr (Classical.byContradiction fun h2 => hno ⟨z, hz, h1, h2⟩)
 match l, h3, hm, hn with
 | a :: b :: c :: r, _, hm, hn =>
  have h1 := hm a (by simp); have h2 := hm b (by simp); have h3 := hm c (by simp)
  simp only [List.nodup_cons, List.mem_cons, not_or] at hn
  obtain ⟨⟨n1, n2, _⟩, ⟨n3, _⟩, _⟩ := hn
  rcases h1 with rfl | rfl <;> rcases h2 with rfl | rfl <;> rcases h3 with rfl | rfl <;> simp_all
def Big (X : α → Prop) : Prop := ∃ k m, k ≠ m ∧ X k ∧ X m
end Uq
end Go.Proofs.YtagcbnpahgfgmaaGreat
namespace Go.Proofs.YtagcbnpahgfgmaaGreat
def shr (v : Int) (ys : List Int) : List Int := ys.filter fun w => v == w
def sharedL (xs ys : List Int) : List Int := xs.flatMap fun v => shr v ys
theorem mem_shared {xs ys : List Int} {v : Int} : v ∈ sharedL xs ys ↔ v ∈ xs ∧ v ∈ ys := by
 unfold sharedL shr
 rw [List.mem_flatMap]
 constructor
 ·
  rintro ⟨x, hx, hv⟩
  rw [List.mem_filter, beq_iff_eq] at hv
  obtain ⟨h1, rfl⟩ := hv
  exact ⟨hx, h1⟩
 ·
  rintro ⟨h1, h2⟩
  exact ⟨v, h1, List.mem_filter.2 ⟨h2, by simp⟩⟩
end Go.Proofs.YtagcbnpahgfgmaaGreat
namespace Go.Proofs.YtagcbnpahgfgmaaGreat
theorem grp_share {ls : List Lk} {a b : Int} (hR : RightL ls) {r s : List Lk} {i j : Nat} (G : GrpAt ls [a, b] r i) (H : GrpAt ls [a, b] s j) (hn : ¬ LCon ls [a, b] i j) : ∀ v, v ∈ sharedL (vertsL r) (vertsL s) → v = a ∨ v = b := by
 intro v hv
 obtain ⟨h1, h2⟩ := mem_shared.1 hv
 obtain ⟨e, he, hve⟩ := (mem_vertsL _ v).1 h1
 obtain ⟨f, hf, hvf⟩ := (mem_vertsL _ v).1 h2
 refine Classical.byContradiction fun hno => ?_
 have ht : touchB [a, b] e f = true := (touchB_iff _ _ _).2 ⟨v, by simpa using hno, hve, hvf⟩
 rw [grp_touch hR G H hn he hf] at ht; cases ht
end Go.Proofs.YtagcbnpahgfgmaaGreat
