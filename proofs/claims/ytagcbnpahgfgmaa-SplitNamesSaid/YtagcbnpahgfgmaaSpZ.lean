/- split.Join, of links that have one number in common. -/
import Derived.Test.YtagcbnpahgfgmaaSpY
import Derived.Test.YtagcbnpahgfgmaaSqC
import Derived.Test.YtagcbnpahgfgmaaReg
namespace Go.Proofs.Ytagcbnpahgfgmaa
open Go Go.RowKit

/-- What 'Join' hands back. -/
def RetJ (w : World) (ls : List Lk) (e : Ending) (w' : World) : Prop :=
  ∃ v, e = .returned (.tuple #[v, .int .i64 0]) ∧ OwnL w' v ls ∧ (∀ g, v.ownBlock = some g → w.heap.size ≤ g) ∧ Below w.heap.size w w'
theorem drop_at {x x1 x2 : List Lk} {e : Lk} (h : x = x1 ++ e :: x2) (hn : x.Nodup) (hu : ∀ k ∈ x, k.2.2 = e.2.2 → k = e) : dropV e.2.2 x = x1 ++ x2 := by
  subst h
  rw [List.nodup_append] at hn
  obtain ⟨h1, h2, h3⟩ := hn
  rw [List.nodup_cons] at h2
  rw [dropV_append]
  have a1 : dropV e.2.2 x1 = x1 := dropV_self fun k hk hv => h3 k hk e (by simp) (hu k (by simp [hk]) hv)
  have a2 : dropV e.2.2 (e :: x2) = x2 := by
    unfold dropV
    rw [List.filter_cons, if_neg (by simp)]
    exact dropV_self fun k hk hv => h2.1 (by rw [← hu k (by simp [hk]) hv]; exact hk)
  rw [a1, a2]
theorem idx_at {x x1 x2 : List Lk} {e : Lk} (h : x = x1 ++ e :: x2) (hn : x.Nodup) (hu : ∀ k ∈ x, k.2.2 = e.2.2 → k = e) : idxL (fun k => k.2.2 == e.2.2) x = (x1.length : Int) := by
  subst h
  rw [List.nodup_append] at hn
  obtain ⟨h1, h2, h3⟩ := hn
  unfold idxL
  have : (x1 ++ e :: x2).findIdx? (fun k => k.2.2 == e.2.2) = some x1.length := by
    rw [List.findIdx?_eq_some_iff_getElem]
    refine ⟨by simp, by simp, fun j hj => ?_⟩
    rw [List.getElem_append_left hj]
    intro hv
    have hv := beq_iff_eq.1 hv
    exact h3 _ (List.getElem_mem hj) e (by simp) (hu _ (by simp [List.getElem_mem hj]) hv)
  rw [this]
theorem tail_no {x x1 x2 : List Lk} {e : Lk} (h : x = x1 ++ e :: x2) (hn : x.Nodup) (hu : ∀ k ∈ x, k.2.2 = e.2.2 → k = e) : (x2.any fun k => k.2.2 == e.2.2) = false := by
  subst h
  rw [List.nodup_append] at hn
  obtain ⟨h1, h2, h3⟩ := hn
  rw [List.nodup_cons] at h2
  rw [List.any_eq_false]
  intro k hk hv
  exact h2.1 (by rw [← hu k (by simp [hk]) (by simpa using hv)]; exact hk)
/-- where a slice from k on lies -/
def fromA (b o k cap : Nat) : Option Addr := if cap = k then some ⟨b, o, none⟩ else some ⟨b, o + k * 3, none⟩
theorem rdL_from {w : World} {b o : Nat} {ls : List Lk} (h : RdL w (some ⟨b, o, none⟩) ls) (k cap : Nat) (hk : k ≤ ls.length) (hc : ls.length ≤ cap) : RdL w (fromA b o k cap) (ls.drop k) := by
  unfold fromA
  split
  · rename_i e
    have : ls.drop k = [] := List.drop_eq_nil_of_le (by omega)
    rw [this]; exact rdL_nil _ _
  · intro i u hu
    have e : lkCells ls = lkCells (ls.take k) ++ lkCells (ls.drop k) := by rw [← lkCells_append, List.take_append_drop]
    have hl : (lkCells (ls.take k)).length = k * 3 := by rw [lkCells_length, List.length_take]; omega
    obtain ⟨b', o', ha, hc⟩ := h (k * 3 + i) u (by rw [e, List.getElem?_append_right (by omega), hl, show k * 3 + i - k * 3 = i by omega]; exact hu)
    cases ha
    exact ⟨b, o + k * 3, rfl, by rw [← Nat.add_assoc] at hc; exact hc⟩
theorem rdL_head {w : World} {a : Option Addr} {ls : List Lk} (h : RdL w a ls) (k : Nat) : RdL w a (ls.take k) := by
  intro i u hu
  have e : lkCells ls = lkCells (ls.take k) ++ lkCells (ls.drop k) := by rw [← lkCells_append, List.take_append_drop]
  have hi := (List.getElem?_eq_some_iff.1 hu).1
  exact h i u (by rw [e, List.getElem?_append_left hi]; exact hu)
theorem run_from (b o n cap k : Nat) (hk : k ≤ n) (w : World) : (Instr.slice 22 (.slice (some ⟨b, o, none⟩) n cap) (some (.int .i64 k)) none none).run Try.prog w = .ok (.slice (fromA b o k cap) (n - k) (cap - k)) w := by
  have hu : Try.prog.underlying 22 = some (.slice (Try.prog.elem 22)) := by kernel_rfl
  have hs : ∀ w, (sizeOf (Try.prog.elem 22)).run Try.prog w = .ok 3 w := fun w => by kernel_rfl
  rw [run_slice_l w 22 (some ⟨b, o, none⟩) n cap hu .i64 k (by omega) (by omega), hs]
  unfold fromA sliced
  simp only [Result.andThen, Int.toNat_natCast]
  split <;> simp [Addr.add]

set_option maxRecDepth 100000 in
set_option maxHeartbeats 8000000 in
theorem join_walk (b o ca b' o' cb : Nat) (x y : List Lk) (e : Lk) (w : World) (hrx : RdL w (some ⟨b, o, none⟩) x) (hry : RdL w (some ⟨b', o', none⟩) y) (hca : x.length ≤ ca) (hcb : y.length ≤ cb) (hcam : ca ≤ maxLen) (hcbm : cb ≤ maxLen)
    (Rx : RightL x) (Ry : RightL y) (hv : 1 ≤ e.2.2 ∧ e.2.2 ≤ 1048576) (hx : e ∈ x) (hy : e ∈ y) (ux : ∀ k ∈ x, k.2.2 = e.2.2 → k = e) (uy : ∀ k ∈ y, k.2.2 = e.2.2 → k = e) (hR : RightL (joinL x y e.2.2)) :
    Calls Try.prog 9 #[.slice (some ⟨b, o, none⟩) x.length ca, .slice (some ⟨b', o', none⟩) y.length cb, .int .i64 e.2.2] w (RetJ w (joinL x y e.2.2)) := by
  obtain ⟨x1, x2, hxe⟩ := List.append_of_mem hx
  obtain ⟨y1, y2, hye⟩ := List.append_of_mem hy
  have dx := drop_at hxe (right_nodup Rx) ux
  have dy := drop_at hye (right_nodup Ry) uy
  have ix := idx_at hxe (right_nodup Rx) ux
  have iy := idx_at hye (right_nodup Ry) uy
  have tx := tail_no hxe (right_nodup Rx) ux
  have ty := tail_no hye (right_nodup Ry) uy
  have hJ : joinL x y e.2.2 = sortL (x1 ++ x2 ++ (y1 ++ y2)) := by unfold joinL; rw [dx, dy]
  have hlx : x.length = x1.length + x2.length + 1 := by rw [hxe]; simp; omega
  have hly : y.length = y1.length + y2.length + 1 := by rw [hye]; simp; omega
  have hrX := (rightL_iff x).2 Rx
  have hrY := (rightL_iff y).2 Ry
  have hxl := Rx.1; have hyl := Ry.1
  obtain ⟨e1, e2, v⟩ := e
  simp only at hv ux uy dx dy ix iy tx ty hJ hR ⊢
  have q1 : decide (v < 1) = false := by simp; omega
  have hdx : x.drop (x1.length + 1) = x2 := by rw [hxe]; simp
  have hdy : y.drop (y1.length + 1) = y2 := by rw [hye]; simp
  have htx : x.take x1.length = x1 := by rw [hxe]; simp
  have hty : y.take y1.length = y1 := by rw [hye]; simp
  have hex : x[x1.length]'(by omega) = (e1, e2, v) := by simp [hxe]
  have hey : y[y1.length]'(by omega) = (e1, e2, v) := by simp [hye]
  have px := hrx.at x1.length (by omega)
  have py := hry.at y1.length (by omega)
  rw [hex] at px
  rw [hey] at py
  obtain ⟨_, _, z1, p0, p1, p2⟩ := px
  obtain ⟨_, _, z2, s0, s1, s2⟩ := py
  cases z1; cases z2
  simp only at p0 p1 p2 s0 s1 s2
  have i1 : (x1.length : Int) < (x.length : Int) := by omega
  have j1 : (y1.length : Int) < (y.length : Int) := by omega
  have Hix := Lib.hid ix; have Hiy := Lib.hid iy; have Htx := Lib.hid tx; have Hty := Lib.hid ty; have HJ := Lib.hid hJ; have HR := Lib.hid hR; have Hlx := Lib.hid hlx; have Hly := Lib.hid hly
  have HrX := Lib.hid hrX; have HrY := Lib.hid hrY; have Hdx := Lib.hid hdx; have Hdy := Lib.hid hdy; have Htkx := Lib.hid htx; have Htky := Lib.hid hty
  have Hcam := Lib.hid hcam; have Hcbm := Lib.hid hcbm
  clear hex hey
  clear ux uy dx dy ix iy tx ty hJ hR hxe hye hrX hrY hdx hdy htx hty hcam hcbm hx hy Rx Ry hlx hly
  have hA := bl_alloc w (.cells #[.int .i64 v] 3)
  have hvb : (w.alloc (.cells #[.int .i64 v] 3)).cell? ⟨w.heap.size, 0, none⟩ = some (.int .i64 v) := cell_new1 rfl
  have hrxA := hrx.below hA
  have hryA := hry.below hA
  go_enter Try.func9, Try.ntmps9
  go_wp2_with fail
  refine (lright_walk _ ca x _ hrxA (by omega)).mono ?_
  rw [HrX.out]
  rintro e w1 ⟨rfl, hb1⟩
  have hB1 := bl_trans hA hb1
  have hry1 := hry.below hB1
  have hvb1 := keep_cell hb1 hvb
  clear hb1 hrxA hryA hvb hA
  go_wp2_with fail
  refine (lright_walk _ cb y _ hry1 (by omega)).mono ?_
  rw [HrY.out]
  rintro e w2 ⟨rfl, hb2⟩
  have hB2 := bl_trans hB1 hb2
  have hrx2 := hrx.below hB2
  have hvb2 := keep_cell hb2 hvb1
  clear hb2 hry1 hB1 hvb1
  go_wp2_with fail
  refine (index_walkP w.heap.size (fun k => k.2.2 == v) _ ca x _ hrx2 (by omega) (fun k _ w3 hb3 => numbered_walk k w.heap.size v _ w3 (keep_cell hb3 hvb2) rfl)).mono ?_
  rw [Hix.out]
  rintro e w3 ⟨rfl, hb3⟩
  have hB3 := bl_trans hB2 hb3
  have hry3 := hry.below hB3
  have hvb3 := keep_cell hb3 hvb2
  clear hb3 hrx2 hB2 hvb2
  go_wp2_with fail
  refine (index_walkP w.heap.size (fun k => k.2.2 == v) _ cb y _ hry3 (by omega) (fun k _ w3 hb3 => numbered_walk k w.heap.size v _ w3 (keep_cell hb3 hvb3) rfl)).mono ?_
  rw [Hiy.out]
  rintro e w4 ⟨rfl, hb4⟩
  have hB4 := bl_trans hB3 hb4
  have hrx4 := hrx.below hB4
  have hry4 := hry.below hB4
  have hvb4 := keep_cell hb4 hvb3
  have p0' := keep_cell hB4 p0
  have p1' := keep_cell hB4 p1
  have p2' := keep_cell hB4 p2
  have s0' := keep_cell hB4 s0
  have s1' := keep_cell hB4 s1
  have s2' := keep_cell hB4 s2
  clear hb4 hry3 hB3 hvb3 p0 p1 p2 s0 s1 s2
  have hgt : Try.prog.eqGuardType Try.prog.depth 25 = false := by kernel_rfl
  have hpe := fun w => lk_eq (e1, e2, v) (e1, e2, v) w
  rw [show decide (((e1, e2, v) : Lk) = (e1, e2, v)) = true by simp] at hpe
  unfold lkV at hpe
  simp only at hpe
  have g1 : decide ((x1.length : Int) < 0) = false := by simp
  have g2 : decide ((y1.length : Int) < 0) = false := by simp
  go_wp2_with fail
  go_quiet (fail)
  have hrx5 := hrx4.below (below_drewN (bl_refl w4) nq)
  have hry5 := hry4.below (below_drewN (bl_refl w4) nq)
  have hB5 := below_drewN hB4 nq
  have hvb5 : (w4.drewN nq).cell? ⟨w.heap.size, 0, none⟩ = some (.int .i64 v) := hvb4
  clear p0' p1' p2' s0' s1' s2' hrx4 hry4 hvb4 hB4 hgt hpe g1 g2
  have f1 : ∀ w, (Instr.slice 22 (.slice (some ⟨b, o, none⟩) x.length ca) (some (.int .i64 ((x1.length : Int) + 1))) none none).run Try.prog w = .ok (.slice (fromA b o (x1.length + 1) ca) (x.length - (x1.length + 1)) (ca - (x1.length + 1))) w := fun w => run_from b o x.length ca (x1.length + 1) (by omega) w
  have f2 : ∀ w, (Instr.slice 22 (.slice (some ⟨b', o', none⟩) y.length cb) (some (.int .i64 ((y1.length : Int) + 1))) none none).run Try.prog w = .ok (.slice (fromA b' o' (y1.length + 1) cb) (y.length - (y1.length + 1)) (cb - (y1.length + 1))) w := fun w => run_from b' o' y.length cb (y1.length + 1) (by omega) w
  have hn1 : x.length - (x1.length + 1) = x2.length := by have := Hlx.out; omega
  have hn2 : y.length - (y1.length + 1) = y2.length := by have := Hly.out; omega
  have hf1 := rdL_from hrx5 (x1.length + 1) ca (by omega) hca
  have hf2 := rdL_from hry5 (y1.length + 1) cb (by omega) hcb
  rw [Hdx.out] at hf1
  rw [Hdy.out] at hf2
  rw [hn1] at f1
  rw [hn2] at f2
  generalize fromA b o (x1.length + 1) ca = A1 at f1 hf1
  generalize fromA b' o' (y1.length + 1) cb = A2 at f2 hf2
  have hc1 : x2.length ≤ ca - (x1.length + 1) ∧ ca - (x1.length + 1) ≤ maxLen := by have := Hlx.out; have := Hcam.out; omega
  have hc2 : y2.length ≤ cb - (y1.length + 1) ∧ cb - (y1.length + 1) ≤ maxLen := by have := Hly.out; have := Hcbm.out; omega
  generalize ca - (x1.length + 1) = C1 at f1 hc1
  generalize cb - (y1.length + 1) = C2 at f2 hc2
  have Hc1 := Lib.hid hc1; have Hc2 := Lib.hid hc2
  clear hc1 hc2
  have i3 : IntKind.i64.wrap ((x1.length : Int) + 1) = (x1.length : Int) + 1 := IntWalk.i64_in _ (by omega)
  have i4 : IntKind.i64.wrap ((y1.length : Int) + 1) = (y1.length : Int) + 1 := IntWalk.i64_in _ (by omega)
  have hlx2 : x2.length ≤ 1000 := by omega
  have hly2 : y2.length ≤ 1000 := by omega
  clear hn1 hn2
  go_wp2_with fail
  refine (contains_walkP w.heap.size (fun k => k.2.2 == v) A1 C1 x2 _ hf1 (by omega) (fun k _ w3 hb3 => numbered_walk k w.heap.size v _ w3 (keep_cell hb3 hvb5) rfl)).mono ?_
  rw [Htx.out]
  rintro e w6 ⟨rfl, hb6⟩
  have hB6 := bl_trans hB5 hb6
  have hf2' := hf2.below hb6
  have hf1' := hf1.below hb6
  have hvb6 := keep_cell hb6 hvb5
  clear hb6 hf2 hf1 hvb5 hB5 hrx5 hry5
  go_wp2_with fail
  refine (contains_walkP w.heap.size (fun k => k.2.2 == v) A2 C2 y2 _ hf2' (by omega) (fun k _ w3 hb3 => numbered_walk k w.heap.size v _ w3 (keep_cell hb3 hvb6) rfl)).mono ?_
  rw [Hty.out]
  rintro e w7 ⟨rfl, hb7⟩
  have hB7 := bl_trans hB6 hb7
  have hf1 := hf1'.below hb7
  have hf2 := hf2'.below hb7
  have hrx7 := rdL_head (hrx.below hB7) x1.length
  have hry7 := rdL_head (hry.below hB7) y1.length
  rw [Htkx.out] at hrx7
  rw [Htky.out] at hry7
  clear hb7 hf1' hf2' hvb6 hB6
  have hca0 : 0 < ca := by omega
  have hcb0 : 0 < cb := by omega
  have hl1 : x1.length ≤ ca := by omega
  have hl2 : y1.length ≤ cb := by omega
  go_wp2_with fail
  refine regionT (fun _ => True) 14 (by kernel_rfl) ?_
  have hS : True := trivial
  refine takeT (i := 0) (v := ?_) rfl (by kernel_rfl) (fun _ _ _ h => h) (Or.inl ⟨rfl, ?_⟩) hS ?_
  rotate_left
  · (intro wS hSw; (try dsimp only at hSw); go_simp; try (with_reducible rfl))
  simp only [Act.put, List.setIfInBounds_toArray, List.set_cons_zero, List.set_cons_succ]
  refine takeT (i := 1) (v := ?_) rfl (by kernel_rfl) (fun _ _ _ h => h) (Or.inl ⟨rfl, ?_⟩) hS ?_
  rotate_left
  · (intro wS hSw; (try dsimp only at hSw); go_simp; try (with_reducible rfl))
  simp only [Act.put, List.setIfInBounds_toArray, List.set_cons_zero, List.set_cons_succ]
  refine takeT (i := 2) (v := ?_) rfl (by kernel_rfl) (fun _ _ _ h => h) (Or.inl ⟨rfl, ?_⟩) hS ?_
  rotate_left
  · (intro wS hSw; (try dsimp only at hSw); go_simp; try (with_reducible rfl))
  simp only [Act.put, List.setIfInBounds_toArray, List.set_cons_zero, List.set_cons_succ]
  refine takeT (i := 3) (v := ?_) rfl (by kernel_rfl) (fun _ _ _ h => h) (Or.inl ⟨rfl, ?_⟩) hS ?_
  rotate_left
  · (intro wS hSw; (try dsimp only at hSw); go_simp; try (with_reducible rfl))
  simp only [Act.put, List.setIfInBounds_toArray, List.set_cons_zero, List.set_cons_succ]
  refine takeT (i := 4) (v := ?_) rfl (by kernel_rfl) (fun _ _ _ h => h) (Or.inl ⟨rfl, ?_⟩) hS ?_
  rotate_left
  · (intro wS hSw; (try dsimp only at hSw); go_simp; try (with_reducible rfl))
  simp only [Act.put, List.setIfInBounds_toArray, List.set_cons_zero, List.set_cons_succ]
  refine takeT (i := 5) (v := ?_) rfl (by kernel_rfl) (fun _ _ _ h => h) (Or.inl ⟨rfl, ?_⟩) hS ?_
  rotate_left
  · (intro wS hSw; (try dsimp only at hSw); go_simp; try (with_reducible rfl))
  simp only [Act.put, List.setIfInBounds_toArray, List.set_cons_zero, List.set_cons_succ]
  refine takeT (i := 6) (v := ?_) rfl (by kernel_rfl) (fun _ _ _ h => h) (Or.inl ⟨rfl, ?_⟩) hS ?_
  rotate_left
  · (intro wS hSw; (try dsimp only at hSw); go_simp; try (with_reducible rfl))
  simp only [Act.put, List.setIfInBounds_toArray, List.set_cons_zero, List.set_cons_succ]
  refine takeT (i := 7) (v := ?_) rfl (by kernel_rfl) (fun _ _ _ h => h) (Or.inl ⟨rfl, ?_⟩) hS ?_
  rotate_left
  · (intro wS hSw; (try dsimp only at hSw); go_simp; try (with_reducible rfl))
  simp only [Act.put, List.setIfInBounds_toArray, List.set_cons_zero, List.set_cons_succ]
  refine takeT (i := 8) (v := ?_) rfl (by kernel_rfl) (fun _ _ _ h => h) (Or.inl ⟨rfl, ?_⟩) hS ?_
  rotate_left
  · (intro wS hSw; (try dsimp only at hSw); go_simp; try (with_reducible rfl))
  simp only [Act.put, List.setIfInBounds_toArray, List.set_cons_zero, List.set_cons_succ]
  refine takeT (i := 9) (v := ?_) rfl (by kernel_rfl) (fun _ _ _ h => h) (Or.inl ⟨rfl, ?_⟩) hS ?_
  rotate_left
  · (intro wS hSw; (try dsimp only at hSw); go_simp; try (with_reducible rfl))
  simp only [Act.put, List.setIfInBounds_toArray, List.set_cons_zero, List.set_cons_succ]
  refine takeT (i := 10) (v := ?_) rfl (by kernel_rfl) (fun _ _ _ h => h) (Or.inl ⟨rfl, ?_⟩) hS ?_
  rotate_left
  · (intro wS hSw; (try dsimp only at hSw); go_simp; try (with_reducible rfl))
  simp only [Act.put, List.setIfInBounds_toArray, List.set_cons_zero, List.set_cons_succ]
  refine takeT (i := 11) (v := ?_) rfl (by kernel_rfl) (fun _ _ _ h => h) (Or.inl ⟨rfl, ?_⟩) hS ?_
  rotate_left
  · (intro wS hSw; (try dsimp only at hSw); go_simp; try (with_reducible rfl))
  simp only [Act.put, List.setIfInBounds_toArray, List.set_cons_zero, List.set_cons_succ]
  refine takeT (i := 12) (v := ?_) rfl (by kernel_rfl) (fun _ _ _ h => h) (Or.inl ⟨rfl, ?_⟩) hS ?_
  rotate_left
  · (intro wS hSw; (try dsimp only at hSw); go_simp; try (with_reducible rfl))
  simp only [Act.put, List.setIfInBounds_toArray, List.set_cons_zero, List.set_cons_succ]
  refine takeT (i := 13) (v := ?_) rfl (by kernel_rfl) (fun _ _ _ h => h) (Or.inl ⟨rfl, ?_⟩) hS ?_
  rotate_left
  · (intro wS hSw; (try dsimp only at hSw); go_simp; try (with_reducible rfl))
  simp only [Act.put, List.setIfInBounds_toArray, List.set_cons_zero, List.set_cons_succ]
  refine oneT (i := 14) rfl (by kernel_rfl) (fun K hK => ?_)
  go_simp
  refine hK _ _ (fun h => absurd h (by omega)) ?_
  clear hK K
  have hA8 : Below w7.heap.size w7 ((w7.alloc (.cells #[.slice (some ⟨b, o, none⟩) x1.length ca, .slice A1 x2.length C1, .slice (some ⟨b', o', none⟩) y1.length cb, .slice A2 y2.length C2] 22)).drew) := (bl_alloc w7 _).drew
  have hrow : Row ((w7.alloc (.cells #[.slice (some ⟨b, o, none⟩) x1.length ca, .slice A1 x2.length C1, .slice (some ⟨b', o', none⟩) y1.length cb, .slice A2 y2.length C2] 22)).drew) w7.heap.size 22 1 4 [.slice (some ⟨b, o, none⟩) x1.length ca, .slice A1 x2.length C1, .slice (some ⟨b', o', none⟩) y1.length cb, .slice A2 y2.length C2] :=
    (row_lit w7 [.slice (some ⟨b, o, none⟩) x1.length ca, .slice A1 x2.length C1, .slice (some ⟨b', o', none⟩) y1.length cb, .slice A2 y2.length C2] _ (by unfold maxLen; simp)).drew
  have hG : RdLs ((w7.alloc (.cells #[.slice (some ⟨b, o, none⟩) x1.length ca, .slice A1 x2.length C1, .slice (some ⟨b', o', none⟩) y1.length cb, .slice A2 y2.length C2] 22)).drew) (some ⟨w7.heap.size, 0, none⟩) [x1, x2, y1, y2] := by
    intro i r hi
    have hc := fun (j : Nat) (hj : j < 4) => hrow.cell? j hj
    match i with
    | 0 => simp at hi; subst hi; exact ⟨_, _, _, _, rfl, by rw [Nat.zero_add, hc 0 (by omega)]; rfl, hrx7.below hA8, hl1, Hcam.out⟩
    | 1 => simp at hi; subst hi; exact ⟨_, _, _, _, rfl, by rw [Nat.zero_add, hc 1 (by omega)]; rfl, hf1.below hA8, Hc1.out.1, Hc1.out.2⟩
    | 2 => simp at hi; subst hi; exact ⟨_, _, _, _, rfl, by rw [Nat.zero_add, hc 2 (by omega)]; rfl, hry7.below hA8, hl2, Hcbm.out⟩
    | 3 => simp at hi; subst hi; exact ⟨_, _, _, _, rfl, by rw [Nat.zero_add, hc 3 (by omega)]; rfl, hf2.below hA8, Hc2.out.1, Hc2.out.2⟩
    | i + 4 => simp at hi
  have hB8 := bl_trans hB7 hA8
  have hsum : sumN [x1, x2, y1, y2] [x1, x2, y1, y2].length ≤ 100000 := by simp [sumN]; omega
  clear hrow hA8 hrx7 hry7 hf1 hf2 f1 f2 hS
  generalize ((w7.alloc (.cells #[.slice (some ⟨b, o, none⟩) x1.length ca, .slice A1 x2.length C1, .slice (some ⟨b', o', none⟩) y1.length cb, .slice A2 y2.length C2] 22)).drew) = w8 at hG hB8 ⊢
  have HG := Lib.hid hG; have Hsum := Lib.hid hsum
  clear hG hsum
  refine oneT (i := 15) rfl (by kernel_rfl) (fun K hK => ?_)
  go_simp
  go_at_call 24
  refine (concat_walk (some ⟨w7.heap.size, 0, none⟩) 4 [x1, x2, y1, y2] _ HG.out (by simp) Hsum.out).mono ?_
  rintro e w9 ⟨v9, rfl, ho9, hg9, hb9⟩
  have hfl : [x1, x2, y1, y2].flatten = x1 ++ x2 ++ (y1 ++ y2) := by simp
  rw [hfl] at ho9
  have hlen : (x1 ++ x2 ++ (y1 ++ y2)).length ≤ 1000 := by
    have h1 := HR.out.1
    rw [HJ.out, sortL_length] at h1
    exact h1
  obtain ⟨a9, c9, rfl, hr9, _, hc9m, hc9⟩ := OwnL.read ho9
  have hB9 := bl_trans hB8 hb9
  generalize hZ : x1 ++ x2 ++ (y1 ++ y2) = Z at hr9 hlen hc9 HJ ⊢
  clear hZ ho9 hg9 hb9 hfl HG Hsum hB8
  go_simp
  refine hK _ _ (fun h => absurd h (by omega)) ?_
  clear hK K
  refine restartT (fun _ => True) 17 (by kernel_rfl) ?_
  have hS : True := trivial
  refine takeT (i := 16) (v := ?_) rfl (by kernel_rfl) (fun _ _ _ h => h) (Or.inl ⟨rfl, ?_⟩) hS ?_
  rotate_left
  · (intro wS hSw; (try dsimp only at hSw); go_simp; try (with_reducible rfl))
  simp only [Act.put, List.setIfInBounds_toArray, List.set_cons_zero, List.set_cons_succ]
  refine doneT (by kernel_rfl) ?_ _
  have hlz : decide ((1000 : Int) < (Z.length : Int)) = false := by simp; omega
  go_wp2_with fail
  refine (sorted_walk a9 c9 Z _ hr9 (by omega)).mono ?_
  rintro e wa ⟨va, rfl, hoa, hga, hba⟩
  have hBa := bl_trans hB9 hba
  have hlo : ∀ g, va.ownBlock = some g → w.heap.size ≤ g := fun g hg => Nat.le_trans hB9.size (hga g hg)
  have hRZ : RightL (sortL Z) := by rw [← HJ.out]; exact HR.out
  obtain ⟨S, hS⟩ : ∃ S, S = sortL Z := ⟨_, rfl⟩
  rw [← hS] at hoa hRZ
  have Hoa := Lib.hid hoa; have HRS := Lib.hid hRZ; have Hlo := Lib.hid hlo; have HS := Lib.hid hS
  have hSl : S.length ≤ 1000 := hRZ.1
  obtain ⟨aS, cS, hvas, hrS, _, _, _⟩ := OwnL.read hoa
  clear hoa hga hba hRZ hlo hS hB9 hr9
  have hgt : Try.prog.eqGuardType Try.prog.depth 25 = false := by kernel_rfl
  rw [hvas] at Hoa Hlo ⊢
  clear hvas
  go_wp2_with fail
  go_loopg [86] S.length (fun r iv wj => ∃ i : Nat, i + r = S.length ∧ iv = .int .i64 i ∧ ∃ d, wj = wa.drewN d)
  case atStart => exact ⟨0, by omega, rfl, 0, rfl⟩
  case round =>
    obtain ⟨i, hi, rfl, d, rfl⟩ := hrel
    have Hi := Lib.hid hi
    by_cases hil : i < S.length
    · clear hi
      by_cases h0 : i = 0
      · subst h0
        go_wp2_with fail
        go_quiet (fail)
        go_wp2_with fail
        go_roundg (gk - 1)
        case measure => have := Hi.out; omega
        case rel => exact ⟨1, by have := Hi.out; omega, by go_num, d + nq, by first | rfl | rw [World.drewN_drewN]⟩
      · obtain ⟨m, rfl⟩ : ∃ m, i = m + 1 := ⟨i - 1, by omega⟩
        obtain ⟨bs, os, rfl, a0, a1, a2⟩ := hrS.at (m + 1) hil
        obtain ⟨bs', os', he, b0, b1, b2⟩ := hrS.at m (by omega)
        cases he
        have hlt : LtL (S[m]'(by omega)) S[m + 1] := List.pairwise_iff_getElem.1 HRS.out.2.2 m (m + 1) (by omega) hil (by omega)
        have hne : S[m]'(by omega) ≠ S[m + 1] := fun e => LtL.irrefl _ (e ▸ hlt)
        obtain ⟨⟨x1', x2', x3'⟩, hxe⟩ : ∃ x : Lk, S[m + 1] = x := ⟨_, rfl⟩
        obtain ⟨⟨y1', y2', y3'⟩, hye⟩ : ∃ x : Lk, S[m]'(by omega) = x := ⟨_, rfl⟩
        rw [hxe] at a0 a1 a2 hne
        rw [hye] at b0 b1 b2 hne
        simp only at a0 a1 a2 b0 b1 b2
        have hpe := fun w => lk_eq (y1', y2', y3') (x1', x2', x3') w
        rw [show decide (((y1', y2', y3') : Lk) = (x1', x2', x3')) = false by simpa using hne] at hpe
        unfold lkV at hpe
        simp only at hpe
        have i1' : IntKind.i64.wrap ((m : Int) + 1 - 1) = (m : Int) := by rw [show ((m : Int) + 1 - 1) = m by omega]; exact IntWalk.i64_in _ (by omega)
        have i2' : IntKind.i64.wrap (m : Int) = (m : Int) := IntWalk.i64_in _ (by omega)
        have i3' : (0 : Int) ≤ (m : Int) := by omega
        have i4' : (m : Int) < (S.length : Int) := by omega
        have i5' : m < S.length := by omega
        have i6' : (m : Int) + 1 < (S.length : Int) := by omega
        have i7' : (0 : Int) ≤ (m : Int) + 1 := by omega
        clear hlt hne hxe hye h0
        go_wp2_with fail
        go_quiet (fail)
        go_wp2_with fail
        go_roundg (gk - 1)
        case measure => have := Hi.out; omega
        case rel => exact ⟨m + 1 + 1, by have := Hi.out; omega, by go_num, d + nq, by first | rfl | rw [World.drewN_drewN]⟩
    · clear hi
      go_wp2_with fail
      go_ret2
      exact ⟨_, rfl, by rw [HJ.out, ← HS.out]; exact Own.ext Hoa.out (below_drewN (bl_refl wa) d), Hlo.out, below_drewN hBa _⟩
end Go.Proofs.Ytagcbnpahgfgmaa
