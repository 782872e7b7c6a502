/- graph.Beside. -/
import Derived.Test.YtddndhhhmlcgjaaRight
import Derived.Test.YtddndhhhmlcgjaaRepeat
import Derived.Test.YtddndhhhmlcgjaaReg
namespace Go.Proofs.Ytddndhhhmlcgjaa
open Go Go.RowKit

theorem ints_info : (Try.prog.info? 27).map (fun i => (i.zero, i.size, i.bytes)) = some (some (.slice none 0 0), 1, 24) := by kernel_rfl

/-- A natural number as Go's int. -/
def vN (k : Nat) : Value := .int .i64 (k : Int)
def rowsV (l : List (List Nat)) : List (List Value) := l.map (·.map vN)

theorem beside_step {n : Nat} {es : List (Int × Int)} {k a b : Nat} (hk : k < es.length) (ha : es[k].1 = a) (hb : es[k].2 = b) (hab : a < b) (_hbn : b < n) :
    ((rowsV (besideL n (es.take k))).set a ((adj (es.take k) a).map vN ++ [vN b])).set b ((adj (es.take k) b).map vN ++ [vN a]) = rowsV (besideL n (es.take (k + 1))) := by
  apply List.ext_getElem?
  intro v
  rw [List.getElem?_set, List.getElem?_set]
  simp only [rowsV, List.length_set, List.length_map, List.getElem?_map, besideL_length, besideL_get, adj_take es k hk v]
  have e1 : ∀ v, adj1 es[k] v = if a = v then [b] else if b = v then [a] else [] := by
    intro v; unfold adj1; rw [ha, hb]; simp [Int.ofNat_inj]
  rw [e1]
  by_cases h1 : b = v
  · subst h1
    rw [if_pos rfl]
    by_cases hv : b < n
    · simp [hv, show ¬ a = b by omega]
    · simp [hv]
  · rw [if_neg h1]
    by_cases h2 : a = v
    · subst h2
      by_cases hv : a < n
      · simp [hv]
      · simp [hv]
    · rw [if_neg h2, if_neg h1, if_neg h2]
      by_cases hv : v < n <;> simp [hv]

/-- What Beside answers of a right graph. -/
def RetBeside (w : World) (n : Nat) (rows : List (List Nat)) (e : Ending) (w' : World) : Prop :=
  ∃ G vals, e = .returned (.slice (some ⟨G, 0, none⟩) n n) ∧ w.heap.size ≤ G ∧ OwnRows w' G 27 3 n vals (rowsV rows) ∧ Below w.heap.size w w'

set_option maxHeartbeats 2000000 in
theorem beside_walk (n : Nat) (a : Option Addr) (cap : Nat) (es : List (Int × Int)) (w : World) (hr : RdP w a es) (hright : rightB n es = true) :
    Calls Try.prog 40 #[.agg #[.int .i64 n, .slice a es.length cap]] w (RetBeside w n (besideL n es)) := by
  obtain ⟨h0, h1, h2, hE, _⟩ := (rightB_iff _ _).1 hright
  have hmk := run_make_row' (P := Try.prog) 36 27 (.slice none 0 0) 24 Try.underlying36 ints_info rfl .i64 .i64 n (by omega) (by omega)
  have hn0 : (0 : Int) ≤ (n : Int) := by omega
  have Hright := Lib.hid hright; have HE := Lib.hid hE; clear hright hE
  go_enter Try.func40, Try.ntmps40
  go_wp2_with (go_at_call 37; refine (right_walk n a cap es _ (hr.below (bl_alloc _ _)) (by omega)).mono ?_; rw [Hright.out]; rintro e w1 ⟨rfl, hb1⟩; obtain ⟨c0, c1⟩ : w1.cell? ⟨w.heap.size, 0, none⟩ = some (.int .i64 n) ∧ w1.cell? ⟨w.heap.size, 1, none⟩ = some (.slice a es.length cap) := ⟨keep_cell hb1 (by simp), keep_cell hb1 (by simp)⟩; have hz1 : w.heap.size < w1.heap.size := by (have := hb1.size; simp at this; omega))
  have hB1 : Below w.heap.size w w1 := bl_trans (bl_alloc _ _) hb1
  go_loopg [15] es.length (fun r i wr => ∃ (k : Nat) (vals : List Value), k ≤ es.length ∧ r = es.length - k ∧ i = .int .i64 k ∧ Below w1.heap.size w1 wr ∧
    OwnRows wr w1.heap.size 27 3 n vals (rowsV (besideL n (es.take k))))
  case atStart =>
    refine ⟨0, List.replicate n (.slice none 0 0), Nat.zero_le _, rfl, rfl, bl_alloc _ _, ?_⟩
    have := ownRows_made w1 n 27 3 (by unfold maxLen; omega)
    have e : rowsV (besideL n (es.take 0)) = List.replicate n [] := by
      apply List.ext_getElem?
      intro v
      simp only [rowsV, List.getElem?_map, besideL_get, List.getElem?_replicate, adj]
      split <;> simp
    rw [e]
    exact this
  case round =>
    obtain ⟨k, vals, hk, hgk, rfl, hb, hrows⟩ := hrel
    have hB : Below w.heap.size w wr := bl_trans hB1 hb
    have hzr : w1.heap.size < wr.heap.size := hrows.outer.lt
    have d1 : wr.cell? ⟨w.heap.size, 1, none⟩ = some (.slice a es.length cap) := keep_cell hb c1
    by_cases hlt : k < es.length
    · obtain ⟨b, o, rfl, p0, p1⟩ := (hr.below hB).at k hlt
      obtain ⟨e0, e1, e2⟩ := HE.out k hlt
      obtain ⟨x, hx⟩ : ∃ x : Nat, es[k].1 = (x : Int) := ⟨es[k].1.toNat, by omega⟩
      obtain ⟨y, hy⟩ : ∃ y : Nat, es[k].2 = (y : Int) := ⟨es[k].2.toNat, by omega⟩
      rw [hx] at p0 e0 e1
      rw [hy] at p1 e1 e2
      have hstep := beside_step (n := n) hlt hx hy (by omega) (by omega)
      have hxy : x < y := by omega
      have hyn : y < n := by omega
      have Hstep := Lib.hid hstep; have Hx := Lib.hid hx; have Hy := Lib.hid hy; have Hgk := Lib.hid hgk
      clear hstep hx hy hgk
      have hvl : vals.length = n := by rw [hrows.len]; simp [rowsV, besideL_length]
      obtain ⟨u, hu⟩ : ∃ u, vals[x]? = some u := ⟨vals[x]'(by omega), by simp⟩
      obtain ⟨u2, hu2⟩ : ∃ u, vals[y]? = some u := ⟨vals[y]'(by omega), by simp⟩
      have hux : wr.cell? ⟨w1.heap.size, x, none⟩ = some u := by rw [hrows.outer.cell? x (by omega), hu]
      have huy : wr.cell? ⟨w1.heap.size, y, none⟩ = some u2 := by rw [hrows.outer.cell? y (by omega), hu2]
      have hfr : ∀ i, wr.frozen? ⟨w1.heap.size, i, none⟩ = false := fun i => hrows.outer.frozen i
      have Hvl := Lib.hid hvl; have Hu := Lib.hid hu; have Hu2 := Lib.hid hu2; clear hvl hu hu2
      have i1 : (x : Int) < (n : Int) := by omega
      have i2 : (y : Int) < (n : Int) := by omega
      have i3 : (0 : Int) ≤ (x : Int) := by omega
      have i4 : (0 : Int) ≤ (y : Int) := by omega
      go_wp2_with fail
      generalize hwb : wr.alloc (.cells #[.int .i64 x, .int .i64 y] 43) = wb
      have hbb : Below wr.heap.size wr wb := by rw [← hwb]; exact bl_alloc _ _
      have q0 : wb.cell? ⟨wr.heap.size, 0, none⟩ = some (.int .i64 x) := by rw [← hwb]; simp
      have q1 : wb.cell? ⟨wr.heap.size, 1, none⟩ = some (.int .i64 y) := by rw [← hwb]; simp
      have q2 : wb.cell? ⟨w1.heap.size, x, none⟩ = some u := keep_cell hbb hux
      have q3 : ∀ i, wb.frozen? ⟨w1.heap.size, i, none⟩ = false := fun i => (hbb.frozen (p := ⟨w1.heap.size, i, none⟩) hzr).trans (hfr i)
      have hzb : w1.heap.size < wb.heap.size := by rw [← hwb]; simp; omega
      have Hwb := Lib.hid hwb; clear hwb
      have hown := (hrows.own x u ((adj (es.take k) x).map vN) Hu.out (by simp [rowsV, besideL_get, show x < n by omega])).ext hbb
      have hl1 : ((adj (es.take k) x).map vN).length ≤ es.length := by simpa using adj_take_len es k x
      have hrows' := hrows.below hbb
      refine regionT (fun w' => w'.cell? ⟨wr.heap.size, 0, none⟩ = some (.int .i64 x) ∧ w'.cell? ⟨wr.heap.size, 1, none⟩ = some (.int .i64 y) ∧ w'.cell? ⟨w1.heap.size, x, none⟩ = some u) 12 (by kernel_rfl) ?_
      have hS : wb.drew.cell? ⟨wr.heap.size, 0, none⟩ = some (.int .i64 x) ∧ wb.drew.cell? ⟨wr.heap.size, 1, none⟩ = some (.int .i64 y) ∧ wb.drew.cell? ⟨w1.heap.size, x, none⟩ = some u := ⟨q0, q1, q2⟩
      refine takeT (i := 0) (v := ?_) rfl (by kernel_rfl) (fun _ _ _ h => h) (Or.inl ⟨rfl, ?_⟩) hS ?_
      rotate_left
      · (intro wS hSw; (try dsimp only at hSw); go_simp; try (with_reducible rfl))
      simp only [Act.put, List.setIfInBounds_toArray, List.set_cons_zero, List.set_cons_succ]
      refine takeT (i := 1) (v := ?_) rfl (by kernel_rfl) (fun _ _ _ h => h) (Or.inl ⟨rfl, ?_⟩) hS ?_
      rotate_left
      · (intro wS hSw; (try dsimp only at hSw); go_simp; try (with_reducible rfl))
      simp only [Act.put, List.setIfInBounds_toArray, List.set_cons_zero, List.set_cons_succ]
      refine takeT (i := 2) (v := ?_) rfl (by kernel_rfl) (fun _ _ _ h => h) (Or.inl ⟨rfl, ?_⟩) hS ?_
      rotate_left
      · (intro wS hSw; (try dsimp only at hSw); go_simp; try (with_reducible rfl))
      simp only [Act.put, List.setIfInBounds_toArray, List.set_cons_zero, List.set_cons_succ]
      refine takeT (i := 3) (v := ?_) rfl (by kernel_rfl) (fun _ _ _ h => h) (Or.inl ⟨rfl, ?_⟩) hS ?_
      rotate_left
      · (intro wS hSw; (try dsimp only at hSw); go_simp; try (with_reducible rfl))
      simp only [Act.put, List.setIfInBounds_toArray, List.set_cons_zero, List.set_cons_succ]
      refine takeT (i := 4) (v := ?_) rfl (by kernel_rfl) (fun _ _ _ h => h) (Or.inl ⟨rfl, ?_⟩) hS ?_
      rotate_left
      · (intro wS hSw; (try dsimp only at hSw); go_simp; try (with_reducible rfl))
      simp only [Act.put, List.setIfInBounds_toArray, List.set_cons_zero, List.set_cons_succ]
      refine takeT (i := 5) (v := ?_) rfl (by kernel_rfl) (fun _ _ _ h => h) (Or.inl ⟨rfl, ?_⟩) hS ?_
      rotate_left
      · (intro wS hSw; (try dsimp only at hSw); go_simp; try (with_reducible rfl))
      simp only [Act.put, List.setIfInBounds_toArray, List.set_cons_zero, List.set_cons_succ]
      refine takeT (i := 6) (v := ?_) rfl (by kernel_rfl) (fun _ _ _ h => h) (Or.inl ⟨rfl, ?_⟩) hS ?_
      rotate_left
      · (intro wS hSw; (try dsimp only at hSw); go_simp; try (with_reducible rfl))
      simp only [Act.put, List.setIfInBounds_toArray, List.set_cons_zero, List.set_cons_succ]
      refine takeT (i := 7) (v := ?_) rfl (by kernel_rfl) (fun _ _ _ h => h) (Or.inl ⟨rfl, ?_⟩) hS ?_
      rotate_left
      · (intro wS hSw; (try dsimp only at hSw); go_simp; try (with_reducible rfl))
      simp only [Act.put, List.setIfInBounds_toArray, List.set_cons_zero, List.set_cons_succ]
      refine takeT (i := 8) (v := ?_) rfl (by kernel_rfl) (fun _ _ _ h => h) (Or.inl ⟨rfl, ?_⟩) hS ?_
      rotate_left
      · (intro wS hSw; (try dsimp only at hSw); go_simp; try (with_reducible rfl))
      simp only [Act.put, List.setIfInBounds_toArray, List.set_cons_zero, List.set_cons_succ]
      refine takeT (i := 9) (v := ?_) rfl (by kernel_rfl) (fun _ _ _ h => h) (Or.inl ⟨rfl, ?_⟩) hS ?_
      rotate_left
      · (intro wS hSw; (try dsimp only at hSw); go_simp; try (with_reducible rfl))
      simp only [Act.put, List.setIfInBounds_toArray, List.set_cons_zero, List.set_cons_succ]
      refine oneT (i := 10) rfl (by kernel_rfl) (fun K hK => ?_)
      go_simp
      have bW : Below wb.heap.size wb (wb.alloc (.cells #[.int .i64 y] 3)).drew := (bl_alloc _ _).drew
      refine hK _ _ (fun _ => ⟨keep_cell bW q0, keep_cell bW q1, keep_cell bW q2⟩) ?_
      clear hK K
      refine oneT (i := 11) rfl (by kernel_rfl) (fun K hK => ?_)
      refine step_append_row rfl (.tmp 26) (.tmp 29) 27 rfl 3 (.int .i64 0) 1 8 Try.underlying27 int_info rfl u _ _ (by simp [Act.eval]) (hown.drew.alloc _) ⟨wb.heap.size, 0, none⟩ 1 1 [.int .i64 y] (by simp [Act.eval]) rfl (one_new (by simp)) (one_ok _ _) (by omega) (by unfold maxLen; omega) (by omega) ?_
      intro g' cap' w2 hrow2 hcap2 hgr2 hor2
      have r0 := grown_cell hgr2 (keep_cell bW q0) (hrows.ne_new Hu.out (Nat.le_refl _))
      have r1 := grown_cell hgr2 (keep_cell bW q1) (hrows.ne_new Hu.out (Nat.le_refl _))
      have r2 := grown_cell hgr2 (keep_cell bW q2) (hrows.ne_outer Hu.out)
      have r3 := grown_frozen hgr2 (by simp; omega) ((bW.frozen (p := ⟨w1.heap.size, x, none⟩) hzb).trans (q3 x)) (hrows.ne_outer Hu.out)
      refine hK _ _ (fun _ => ⟨r0, r1, r2⟩) ?_
      clear hK K
      refine oneT (i := 12) rfl (by kernel_rfl) (fun K hK => ?_)
      go_simp
      refine hK _ _ (fun h => absurd h (by omega)) ?_
      clear hK K
      refine oneT (i := 13) rfl (by kernel_rfl) (fun K hK => ?_)
      go_simp
      refine hK _ _ (fun h => absurd h (by omega)) ?_
      clear hK K
      refine doneT (by kernel_rfl) ?_ _
      -- what stands now
      have hr7 : (rowsV (besideL n (es.take k)))[x]? = some ((adj (es.take k) x).map vN) := by simp [rowsV, besideL_get, show x < n by omega]
      have hst := (hrows.below (hbb.trans (bW.mono hbb.size))).stored Hu.out hr7 hrow2 hgr2 (hor2.imp id (fun h => h))
      have el : ((adj (es.take k) x).map vN ++ [vN y]).length = (adj (es.take k) x).length + 1 := by simp
      rw [show ((adj (es.take k) x).map vN ++ [Value.int .i64 (y : Int)]) = (adj (es.take k) x).map vN ++ [vN y] from rfl, el] at hst
      have t0 : (w2.setCell ⟨w1.heap.size, x, none⟩ (.slice (some ⟨g', 0, none⟩) ((adj (es.take k) x).length + 1) cap')).cell? ⟨wr.heap.size, 0, none⟩ = some (.int .i64 x) := by
        rw [World.cell?_setCell_far _ _ _ _ (by simp; omega)]; exact r0
      have t1 : (w2.setCell ⟨w1.heap.size, x, none⟩ (.slice (some ⟨g', 0, none⟩) ((adj (es.take k) x).length + 1) cap')).cell? ⟨wr.heap.size, 1, none⟩ = some (.int .i64 y) := by
        rw [World.cell?_setCell_far _ _ _ _ (by simp; omega)]; exact r1
      have hbe : Below w1.heap.size w1 (w2.setCell ⟨w1.heap.size, x, none⟩ (.slice (some ⟨g', 0, none⟩) ((adj (es.take k) x).length + 1) cap')) :=
        ((bl_trans hb (hbb.trans (bW.mono hbb.size))).grown hgr2 (by simp; omega) (fun g hg => Nat.le_of_lt (hrows.young x u g Hu.out hg))).setCell (Nat.le_refl _) _
      have hzc : wr.heap.size < (w2.setCell ⟨w1.heap.size, x, none⟩ (.slice (some ⟨g', 0, none⟩) ((adj (es.take k) x).length + 1) cap')).heap.size := World.block_lt_of_cell? _ _ t0
      generalize w2.setCell ⟨w1.heap.size, x, none⟩ (.slice (some ⟨g', 0, none⟩) ((adj (es.take k) x).length + 1) cap') = wc at hst t0 t1 hbe hzc ⊢
      clear r0 r1 r2 r3 hgr2 hor2 hrow2 hcap2 bW q0 q1 q2 q3 hzb hown hux huy hfr d1 hS p0 p1
      generalize hv2 : vals.set x (.slice (some ⟨g', 0, none⟩) ((adj (es.take k) x).length + 1) cap') = vals2 at hst
      have hu2 : vals2[y]? = some u2 := by rw [← hv2, List.getElem?_set, if_neg (by omega)]; exact Hu2.out
      have Hu2' := Lib.hid hu2; clear hv2 hu2
      have q0 := t0; have q1 := t1
      have hvl2 : vals2.length = n := by rw [hst.len]; simp [rowsV, besideL_length]
      have q2 : wc.cell? ⟨w1.heap.size, y, none⟩ = some u2 := by rw [hst.outer.cell? y (by omega), Hu2'.out]
      have q3 : wc.frozen? ⟨w1.heap.size, y, none⟩ = false := hst.outer.frozen y
      have hzb : w1.heap.size < wc.heap.size := hst.outer.lt
      have Hvl2 := Lib.hid hvl2; clear hvl2 t0 t1
      have hr8 : ((rowsV (besideL n (es.take k))).set x ((adj (es.take k) x).map vN ++ [vN y]))[y]? = some ((adj (es.take k) y).map vN) := by
        rw [List.getElem?_set, if_neg (by omega)]; simp [rowsV, besideL_get, hyn]
      have hown := hst.own y u2 _ Hu2'.out hr8
      have hl2 : ((adj (es.take k) y).map vN).length ≤ es.length := by simpa using adj_take_len es k y
      go_wp2_with fail
      refine regionT (fun w' => w'.cell? ⟨wr.heap.size, 0, none⟩ = some (.int .i64 x) ∧ w'.cell? ⟨wr.heap.size, 1, none⟩ = some (.int .i64 y) ∧ w'.cell? ⟨w1.heap.size, y, none⟩ = some u2) 12 (by kernel_rfl) ?_
      have hS : wc.drew.cell? ⟨wr.heap.size, 0, none⟩ = some (.int .i64 x) ∧ wc.drew.cell? ⟨wr.heap.size, 1, none⟩ = some (.int .i64 y) ∧ wc.drew.cell? ⟨w1.heap.size, y, none⟩ = some u2 := ⟨q0, q1, q2⟩
      refine takeT (i := 0) (v := ?_) rfl (by kernel_rfl) (fun _ _ _ h => h) (Or.inl ⟨rfl, ?_⟩) hS ?_
      rotate_left
      · (intro wS hSw; (try dsimp only at hSw); go_simp; try (with_reducible rfl))
      simp only [Act.put, List.setIfInBounds_toArray, List.set_cons_zero, List.set_cons_succ]
      refine takeT (i := 1) (v := ?_) rfl (by kernel_rfl) (fun _ _ _ h => h) (Or.inl ⟨rfl, ?_⟩) hS ?_
      rotate_left
      · (intro wS hSw; (try dsimp only at hSw); go_simp; try (with_reducible rfl))
      simp only [Act.put, List.setIfInBounds_toArray, List.set_cons_zero, List.set_cons_succ]
      refine takeT (i := 2) (v := ?_) rfl (by kernel_rfl) (fun _ _ _ h => h) (Or.inl ⟨rfl, ?_⟩) hS ?_
      rotate_left
      · (intro wS hSw; (try dsimp only at hSw); go_simp; try (with_reducible rfl))
      simp only [Act.put, List.setIfInBounds_toArray, List.set_cons_zero, List.set_cons_succ]
      refine takeT (i := 3) (v := ?_) rfl (by kernel_rfl) (fun _ _ _ h => h) (Or.inl ⟨rfl, ?_⟩) hS ?_
      rotate_left
      · (intro wS hSw; (try dsimp only at hSw); go_simp; try (with_reducible rfl))
      simp only [Act.put, List.setIfInBounds_toArray, List.set_cons_zero, List.set_cons_succ]
      refine takeT (i := 4) (v := ?_) rfl (by kernel_rfl) (fun _ _ _ h => h) (Or.inl ⟨rfl, ?_⟩) hS ?_
      rotate_left
      · (intro wS hSw; (try dsimp only at hSw); go_simp; try (with_reducible rfl))
      simp only [Act.put, List.setIfInBounds_toArray, List.set_cons_zero, List.set_cons_succ]
      refine takeT (i := 5) (v := ?_) rfl (by kernel_rfl) (fun _ _ _ h => h) (Or.inl ⟨rfl, ?_⟩) hS ?_
      rotate_left
      · (intro wS hSw; (try dsimp only at hSw); go_simp; try (with_reducible rfl))
      simp only [Act.put, List.setIfInBounds_toArray, List.set_cons_zero, List.set_cons_succ]
      refine takeT (i := 6) (v := ?_) rfl (by kernel_rfl) (fun _ _ _ h => h) (Or.inl ⟨rfl, ?_⟩) hS ?_
      rotate_left
      · (intro wS hSw; (try dsimp only at hSw); go_simp; try (with_reducible rfl))
      simp only [Act.put, List.setIfInBounds_toArray, List.set_cons_zero, List.set_cons_succ]
      refine takeT (i := 7) (v := ?_) rfl (by kernel_rfl) (fun _ _ _ h => h) (Or.inl ⟨rfl, ?_⟩) hS ?_
      rotate_left
      · (intro wS hSw; (try dsimp only at hSw); go_simp; try (with_reducible rfl))
      simp only [Act.put, List.setIfInBounds_toArray, List.set_cons_zero, List.set_cons_succ]
      refine takeT (i := 8) (v := ?_) rfl (by kernel_rfl) (fun _ _ _ h => h) (Or.inl ⟨rfl, ?_⟩) hS ?_
      rotate_left
      · (intro wS hSw; (try dsimp only at hSw); go_simp; try (with_reducible rfl))
      simp only [Act.put, List.setIfInBounds_toArray, List.set_cons_zero, List.set_cons_succ]
      refine takeT (i := 9) (v := ?_) rfl (by kernel_rfl) (fun _ _ _ h => h) (Or.inl ⟨rfl, ?_⟩) hS ?_
      rotate_left
      · (intro wS hSw; (try dsimp only at hSw); go_simp; try (with_reducible rfl))
      simp only [Act.put, List.setIfInBounds_toArray, List.set_cons_zero, List.set_cons_succ]
      refine oneT (i := 10) rfl (by kernel_rfl) (fun K hK => ?_)
      go_simp
      have bW : Below wc.heap.size wc (wc.alloc (.cells #[.int .i64 x] 3)).drew := (bl_alloc _ _).drew
      refine hK _ _ (fun _ => ⟨keep_cell bW q0, keep_cell bW q1, keep_cell bW q2⟩) ?_
      clear hK K
      refine oneT (i := 11) rfl (by kernel_rfl) (fun K hK => ?_)
      refine step_append_row rfl (.tmp 39) (.tmp 42) 27 rfl 3 (.int .i64 0) 1 8 Try.underlying27 int_info rfl u2 _ _ (by simp [Act.eval]) (hown.drew.alloc _) ⟨wc.heap.size, 0, none⟩ 1 1 [.int .i64 x] (by simp [Act.eval]) rfl (one_new (by simp)) (one_ok _ _) (by omega) (by unfold maxLen; omega) (by omega) ?_
      intro g' cap' w2 hrow2 hcap2 hgr2 hor2
      have hnb : u2.ownBlock ≠ some wr.heap.size := fun e => by
        have := hrows.lt Hu2.out e; omega
      have r0 := grown_cell hgr2 (keep_cell bW q0) hnb
      have r1 := grown_cell hgr2 (keep_cell bW q1) hnb
      have r2 := grown_cell hgr2 (keep_cell bW q2) (hst.ne_outer Hu2'.out)
      have r3 := grown_frozen hgr2 (by simp; omega) ((bW.frozen (p := ⟨w1.heap.size, y, none⟩) hzb).trans q3) (hst.ne_outer Hu2'.out)
      refine hK _ _ (fun _ => ⟨r0, r1, r2⟩) ?_
      clear hK K
      refine oneT (i := 12) rfl (by kernel_rfl) (fun K hK => ?_)
      go_simp
      refine hK _ _ (fun h => absurd h (by omega)) ?_
      clear hK K
      refine oneT (i := 13) rfl (by kernel_rfl) (fun K hK => ?_)
      go_simp
      refine hK _ _ (fun h => absurd h (by omega)) ?_
      clear hK K
      refine doneT (by kernel_rfl) ?_ _
      have hst2 := (hst.below bW).stored Hu2'.out hr8 hrow2 hgr2 (hor2.imp id (fun h => h))
      have el2 : ((adj (es.take k) y).map vN ++ [vN x]).length = (adj (es.take k) y).length + 1 := by simp
      rw [show ((adj (es.take k) y).map vN ++ [Value.int .i64 (x : Int)]) = (adj (es.take k) y).map vN ++ [vN x] from rfl, el2, Hstep.out] at hst2
      have hbe2 := ((bl_trans hbe bW).grown hgr2 (by simp; omega) (fun g hg => Nat.le_of_lt (hst.young y u2 g Hu2'.out hg))).setCell (p := ⟨w1.heap.size, y, none⟩) (Nat.le_refl _) (.slice (some ⟨g', 0, none⟩) ((adj (es.take k) y).length + 1) cap')
      clear hst hown hrows hrow2 hgr2 hor2
      go_wp2_with fail
      go_roundg (es.length - (k + 1))
      case measure => have := Hgk.out; omega
      case rel => exact ⟨k + 1, _, by omega, rfl, by go_num, hbe2, hst2⟩
    · have hkl : k = es.length := by omega
      subst hkl
      have he : es.take es.length = es := List.take_of_length_le (Nat.le_refl _)
      rw [he] at hrows
      clear he hgk
      go_wp2_with fail
      go_ret
      exact ⟨w1.heap.size, vals, rfl, hB1.size, hrows, hB⟩
end Go.Proofs.Ytddndhhhmlcgjaa
