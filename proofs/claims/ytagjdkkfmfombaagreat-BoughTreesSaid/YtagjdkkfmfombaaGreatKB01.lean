/- Facts that the claim rests on, part 2. -/
import Derived.Test.YtagjdkkfmfombaaGreatKB00
namespace Go.Proofs.YtagjdkkfmfombaaGreat
open Go Go.RowKit
theorem ints_info : (Tryz.prog.info? 25).map (fun i => (i.zero, i.size, i.bytes)) = some (some (.slice none 0 0), 1, 24) := by kernel_rfl
def rowsV (l : List (List Nat)) : List (List Value) := l.map (·.map vN)
theorem beside_step {n : Nat} {es : List (Int × Int)} {k a b : Nat} (hk : k < es.length) (ha : es[k].1 = a) (hb : es[k].2 = b) (hab : a < b) (_hbn : b < n) :
  ((rowsV (besideL n (es.take k))).set a ((adj (es.take k) a).map vN ++ [vN b])).set b ((adj (es.take k) b).map vN ++ [vN a]) = rowsV (besideL n (es.take (k + 1))) := by
 apply List.ext_getElem?
 intro v
 rw [List.getElem?_set, List.getElem?_set]
 simp only [rowsV, List.length_set, List.length_map, List.getElem?_map, besideL_length, besideL_get, adj_take es k hk v]
 have e1 : ∀ v, adj1 es[k] v = if a = v then [b] else if b = v then [a] else [] := by
  intro v; unfold adj1; rw [ha, hb]; simp [Int.ofNat_inj]
 rw [e1]
 by_cases h1 : b = v
 ·
  subst h1
  rw [if_pos rfl]
  by_cases hv : b < n
  · simp [hv, show ¬ a = b by omega]
  · simp [hv]
 ·
  rw [if_neg h1]
  by_cases h2 : a = v
  ·
   subst h2; by_cases hv : a < n
   · simp [hv]
   · simp [hv]
  ·
   rw [if_neg h2, if_neg h1, if_neg h2]; by_cases hv : v < n <;> simp [hv]
def RetBeside (w : World) (n : Nat) (rows : List (List Nat)) (e : Ending) (w' : World) : Prop :=
 ∃ G vals, e = .returned (.slice (some ⟨G, 0, none⟩) n n) ∧ w.heap.size ≤ G ∧ OwnRows w' G 25 3 n vals (rowsV rows) ∧ Below w.heap.size w w'
set_option maxHeartbeats 2000000 in
theorem beside_walk (n : Nat) (a : Option Addr) (cap : Nat) (es : List (Int × Int)) (w : World) (hr : RdP w a es) (hright : rightB n es = true) :
  Calls Tryz.prog 21 #[.agg #[.int .i64 n, .slice a es.length cap]] w (RetBeside w n (besideL n es)) := by
 obtain ⟨h0, h1, h2, hE, _⟩ := (rightB_iff _ _).1 hright
 have hmk := run_make_row' (P := Tryz.prog) 59 25 (.slice none 0 0) 24 Tryz.underlying59 ints_info rfl .i64 .i64 n (by omega) (by omega)
 have hn0 : (0 : Int) ≤ (n : Int) := by omega
 have Hright := Lib.hid hright; have HE := Lib.hid hE; clear hright hE
 go_enter Tryz.func21, Tryz.ntmps21
 go_wp2_with (go_at_call 30; refine (right_walk n a cap es _ (hr.below (bl_alloc _ _)) (by omega)).mono ?_; rw [Hright.out]; rintro e w1 ⟨rfl, hb1⟩; obtain ⟨c0, c1⟩ : w1.cell? ⟨w.heap.size, 0, none⟩ = some (.int .i64 n) ∧ w1.cell? ⟨w.heap.size, 1, none⟩ = some (.slice a es.length cap) := ⟨keep_cell hb1 (by simp), keep_cell hb1 (by simp)⟩; have hz1 : w.heap.size < w1.heap.size := by (have := hb1.size; simp at this; omega))
 have hB1 : Below w.heap.size w w1 := bl_trans (bl_alloc _ _) hb1
 go_loopg [15] es.length (fun r i wr => ∃ (k : Nat) (vals : List Value), k ≤ es.length ∧ r = es.length - k ∧ i = .int .i64 k ∧ Below w1.heap.size w1 wr ∧
  OwnRows wr w1.heap.size 25 3 n vals (rowsV (besideL n (es.take k))))
 case atStart =>
  refine ⟨0, List.replicate n (.slice none 0 0), Nat.zero_le _, rfl, rfl, bl_alloc _ _, ?_⟩
  have := ownRows_made w1 n 25 3 (by unfold maxLen; omega)
  have e : rowsV (besideL n (es.take 0)) = List.replicate n [] := by
   apply List.ext_getElem?; intro v; simp only [rowsV, List.getElem?_map, besideL_get, List.getElem?_replicate, adj]; split <;> simp
  rw [e]
  exact this
 case round =>
  obtain ⟨k, vals, hk, hgk, rfl, hb, hrows⟩ := hrel
  have hB : Below w.heap.size w wr := bl_trans hB1 hb
  have hzr : w1.heap.size < wr.heap.size := hrows.outer.lt
  have d1 : wr.cell? ⟨w.heap.size, 1, none⟩ = some (.slice a es.length cap) := keep_cell hb c1
  by_cases hlt : k < es.length
  ·
   obtain ⟨b, o, rfl, p0, p1⟩ := (hr.below hB).at k hlt; obtain ⟨e0, e1, e2⟩ := HE.out k hlt; obtain ⟨x, hx⟩ : ∃ x : Nat, es[k].1 = (x : Int) := ⟨es[k].1.toNat, by omega⟩
   obtain ⟨y, hy⟩ : ∃ y : Nat, es[k].2 = (y : Int) := ⟨es[k].2.toNat, by omega⟩
   rw [hx] at p0 e0 e1; rw [hy] at p1 e1 e2; have hstep := beside_step (n := n) hlt hx hy (by omega) (by omega); have hxy : x < y := by omega
   have hyn : y < n := by omega
   have Hstep := Lib.hid hstep; have Hx := Lib.hid hx; have Hy := Lib.hid hy; have Hgk := Lib.hid hgk; clear hstep hx hy hgk; have hvl : vals.length = n := by rw [hrows.len]; simp [rowsV, besideL_length]
   obtain ⟨u, hu⟩ : ∃ u, vals[x]? = some u := ⟨vals[x]'(by omega), by simp⟩
   obtain ⟨u2, hu2⟩ : ∃ u, vals[y]? = some u := ⟨vals[y]'(by omega), by simp⟩
   have hux : wr.cell? ⟨w1.heap.size, x, none⟩ = some u := by rw [hrows.outer.cell? x (by omega), hu]
   have huy : wr.cell? ⟨w1.heap.size, y, none⟩ = some u2 := by rw [hrows.outer.cell? y (by omega), hu2]
   have hfr : ∀ i, wr.frozen? ⟨w1.heap.size, i, none⟩ = false := fun i => hrows.outer.frozen i; have Hvl := Lib.hid hvl; have Hu := Lib.hid hu; have Hu2 := Lib.hid hu2; clear hvl hu hu2; have i1 : (x : Int) < (n : Int) := by omega
   have i2 : (y : Int) < (n : Int) := by omega
   have i3 : (0 : Int) ≤ (x : Int) := by omega
   have i4 : (0 : Int) ≤ (y : Int) := by omega
   go_wp2_with fail; generalize hwb : wr.alloc (.cells #[.int .i64 x, .int .i64 y] 51) = wb; have hbb : Below wr.heap.size wr wb := by rw [← hwb]; exact bl_alloc _ _
   have q0 : wb.cell? ⟨wr.heap.size, 0, none⟩ = some (.int .i64 x) := by rw [← hwb]; simp
   have q1 : wb.cell? ⟨wr.heap.size, 1, none⟩ = some (.int .i64 y) := by rw [← hwb]; simp
   have q2 : wb.cell? ⟨w1.heap.size, x, none⟩ = some u := keep_cell hbb hux; have q3 : ∀ i, wb.frozen? ⟨w1.heap.size, i, none⟩ = false := fun i => (hbb.frozen (p := ⟨w1.heap.size, i, none⟩) hzr).trans (hfr i); have hzb : w1.heap.size < wb.heap.size := by rw [← hwb]; simp; omega
   have Hwb := Lib.hid hwb; clear hwb; have hown := (hrows.own x u ((adj (es.take k) x).map vN) Hu.out (by simp [rowsV, besideL_get, show x < n by omega])).ext hbb; have hl1 : ((adj (es.take k) x).map vN).length ≤ es.length := by simpa using adj_take_len es k x
   have hrows' := hrows.below hbb; refine regionT (fun w' => w'.cell? ⟨wr.heap.size, 0, none⟩ = some (.int .i64 x) ∧ w'.cell? ⟨wr.heap.size, 1, none⟩ = some (.int .i64 y) ∧ w'.cell? ⟨w1.heap.size, x, none⟩ = some u) 12 (by kernel_rfl) ?_; have hS : wb.drew.cell? ⟨wr.heap.size, 0, none⟩ = some (.int .i64 x) ∧ wb.drew.cell? ⟨wr.heap.size, 1, none⟩ = some (.int .i64 y) ∧ wb.drew.cell? ⟨w1.heap.size, x, none⟩ = some u := ⟨q0, q1, q2⟩
   refine tkT 0 ?_ rfl hS ?_ ?_ (by kernel_rfl) (fun _ _ _ h => h) (by rfl); rotate_left; (· intro wS hSw; (try dsimp only at hSw); go_simp; try with_reducible rfl); simp only [Act.put, zT]; refine tkT 1 ?_ rfl hS ?_ ?_ (by kernel_rfl) (fun _ _ _ h => h) (by rfl); rotate_left; (· intro wS hSw; (try dsimp only at hSw); go_simp; try with_reducible rfl); simp only [Act.put, zT]; refine tkT 2 ?_ rfl hS ?_ ?_ (by kernel_rfl) (fun _ _ _ h => h) (by rfl); rotate_left; (· intro wS hSw; (try dsimp only at hSw); go_simp; try with_reducible rfl); simp only [Act.put, zT]; refine tkT 3 ?_ rfl hS ?_ ?_ (by kernel_rfl) (fun _ _ _ h => h) (by rfl); rotate_left; (· intro wS hSw; (try dsimp only at hSw); go_simp; try with_reducible rfl); simp only [Act.put, zT]; refine tkT 4 ?_ rfl hS ?_ ?_ (by kernel_rfl) (fun _ _ _ h => h) (by rfl); rotate_left; (· intro wS hSw; (try dsimp only at hSw); go_simp; try with_reducible rfl); simp only [Act.put, zT]; refine tkT 5 ?_ rfl hS ?_ ?_ (by kernel_rfl) (fun _ _ _ h => h) (by rfl); rotate_left; (· intro wS hSw; (try dsimp only at hSw); go_simp; try with_reducible rfl); simp only [Act.put, zT]; refine tkT 6 ?_ rfl hS ?_ ?_ (by kernel_rfl) (fun _ _ _ h => h) (by rfl); rotate_left; (· intro wS hSw; (try dsimp only at hSw); go_simp; try with_reducible rfl); simp only [Act.put, zT]; refine tkT 7 ?_ rfl hS ?_ ?_ (by kernel_rfl) (fun _ _ _ h => h) (by rfl); rotate_left; (· intro wS hSw; (try dsimp only at hSw); go_simp; try with_reducible rfl); simp only [Act.put, zT]
   refine tkT 8 ?_ rfl hS ?_ ?_ (by kernel_rfl) (fun _ _ _ h => h) (by rfl); rotate_left; (· intro wS hSw; (try dsimp only at hSw); go_simp; try with_reducible rfl); simp only [Act.put, zT]; refine tkT 9 ?_ rfl hS ?_ ?_ (by kernel_rfl) (fun _ _ _ h => h) (by rfl); rotate_left; (· intro wS hSw; (try dsimp only at hSw); go_simp; try with_reducible rfl); simp only [Act.put, zT]; refine oneT (i := 10) rfl (by kernel_rfl) (fun K hK => ?_); go_simp; have bW : Below wb.heap.size wb (wb.alloc (.cells #[.int .i64 y] 3)).drew := (bl_alloc _ _).drew; refine hK _ _ (fun _ => ⟨keep_cell bW q0, keep_cell bW q1, keep_cell bW q2⟩) ?_; clear hK K; refine oneT (i := 11) rfl (by kernel_rfl) (fun K hK => ?_); refine step_append_row rfl (.tmp 26) (.tmp 29) 25 rfl 3 (.int .i64 0) 1 8 Tryz.underlying25 int_info rfl u _ _ (by simp [Act.eval]) (hown.drew.alloc _) ⟨wb.heap.size, 0, none⟩ 1 1 [.int .i64 y] (by simp [Act.eval]) rfl (one_new (by simp)) (one_ok _ _) (by omega) (by unfold maxLen; omega) (by omega) ?_; intro g' cap' w2 hrow2 hcap2 hgr2 hor2; have r0 := grown_cell hgr2 (keep_cell bW q0) (hrows.ne_new Hu.out (Nat.le_refl _)); have r1 := grown_cell hgr2 (keep_cell bW q1) (hrows.ne_new Hu.out (Nat.le_refl _)); have r2 := grown_cell hgr2 (keep_cell bW q2) (hrows.ne_outer Hu.out); have r3 := grown_frozen hgr2 (by simp; omega) ((bW.frozen (p := ⟨w1.heap.size, x, none⟩) hzb).trans (q3 x)) (hrows.ne_outer Hu.out); refine hK _ _ (fun _ => ⟨r0, r1, r2⟩) ?_; clear hK K; refine oneT (i := 12) rfl (by kernel_rfl) (fun K hK => ?_)
   go_simp; refine hK _ _ (fun h => absurd h (by omega)) ?_; clear hK K; refine oneT (i := 13) rfl (by kernel_rfl) (fun K hK => ?_); go_simp; refine hK _ _ (fun h => absurd h (by omega)) ?_; clear hK K; refine doneT (by kernel_rfl) ?_ _; have hr7 : (rowsV (besideL n (es.take k)))[x]? = some ((adj (es.take k) x).map vN) := by simp [rowsV, besideL_get, show x < n by omega]
   have hst := (hrows.below (hbb.trans (bW.mono hbb.size))).stored Hu.out hr7 hrow2 hgr2 (hor2.imp id (fun h => h)); have el : ((adj (es.take k) x).map vN ++ [vN y]).length = (adj (es.take k) x).length + 1 := by simp
   rw [show ((adj (es.take k) x).map vN ++ [Value.int .i64 (y : Int)]) = (adj (es.take k) x).map vN ++ [vN y] from rfl, el] at hst; have t0 : (w2.setCell ⟨w1.heap.size, x, none⟩ (.slice (some ⟨g', 0, none⟩) ((adj (es.take k) x).length + 1) cap')).cell? ⟨wr.heap.size, 0, none⟩ = some (.int .i64 x) := by
    rw [World.cell?_setCell_far _ _ _ _ (by simp; omega)]; exact r0
   have t1 : (w2.setCell ⟨w1.heap.size, x, none⟩ (.slice (some ⟨g', 0, none⟩) ((adj (es.take k) x).length + 1) cap')).cell? ⟨wr.heap.size, 1, none⟩ = some (.int .i64 y) := by
    rw [World.cell?_setCell_far _ _ _ _ (by simp; omega)]; exact r1
   have hbe : Below w1.heap.size w1 (w2.setCell ⟨w1.heap.size, x, none⟩ (.slice (some ⟨g', 0, none⟩) ((adj (es.take k) x).length + 1) cap')) :=
    ((bl_trans hb (hbb.trans (bW.mono hbb.size))).grown hgr2 (by simp; omega) (fun g hg => Nat.le_of_lt (hrows.young x u g Hu.out hg))).setCell (Nat.le_refl _) _
   have hzc : wr.heap.size < (w2.setCell ⟨w1.heap.size, x, none⟩ (.slice (some ⟨g', 0, none⟩) ((adj (es.take k) x).length + 1) cap')).heap.size := World.block_lt_of_cell? _ _ t0; generalize w2.setCell ⟨w1.heap.size, x, none⟩ (.slice (some ⟨g', 0, none⟩) ((adj (es.take k) x).length + 1) cap') = wc at hst t0 t1 hbe hzc ⊢; clear r0 r1 r2 r3 hgr2 hor2 hrow2 hcap2 bW q0 q1 q2 q3 hzb hown hux huy hfr d1 hS p0 p1; generalize hv2 : vals.set x (.slice (some ⟨g', 0, none⟩) ((adj (es.take k) x).length + 1) cap') = vals2 at hst; have hu2 : vals2[y]? = some u2 := by rw [← hv2, List.getElem?_set, if_neg (by omega)]; exact Hu2.out
   have Hu2' := Lib.hid hu2; clear hv2 hu2; have q0 := t0; have q1 := t1; have hvl2 : vals2.length = n := by rw [hst.len]; simp [rowsV, besideL_length]
   have q2 : wc.cell? ⟨w1.heap.size, y, none⟩ = some u2 := by rw [hst.outer.cell? y (by omega), Hu2'.out]
   have q3 : wc.frozen? ⟨w1.heap.size, y, none⟩ = false := hst.outer.frozen y; have hzb : w1.heap.size < wc.heap.size := hst.outer.lt; have Hvl2 := Lib.hid hvl2; clear hvl2 t0 t1; have hr8 : ((rowsV (besideL n (es.take k))).set x ((adj (es.take k) x).map vN ++ [vN y]))[y]? = some ((adj (es.take k) y).map vN) := by
    rw [List.getElem?_set, if_neg (by omega)]; simp [rowsV, besideL_get, hyn]
   have hown := hst.own y u2 _ Hu2'.out hr8; have hl2 : ((adj (es.take k) y).map vN).length ≤ es.length := by simpa using adj_take_len es k y
   go_wp2_with fail; refine regionT (fun w' => w'.cell? ⟨wr.heap.size, 0, none⟩ = some (.int .i64 x) ∧ w'.cell? ⟨wr.heap.size, 1, none⟩ = some (.int .i64 y) ∧ w'.cell? ⟨w1.heap.size, y, none⟩ = some u2) 12 (by kernel_rfl) ?_; have hS : wc.drew.cell? ⟨wr.heap.size, 0, none⟩ = some (.int .i64 x) ∧ wc.drew.cell? ⟨wr.heap.size, 1, none⟩ = some (.int .i64 y) ∧ wc.drew.cell? ⟨w1.heap.size, y, none⟩ = some u2 := ⟨q0, q1, q2⟩
   refine tkT 0 ?_ rfl hS ?_ ?_ (by kernel_rfl) (fun _ _ _ h => h) (by rfl); rotate_left; (· intro wS hSw; (try dsimp only at hSw); go_simp; try with_reducible rfl); simp only [Act.put, zT]; refine tkT 1 ?_ rfl hS ?_ ?_ (by kernel_rfl) (fun _ _ _ h => h) (by rfl); rotate_left; (· intro wS hSw; (try dsimp only at hSw); go_simp; try with_reducible rfl); simp only [Act.put, zT]; refine tkT 2 ?_ rfl hS ?_ ?_ (by kernel_rfl) (fun _ _ _ h => h) (by rfl); rotate_left; (· intro wS hSw; (try dsimp only at hSw); go_simp; try with_reducible rfl); simp only [Act.put, zT]; refine tkT 3 ?_ rfl hS ?_ ?_ (by kernel_rfl) (fun _ _ _ h => h) (by rfl); rotate_left; (· intro wS hSw; (try dsimp only at hSw); go_simp; try with_reducible rfl); simp only [Act.put, zT]; refine tkT 4 ?_ rfl hS ?_ ?_ (by kernel_rfl) (fun _ _ _ h => h) (by rfl); rotate_left; (· intro wS hSw; (try dsimp only at hSw); go_simp; try with_reducible rfl); simp only [Act.put, zT]; refine tkT 5 ?_ rfl hS ?_ ?_ (by kernel_rfl) (fun _ _ _ h => h) (by rfl); rotate_left; (· intro wS hSw; (try dsimp only at hSw); go_simp; try with_reducible rfl); simp only [Act.put, zT]; refine tkT 6 ?_ rfl hS ?_ ?_ (by kernel_rfl) (fun _ _ _ h => h) (by rfl); rotate_left; (· intro wS hSw; (try dsimp only at hSw); go_simp; try with_reducible rfl); simp only [Act.put, zT]; refine tkT 7 ?_ rfl hS ?_ ?_ (by kernel_rfl) (fun _ _ _ h => h) (by rfl); rotate_left; (· intro wS hSw; (try dsimp only at hSw); go_simp; try with_reducible rfl); simp only [Act.put, zT]
   refine tkT 8 ?_ rfl hS ?_ ?_ (by kernel_rfl) (fun _ _ _ h => h) (by rfl); rotate_left; (· intro wS hSw; (try dsimp only at hSw); go_simp; try with_reducible rfl); simp only [Act.put, zT]; refine tkT 9 ?_ rfl hS ?_ ?_ (by kernel_rfl) (fun _ _ _ h => h) (by rfl); rotate_left; (· intro wS hSw; (try dsimp only at hSw); go_simp; try with_reducible rfl); simp only [Act.put, zT]; refine oneT (i := 10) rfl (by kernel_rfl) (fun K hK => ?_); go_simp; have bW : Below wc.heap.size wc (wc.alloc (.cells #[.int .i64 x] 3)).drew := (bl_alloc _ _).drew; refine hK _ _ (fun _ => ⟨keep_cell bW q0, keep_cell bW q1, keep_cell bW q2⟩) ?_; clear hK K; refine oneT (i := 11) rfl (by kernel_rfl) (fun K hK => ?_); refine step_append_row rfl (.tmp 39) (.tmp 42) 25 rfl 3 (.int .i64 0) 1 8 Tryz.underlying25 int_info rfl u2 _ _ (by simp [Act.eval]) (hown.drew.alloc _) ⟨wc.heap.size, 0, none⟩ 1 1 [.int .i64 x] (by simp [Act.eval]) rfl (one_new (by simp)) (one_ok _ _) (by omega) (by unfold maxLen; omega) (by omega) ?_; intro g' cap' w2 hrow2 hcap2 hgr2 hor2; have hnb : u2.ownBlock ≠ some wr.heap.size := fun e => by
    have := hrows.lt Hu2.out e; omega
   have r0 := grown_cell hgr2 (keep_cell bW q0) hnb; have r1 := grown_cell hgr2 (keep_cell bW q1) hnb; have r2 := grown_cell hgr2 (keep_cell bW q2) (hst.ne_outer Hu2'.out); have r3 := grown_frozen hgr2 (by simp; omega) ((bW.frozen (p := ⟨w1.heap.size, y, none⟩) hzb).trans q3) (hst.ne_outer Hu2'.out); refine hK _ _ (fun _ => ⟨r0, r1, r2⟩) ?_; clear hK K; refine oneT (i := 12) rfl (by kernel_rfl) (fun K hK => ?_); go_simp; refine hK _ _ (fun h => absurd h (by omega)) ?_; clear hK K; refine oneT (i := 13) rfl (by kernel_rfl) (fun K hK => ?_); go_simp; refine hK _ _ (fun h => absurd h (by omega)) ?_; clear hK K; refine doneT (by kernel_rfl) ?_ _; have hst2 := (hst.below bW).stored Hu2'.out hr8 hrow2 hgr2 (hor2.imp id (fun h => h)); have el2 : ((adj (es.take k) y).map vN ++ [vN x]).length = (adj (es.take k) y).length + 1 := by simp
   rw [show ((adj (es.take k) y).map vN ++ [Value.int .i64 (x : Int)]) = (adj (es.take k) y).map vN ++ [vN x] from rfl, el2, Hstep.out] at hst2; have hbe2 := ((bl_trans hbe bW).grown hgr2 (by simp; omega) (fun g hg => Nat.le_of_lt (hst.young y u2 g Hu2'.out hg))).setCell (p := ⟨w1.heap.size, y, none⟩) (Nat.le_refl _) (.slice (some ⟨g', 0, none⟩) ((adj (es.take k) y).length + 1) cap'); clear hst hown hrows hrow2 hgr2 hor2; go_wp2_with fail; go_roundg (es.length - (k + 1))
   case measure => have := Hgk.out; omega
   case rel => exact ⟨k + 1, _, by omega, rfl, by go_num, hbe2, hst2⟩
  ·
   have hkl : k = es.length := by omega
   subst hkl; have he : es.take es.length = es := List.take_of_length_le (Nat.le_refl _); rw [he] at hrows; clear he hgk; go_wp2_with fail; go_ret; exact ⟨w1.heap.size, vals, rfl, hB1.size, hrows, hB⟩
end Go.Proofs.YtagjdkkfmfombaaGreat
namespace Go.Proofs.YtagjdkkfmfombaaGreat
open Go Go.RowKit
def inR (n : Int) (v : Int) : Bool := decide (0 ≤ v) && decide (v < n)
theorem inR_iff (n v : Int) : inR n v = true ↔ 0 ≤ v ∧ v < n := by simp [inR]
def RetStart (w : World) (n : Int) (es : List (Int × Int)) (vs : List Int) (e : Ending) (w' : World) : Prop :=
 Below w.heap.size w w' ∧
 ((rightB n es = false ∧ e = .returned (.tuple #[.slice none 0 0, .int .i64 20])) ∨
  (rightB n es = true ∧ vs.all (inR n) = false ∧ e = .returned (.tuple #[.slice none 0 0, .int .i64 2])) ∨
  (rightB n es = true ∧ vs.all (inR n) = true ∧ ∃ G vals, e = .returned (.tuple #[.slice (some ⟨G, 0, none⟩) n.toNat n.toNat, .int .i64 0]) ∧ w.heap.size ≤ G ∧ OwnRows w' G 25 3 n.toNat vals (rowsV (besideL n.toNat es))))
set_option maxHeartbeats 1000000 in
theorem start_walk (n : Int) (a : Option Addr) (cap : Nat) (es : List (Int × Int)) (b : Option Addr) (vs : List Int) (c : Nat) (w : World) (hr : RdP w a es) (hv : RdI w b vs)
  (hcap : es.length ≤ 9223372036854775807) (hvl : vs.length ≤ 1000) :
  Calls Tryz.prog 50 #[.agg #[.int .i64 n, .slice a es.length cap], .slice b vs.length c] w (RetStart w n es vs) := by
 have hbx : Below w.heap.size w (w.alloc (.cells #[.int .i64 n, .slice a es.length cap] 24)) := bl_alloc _ _
 cases hright : rightB n es with
 | false =>
  have Hright := Lib.hid hright; clear hright
  go_enter Tryz.func50, Tryz.ntmps50
  go_wp2_with (go_at_call 30; refine (right_walk n a cap es _ (hr.below (bl_alloc _ _)) hcap).mono ?_; rw [Hright.out]; rintro e w1 ⟨rfl, hb1⟩)
  go_ret2
  exact ⟨bl_trans hbx hb1, .inl ⟨Hright.out, rfl⟩⟩
 | true =>
  obtain ⟨h0, h1, h2, _, _⟩ := (rightB_iff _ _).1 hright
  obtain ⟨m, rfl⟩ : ∃ m : Nat, n = m := ⟨n.toNat, by omega⟩
  have Hright := Lib.hid hright; clear hright
  go_enter Tryz.func50, Tryz.ntmps50
  go_wp2_with (go_at_call 30; refine (right_walk m a cap es _ (hr.below (bl_alloc _ _)) (by omega)).mono ?_; rw [Hright.out]; rintro e w1 ⟨rfl, hb1⟩; obtain ⟨c0, c1⟩ : w1.cell? ⟨w.heap.size, 0, none⟩ = some (.int .i64 m) ∧ w1.cell? ⟨w.heap.size, 1, none⟩ = some (.slice a es.length cap) := ⟨keep_cell hb1 (by simp), keep_cell hb1 (by simp)⟩; have hz1 : w.heap.size < w1.heap.size := by (have := hb1.size; simp at this; omega))
  have hB1 : Below w.heap.size w w1 := bl_trans hbx hb1
  go_loopg [13] vs.length (fun r i wr => ∃ k : Nat, k + r = vs.length ∧ i = .int .i64 k ∧ wr = w1 ∧ ∀ j (h : j < vs.length), j < k → inR m vs[j] = true)
  case atStart => exact ⟨0, by omega, rfl, rfl, fun j _ h => absurd h (by omega)⟩
  case round =>
   obtain ⟨k, hk, rfl, rfl, hok⟩ := hrel; by_cases hlt : k < vs.length
   ·
    obtain ⟨b', o, rfl, p0⟩ := (hv.below hB1).at k hlt; obtain ⟨x, hx⟩ : ∃ x, x = vs[k] := ⟨_, rfl⟩
    rw [← hx] at p0; by_cases hin : 0 ≤ x ∧ x < m
    ·
     have hend : ∀ j (h : j < vs.length), j < k + 1 → inR m vs[j] = true := by
      intro j h hj; by_cases hjk : j < k
      · exact hok j h hjk
      ·
       obtain rfl : j = k := by omega
       rw [inR_iff, ← hx]; exact hin
     have Hend := Lib.hid hend; clear hend hok; have Hx := Lib.hid hx; clear hx; obtain ⟨i1, i2⟩ := hin; go_wp2_with fail; go_roundg (gk - 1)
     case measure => omega
     case rel => exact ⟨k + 1, by omega, by go_num, rfl, Hend.out⟩
    ·
     have hno : vs.all (inR m) = false := by
      rw [Bool.eq_false_iff]; intro h; have := (inR_iff _ _).1 (List.all_eq_true.1 h _ (List.getElem_mem hlt)); exact hin (by rw [hx]; exact this)
     have Hno := Lib.hid hno; have Hx := Lib.hid hx; clear hx hok hno; go_wp2_with fail; all_goals
      go_ret2; exact ⟨hB1, .inr (.inl ⟨Hright.out, Hno.out, rfl⟩)⟩
   ·
    have hyes : vs.all (inR m) = true := by
     rw [List.all_eq_true]; intro x hx; obtain ⟨j, hj, rfl⟩ := List.getElem_of_mem hx; exact hok j hj (by omega)
    have Hyes := Lib.hid hyes; clear hok hyes; go_wp2_with (go_at_call 21; refine (beside_walk m a cap es _ (hr.below hB1) Hright.out).mono ?_; rintro e w2 ⟨G, vals, rfl, hG, hrows, hb2⟩); go_ret2; exact ⟨bl_trans hB1 hb2, .inr (.inr ⟨Hright.out, Hyes.out, G, vals, rfl, Nat.le_trans hB1.size hG, hrows⟩)⟩
end Go.Proofs.YtagjdkkfmfombaaGreat
namespace Go.Proofs.YtagjdkkfmfombaaGreat
def fresh (bs : List (List Nat)) (order : List Nat) (v : Nat) : Option Nat := (bs.getD v []).find? fun x => !order.contains x
def dfs (bs : List (List Nat)) : Nat → List Nat → List Nat → List Int → List Nat × List Int
 | 0, order, _, up => (order, up)
 | _ + 1, order, [], up => (order, up)
 | f + 1, order, v :: o, up => match fresh bs order v with
  | some x => dfs bs f (order ++ [x]) (x :: v :: o) (up.set x (v : Int))
  | none => dfs bs f order o up
def walkL (bs : List (List Nat)) (start : Nat) : List Nat × List Int := dfs bs (2 * bs.length) [start] [start] (List.replicate bs.length (-1))
theorem fresh_some {bs : List (List Nat)} {order : List Nat} {v x : Nat} (h : fresh bs order v = some x) : x ∈ bs.getD v [] ∧ x ∉ order := by
 unfold fresh at h
 refine ⟨List.mem_of_find?_eq_some h, ?_⟩
 have := List.find?_some h
 simpa using this
theorem fresh_at {bs : List (List Nat)} {order : List Nat} {v t : Nat} {r : List Nat} (hr : bs.getD v [] = r) (hmet : ∀ j, j < t → ∀ x, r[j]? = some x → x ∈ order) {x : Nat} (ht : r[t]? = some x) (hx : x ∉ order) :
  fresh bs order v = some x := by
 unfold fresh
 rw [hr]
 have hlt : t < r.length := (List.getElem?_eq_some_iff.1 ht).1
 rw [List.find?_eq_some_iff_getElem]
 refine ⟨by simpa using hx, t, hlt, by rw [List.getElem?_eq_getElem hlt] at ht; simpa using ht, ?_⟩
 intro j hj
 have := hmet j hj r[j] (by simp)
 simpa using this
theorem fresh_none {bs : List (List Nat)} {order : List Nat} {v : Nat} {r : List Nat} (hr : bs.getD v [] = r) (hmet : ∀ x ∈ r, x ∈ order) : fresh bs order v = none := by
 unfold fresh
 rw [hr, List.find?_eq_none]
 intro x hx
 simpa using hmet x hx
structure WInv (bs : List (List Nat)) (n r : Nat) (order opn : List Nat) (up : List Int) (met : List Bool) (tried : List Nat) (fin : List Nat × List Int) : Prop where
 go : dfs bs r order opn up = fin
 rank : 2 * met.count false + opn.length ≤ r
 ol : order.length + r ≤ 2 * n + 1
 inO : ∀ x ∈ order, x < n
 inP : ∀ x ∈ opn, x < n
 metS : ∀ x, x < n → met[x]? = some (order.contains x)
 triedS : ∀ v, v < n → ∃ t, tried[v]? = some t ∧ t ≤ (bs.getD v []).length ∧ ∀ j, j < t → ∀ x, (bs.getD v [])[j]? = some x → x ∈ order
theorem count_set_true {l : List Bool} {x : Nat} (h : l[x]? = some false) : (l.set x true).count false + 1 = l.count false := by
 obtain ⟨hx, h1⟩ := List.getElem?_eq_some_iff.1 h
 have h2 : 0 < l.count false := List.count_pos_iff.2 (by rw [← h1]; exact List.getElem_mem hx)
 rw [List.count_set hx, h1]
 simp
 omega
theorem WInv.start {bs : List (List Nat)} {n st : Nat} (hbl : bs.length = n) (hst : st < n) :
  WInv bs n (2 * n) [st] [st] (List.replicate n (-1)) ((List.replicate n false).set st true) (List.replicate n 0) (walkL bs st) where
 go := by unfold walkL; rw [hbl]
 rank := by
  have := count_set_true (l := List.replicate n false) (x := st) (by simp [hst])
  simp at this ⊢
  omega
 ol := by simp; omega
 inO x hx := by simp at hx; omega
 inP x hx := by simp at hx; omega
 metS x hx := by
  rw [List.getElem?_set]
  by_cases h : st = x
  · subst h; simp [hst]
  · rw [if_neg h]; simp [hx, Ne.symm h]
 triedS v hv := ⟨0, by simp [hv], Nat.zero_le _, fun j hj => absurd hj (by omega)⟩
theorem WInv.finish {bs : List (List Nat)} {n r : Nat} {order : List Nat} {up : List Int} {met : List Bool} {tried : List Nat} {fin : List Nat × List Int} (h : WInv bs n r order [] up met tried fin) : fin = (order, up) := by
 rw [← h.go]
 cases r <;> rfl
theorem WInv.next {bs : List (List Nat)} {n r : Nat} {order opn : List Nat} {up : List Int} {met : List Bool} {tried : List Nat} {fin : List Nat × List Int} (h : WInv bs n r order opn up met tried fin)
  {v t x : Nat} (hv : v < n) (htl : tried.length = n) (ht : tried[v]? = some t) (hx : (bs.getD v [])[t]? = some x) (hm : x ∈ order) : WInv bs n r order opn up met (tried.set v (t + 1)) fin :=
 { h with
  triedS := by
   intro v' hv'; by_cases hvv : v = v'
   ·
    subst hvv; obtain ⟨t', ht', h1, h2⟩ := h.triedS v hv; rw [ht] at ht'; cases ht'; refine ⟨t + 1, by simp [htl, hv], (List.getElem?_eq_some_iff.1 hx).1, fun j hj y hy => ?_⟩; by_cases hjt : j < t
    · exact h2 j hjt y hy
    ·
     obtain rfl : j = t := by omega
     rw [hx] at hy; cases hy; exact hm
   ·
    obtain ⟨t', ht', h1, h2⟩ := h.triedS v' hv'
    exact ⟨t', by rw [List.getElem?_set, if_neg hvv]; exact ht', h1, h2⟩ }
theorem WInv.push {bs : List (List Nat)} {n r : Nat} {order o : List Nat} {v : Nat} {up : List Int} {met : List Bool} {tried : List Nat} {fin : List Nat × List Int} (h : WInv bs n (r + 1) order (v :: o) up met tried fin)
  {t x : Nat} (hv : v < n) (htl : tried.length = n) (ht : tried[v]? = some t) (hx : (bs.getD v [])[t]? = some x) (hxn : x < n) (hm : x ∉ order) :
  WInv bs n r (order ++ [x]) (x :: v :: o) (up.set x (v : Int)) (met.set x true) (tried.set v (t + 1)) fin := by
 obtain ⟨t', ht', h1, h2⟩ := h.triedS v hv
 rw [ht] at ht'; cases ht'
 have hfr := fresh_at (bs := bs) rfl h2 hx hm
 have hmx : met[x]? = some false := by rw [h.metS x hxn]; simpa using hm
 have hc := count_set_true hmx
 refine ⟨?_, ?_, ?_, ?_, ?_, ?_, ?_⟩
 ·
  have hg := h.go
  rw [dfs, hfr] at hg
  exact hg
 · have := h.rank; simp at this ⊢; omega
 · have := h.ol; simp; omega
 ·
  intro y hy
  rcases List.mem_append.1 hy with hy | hy
  · exact h.inO y hy
  · simp at hy; omega
 ·
  intro y hy
  rcases List.mem_cons.1 hy with rfl | hy
  · exact hxn
  · exact h.inP y hy
 ·
  intro y hy
  rw [List.getElem?_set]
  by_cases hxy : x = y
  ·
   subst hxy; have : x < met.length := (List.getElem?_eq_some_iff.1 hmx).1; rw [if_pos rfl, if_pos this]; simp
  · rw [if_neg hxy, h.metS y hy]; simp [Ne.symm hxy]
 ·
  intro v' hv'
  by_cases hvv : v = v'
  ·
   subst hvv; refine ⟨t + 1, by simp [htl, hv], (List.getElem?_eq_some_iff.1 hx).1, fun j hj y hy => ?_⟩; by_cases hjt : j < t
   · exact List.mem_append_left _ (h2 j hjt y hy)
   ·
    obtain rfl : j = t := by omega
    rw [hx] at hy; cases hy; simp
  ·
   obtain ⟨t', ht', h3, h4⟩ := h.triedS v' hv'; exact ⟨t', by rw [List.getElem?_set, if_neg hvv]; exact ht', h3, fun j hj y hy => List.mem_append_left _ (h4 j hj y hy)⟩
theorem WInv.pop {bs : List (List Nat)} {n r : Nat} {order o : List Nat} {v : Nat} {up : List Int} {met : List Bool} {tried : List Nat} {fin : List Nat × List Int} (h : WInv bs n (r + 1) order (v :: o) up met tried fin)
  {t : Nat} (hv : v < n) (ht : tried[v]? = some t) (hx : ¬ t < (bs.getD v []).length) : WInv bs n r order o up met tried fin := by
 obtain ⟨t', ht', h1, h2⟩ := h.triedS v hv
 rw [ht] at ht'; cases ht'
 have hfr : fresh bs order v = none := fresh_none rfl (by
  intro y hy
  obtain ⟨j, hj, rfl⟩ := List.getElem_of_mem hy
  exact h2 j (by omega) _ (by simp))
 refine { h with go := ?_, rank := ?_, ol := ?_, inP := fun y hy => h.inP y (List.mem_cons_of_mem _ hy) }
 ·
  have hg := h.go
  rw [dfs, hfr] at hg
  exact hg
 · have := h.rank; simp at this; omega
 · have := h.ol; omega
end Go.Proofs.YtagjdkkfmfombaaGreat
namespace Go.Proofs.YtagjdkkfmfombaaGreat
open Go Go.RowKit
structure WM (w : World) (B gu gm gt go gp co cp n : Nat) (up : List Int) (met : List Bool) (tried order opn : List Nat) : Prop where
 lu : up.length = n
 lm : met.length = n
 lt : tried.length = n
 ru : Row w gu 3 1 n (up.map (Value.int .i64))
 rm : Row w gm 4 1 n (met.map Value.bool)
 rt : Row w gt 3 1 n (tried.map vN)
 ro : Row w go 3 1 co (order.map vN)
 rp : Row w gp 3 1 cp (opn.reverse.map vN)
 d1 : gu ≠ gm ∧ gu ≠ gt ∧ gu ≠ go ∧ gu ≠ gp
 d2 : gm ≠ gt ∧ gm ≠ go ∧ gm ≠ gp
 d3 : gt ≠ go ∧ gt ≠ gp
 d4 : go ≠ gp
 lo : B ≤ gu ∧ B ≤ gm ∧ B ≤ gt ∧ B ≤ go ∧ B ≤ gp
namespace WM
variable {w w' : World} {B gu gm gt go gp co cp n : Nat} {up : List Int} {met : List Bool} {tried order opn : List Nat}
theorem ext (h : WM w B gu gm gt go gp co cp n up met tried order opn) (hb : Below w.heap.size w w') : WM w' B gu gm gt go gp co cp n up met tried order opn :=
 { h with ru := h.ru.below hb h.ru.lt, rm := h.rm.below hb h.rm.lt, rt := h.rt.below hb h.rt.lt, ro := h.ro.below hb h.ro.lt, rp := h.rp.below hb h.rp.lt }
theorem set_tried (h : WM w B gu gm gt go gp co cp n up met tried order opn) (v t : Nat) : WM (w.setCell ⟨gt, v, none⟩ (vN t)) B gu gm gt go gp co cp n up met (tried.set v t) order opn :=
 { h with
  lt := by simpa using h.lt
  ru := h.ru.other (by simpa using h.d1.2.1) _, rm := h.rm.other (by simpa using h.d2.1) _
  rt := by have := h.rt.set v (vN t); rwa [← List.map_set] at this
  ro := h.ro.other (by simpa using h.d3.1.symm) _, rp := h.rp.other (by simpa using h.d3.2.symm) _ }
theorem set_met (h : WM w B gu gm gt go gp co cp n up met tried order opn) (v : Nat) (b : Bool) : WM (w.setCell ⟨gm, v, none⟩ (.bool b)) B gu gm gt go gp co cp n up (met.set v b) tried order opn :=
 { h with
  lm := by simpa using h.lm
  ru := h.ru.other (by simpa using h.d1.1) _
  rm := by have := h.rm.set v (.bool b); rwa [← List.map_set] at this
  rt := h.rt.other (by simpa using h.d2.1.symm) _
  ro := h.ro.other (by simpa using h.d2.2.1.symm) _, rp := h.rp.other (by simpa using h.d2.2.2.symm) _ }
theorem set_up (h : WM w B gu gm gt go gp co cp n up met tried order opn) (v : Nat) (x : Int) : WM (w.setCell ⟨gu, v, none⟩ (.int .i64 x)) B gu gm gt go gp co cp n (up.set v x) met tried order opn :=
 { h with
  lu := by simpa using h.lu
  ru := by have := h.ru.set v (.int .i64 x); rwa [← List.map_set] at this
  rm := h.rm.other (by simpa using h.d1.1.symm) _, rt := h.rt.other (by simpa using h.d1.2.1.symm) _
  ro := h.ro.other (by simpa using h.d1.2.2.1.symm) _, rp := h.rp.other (by simpa using h.d1.2.2.2.symm) _ }
theorem push_order (h : WM w B gu gm gt go gp co cp n up met tried order opn) {x g c : Nat} (hr : Row w' g 3 1 c (order.map vN ++ [vN x])) (hg : w.grownBy w' (some go)) (hg' : some go = some g ∨ w.heap.size ≤ g) :
  WM w' B gu gm gt g gp c cp n up met tried (order ++ [x]) opn := by
 have hgo : ∀ {r e s cap vs}, Row w r e s cap vs → r ≠ go → r ≠ g := fun hr hne e => by
  rcases hg' with e' | e'
  · cases e'; exact hne e
  · have := hr.lt; omega
 have hlo : B ≤ g := by
  rcases hg' with e | e
  · cases e; exact h.lo.2.2.2.1
  · have := h.lo.1; have := h.ru.lt; omega
 exact { h with
  ru := h.ru.grown hg (by simp; exact h.d1.2.2.1.symm), rm := h.rm.grown hg (by simp; exact h.d2.2.1.symm), rt := h.rt.grown hg (by simp; exact h.d3.1.symm)
  ro := by simpa using hr
  rp := h.rp.grown hg (by simp; exact h.d4)
  d1 := ⟨h.d1.1, h.d1.2.1, hgo h.ru h.d1.2.2.1, h.d1.2.2.2⟩
  d2 := ⟨h.d2.1, hgo h.rm h.d2.2.1, h.d2.2.2⟩
  d3 := ⟨hgo h.rt h.d3.1, h.d3.2⟩
  d4 := (hgo h.rp h.d4.symm).symm
  lo := ⟨h.lo.1, h.lo.2.1, h.lo.2.2.1, hlo, h.lo.2.2.2.2⟩ }
theorem push_open (h : WM w B gu gm gt go gp co cp n up met tried order opn) {x g c : Nat} (hr : Row w' g 3 1 c (opn.reverse.map vN ++ [vN x])) (hg : w.grownBy w' (some gp)) (hg' : some gp = some g ∨ w.heap.size ≤ g) :
  WM w' B gu gm gt go g co c n up met tried order (x :: opn) := by
 have hgo : ∀ {r e s cap vs}, Row w r e s cap vs → r ≠ gp → r ≠ g := fun hr hne e => by
  rcases hg' with e' | e'
  · cases e'; exact hne e
  · have := hr.lt; omega
 have hlo : B ≤ g := by
  rcases hg' with e | e
  · cases e; exact h.lo.2.2.2.2
  · have := h.lo.1; have := h.ru.lt; omega
 exact { h with
  ru := h.ru.grown hg (by simp; exact h.d1.2.2.2.symm), rm := h.rm.grown hg (by simp; exact h.d2.2.2.symm), rt := h.rt.grown hg (by simp; exact h.d3.2.symm)
  ro := h.ro.grown hg (by simp; exact h.d4.symm)
  rp := by simpa using hr
  d1 := ⟨h.d1.1, h.d1.2.1, h.d1.2.2.1, hgo h.ru h.d1.2.2.2⟩
  d2 := ⟨h.d2.1, h.d2.2.1, hgo h.rm h.d2.2.2⟩
  d3 := ⟨h.d3.1, hgo h.rt h.d3.2⟩
  d4 := hgo h.ro h.d4
  lo := ⟨h.lo.1, h.lo.2.1, h.lo.2.2.1, h.lo.2.2.2.1, hlo⟩ }
theorem pop {v : Nat} (h : WM w B gu gm gt go gp co cp n up met tried order (v :: opn)) : WM w B gu gm gt go gp co cp n up met tried order opn := by
 have h1 := h.rp.take opn.length
 simp only [List.reverse_cons, List.map_append] at h1
 rw [List.take_left' (by simp)] at h1
 exact { h with rp := h1 }
end WM
theorem Own.shape {w : World} {u : Value} {e : TypeId} {vs : List Value} (h : Own w u e 1 vs.length vs) : ∃ a cap, u = .slice a vs.length cap ∧ CellsAt w a vs := by
 rcases h.2 with ⟨rfl, h0⟩ | ⟨g, cap, rfl, _, hr⟩
 · exact ⟨none, 0, by rw [h0], by intro i x hx; rw [List.eq_nil_of_length_eq_zero h0] at hx; simp at hx⟩
 · exact ⟨_, cap, rfl, hr.at_⟩
def RetWalk (w : World) (n : Nat) (r : List Nat × List Int) (e : Ending) (w' : World) : Prop :=
 ∃ go co gu, e = .returned (.tuple #[.slice (some ⟨go, 0, none⟩) r.1.length co, .slice (some ⟨gu, 0, none⟩) n n]) ∧ Row w' go 3 1 co (r.1.map vN) ∧ Row w' gu 3 1 n (r.2.map (Value.int .i64)) ∧ r.2.length = n ∧
  w.heap.size ≤ go ∧ w.heap.size ≤ gu ∧ go ≠ gu ∧ Below w.heap.size w w'
end Go.Proofs.YtagjdkkfmfombaaGreat
namespace Go.Proofs.YtagjdkkfmfombaaGreat
open Go Go.RowKit
set_option maxHeartbeats 2000000 in
theorem walk_walk (G n : Nat) (vals : List Value) (bs : List (List Nat)) (st : Nat) (w : World) (hrows : OwnRows w G 25 3 n vals (rowsV bs)) (hbl : bs.length = n)
  (hbs : ∀ (v : Nat) (r : List Nat), bs[v]? = some r → r.length ≤ 1000 ∧ ∀ x ∈ r, x < n) (hst : st < n) (hn : n ≤ 200) :
  Calls Tryz.prog 51 #[.slice (some ⟨G, 0, none⟩) n n, .int .i64 st] w (RetWalk w n (walkL bs st)) := by
 have hmk := run_make_row' (P := Tryz.prog) 25 3 (.int .i64 0) 8 Tryz.underlying25 int_info rfl .i64 .i64 n (by omega) (by omega)
 have hmb := run_make_row' (P := Tryz.prog) 88 4 (.bool false) 1 Tryz.underlying88 bool_info rfl .i64 .i64 n (by omega) (by omega)
 have i1 : (st : Int) < (n : Int) := by omega
 have i2 : (0 : Int) ≤ (st : Int) := by omega
 have hmc : (madeCells #[Value.bool false] n)[st]? = some (.bool false) := by
  rw [← Array.getElem?_toList, toList_madeCells_one, List.getElem?_replicate, if_pos hst]
 go_enter Tryz.func51, Tryz.ntmps51
 go_wp2_with fail
 go_step3
 go_wp2_with (go_at_call 81; refine (repeat_walk _ _ (-1) n _ (by simp) (by omega)).mono ?_; rintro e w1 ⟨gu, rfl, hgu, hru, hb1⟩)
 go_step3
 go_wp2_with fail
 have hbw1 : Below w.heap.size w w1 := bl_trans (bl_alloc _ _) hb1
 have hrows1 := hrows.below hbw1
 have hG : G < w.heap.size := hrows.outer.lt
 have hgu2 : w.heap.size < gu := by have := hgu; simp at this; omega
 go_loopg [9, 10] (2 * n) (fun r vo vp wr => ∃ (go gp co cp : Nat) (up : List Int) (met : List Bool) (tried order opn : List Nat), vo = .slice (some ⟨go, 0, none⟩) order.length co ∧ vp = .slice (some ⟨gp, 0, none⟩) opn.length cp ∧
  WM wr w.heap.size gu w1.heap.size (w1.heap.size + 1) go gp co cp n up met tried order opn ∧ Below w.heap.size w wr ∧ WInv bs n r order opn up met tried (walkL bs st))
 case atStart =>
  refine ⟨w1.heap.size + 1 + 1, w1.heap.size + 1 + 1 + 1, 1, 1, List.replicate n (-1), (List.replicate n false).set st true, List.replicate n 0, [st], [st], rfl, rfl, ?_, ?_, WInv.start hbl hst⟩
  ·
   have hgl : gu < w1.heap.size := hru.lt; have hru' : Row w1 gu 3 1 n ((List.replicate n (-1)).map (Value.int .i64)) := by simpa using hru
   refine ⟨by simp, by simp, by simp, ?_, ?_, ?_, ?_, ?_, by omega, by omega, by omega, by omega, ?_⟩
   · exact (((hru'.alloc _).alloc _).alloc _).alloc _
   ·
    refine Row.alloc (Row.alloc (Row.alloc ?_ _) _) _; have := row_new w1 ((madeCells #[Value.bool false] n).setIfInBounds st (Value.bool true)) 4 1 n (by simp [size_madeCells]) (by unfold maxLen; omega); rw [Array.toList_setIfInBounds, toList_madeCells_one] at this; simpa [List.map_set] using this
   ·
    refine Row.alloc (Row.alloc ?_ _) _; have := row_made (w1.alloc (.cells ((madeCells #[Value.bool false] n).setIfInBounds st (Value.bool true)) 4)) (.int .i64 0) n 3 (by unfold maxLen; omega); simpa [vN] using this
   ·
    refine Row.alloc ?_ _; have := row_lit ((w1.alloc (.cells ((madeCells #[Value.bool false] n).setIfInBounds st (Value.bool true)) 4)).alloc (.cells (madeCells #[Value.int IntKind.i64 0] n) 3)) [vN st] 3 (by unfold maxLen; simp); simpa [vN] using this
   ·
    have := row_lit (((w1.alloc (.cells ((madeCells #[Value.bool false] n).setIfInBounds st (Value.bool true)) 4)).alloc (.cells (madeCells #[Value.int IntKind.i64 0] n) 3)).alloc (.cells #[Value.int IntKind.i64 st] 3)) [vN st] 3 (by unfold maxLen; simp); simpa [vN] using this
   ·
    have := hbw1.size; omega
  · exact bl_trans hbw1 (bl_trans (bl_trans (bl_trans (bl_alloc _ _) (bl_alloc _ _)) (bl_alloc _ _)) (bl_alloc _ _))
 case round =>
  obtain ⟨go, gp, co, cp, up, met, tried, order, opn, rfl, rfl, hm, hb, hI⟩ := hrel
  cases opn with
  | nil =>
   have hfin := hI.finish; have Hfin := Lib.hid hfin; clear hfin; have hbW := hb; have hmW := hm; go_wp2_with fail; rw [Exit.noGoto_ret]; go_ret2; rw [Hfin.out]; exact ⟨go, co, gu, rfl, hmW.ro, hmW.ru, hmW.lu, hmW.lo.2.2.2.1, hmW.lo.1, hmW.d1.2.2.1.symm, hbW⟩
  | cons v o =>
   have hvn : v < n := hI.inP v (by simp); obtain ⟨r', hr'⟩ : ∃ r', gk = r' + 1 := ⟨gk - 1, by have := hI.rank; simp at this; omega⟩
   subst hr'; have hop : wr.cell? ⟨gp, o.length, none⟩ = some (vN v) := by
    rw [hm.rp.cell? _ (by simp)]; simp
   have hol : o.length ≤ 400 := by have h1 := hI.rank; have h2 := hI.ol; rw [List.length_cons] at h1; omega
   have hzl : 0 ≤ (o.length : Int) := by omega
   obtain ⟨ro, hro⟩ : ∃ ro, bs[v]? = some ro := ⟨bs[v]'(by omega), by simp⟩
   have hgd : bs.getD v [] = ro := by simp [List.getD, hro]
   obtain ⟨hrl, hrx⟩ := hbs v ro hro; have hvl : vals.length = n := by rw [hrows.len]; simp [rowsV, hbl]
   obtain ⟨u, hu⟩ : ∃ u, vals[v]? = some u := ⟨vals[v]'(by omega), by simp⟩
   have hrv : (rowsV bs)[v]? = some (ro.map vN) := by simp [rowsV, hro]
   obtain ⟨au, cu, hush, hcu⟩ := Own.shape (hrows.own v u _ hu hrv); rw [List.length_map] at hush; subst hush; have Hgd := Lib.hid hgd; have Hro := Lib.hid hro; have Hvl := Lib.hid hvl; have Hu := Lib.hid hu; have Hrv := Lib.hid hrv; clear hgd hro hvl hu hrv; have hcG : w.cell? ⟨G, v, none⟩ = some (.slice au ro.length cu) := by rw [hrows.outer.cell? v (by rw [Hvl.out]; omega), Hu.out]
   have iv1 : (v : Int) < (n : Int) := by omega
   have iv2 : (0 : Int) ≤ (v : Int) := by omega
   have hco : order.length ≤ 500 := by have := hI.ol; omega
   simp only [vN] at hop; go_wp2_with fail
   go_loopg [9, 10] (ro.length + 1) (fun q vo vp wi => ∃ (tr : List Nat) (t : Nat), vo = .slice (some ⟨go, 0, none⟩) order.length co ∧ vp = .slice (some ⟨gp, 0, none⟩) (v :: o).length cp ∧
    WM wi w.heap.size gu w1.heap.size (w1.heap.size + 1) go gp co cp n up met tr order (v :: o) ∧ Below w.heap.size w wi ∧ WInv bs n (r' + 1) order (v :: o) up met tr (walkL bs st) ∧ tr[v]? = some t ∧ ro.length + 1 ≤ t + q)
   case atStart =>
    obtain ⟨t, ht, h1, h2⟩ := hI.triedS v hvn; exact ⟨tried, t, rfl, rfl, hm, hb, hI, ht, by omega⟩
   case round =>
    obtain ⟨tr, t, rfl, rfl, hm2, hb2, hI2, htr, hq⟩ := hrel; have htl : t ≤ ro.length := by
     obtain ⟨t', ht', h1, h2⟩ := hI2.triedS v hvn; rw [htr] at ht'; cases ht'; rw [Hgd.out] at h1; exact h1
    have hct : wr.cell? ⟨w1.heap.size + 1, v, none⟩ = some (.int .i64 t) := by rw [hm2.rt.cell? v (by simp [hm2.lt]; omega)]; simp [htr, vN]
    have hcG2 : wr.cell? ⟨G, v, none⟩ = some (.slice au ro.length cu) := keep_cell hb2 hcG; have hcu2 := hcu.below hb2; have Htr := Lib.hid htr; have Hq := Lib.hid hq; clear htr hq; have it0 : (0 : Int) ≤ (t : Int) := by omega
    by_cases hlt : t < ro.length
    ·
     obtain ⟨x, hx⟩ : ∃ x, ro[t]? = some x := ⟨ro[t], by simp⟩
     have hxn : x < n := hrx x (List.mem_of_getElem? hx); obtain ⟨b, o2, rfl, hcx⟩ := hcu2 t (vN x) (by simp [hx]); simp only [vN] at hcx; have hmx : met[x]? = some (order.contains x) := hI2.metS x hxn; have hcm : wr.cell? ⟨w1.heap.size, x, none⟩ = some (.bool (order.contains x)) := by rw [hm2.rm.cell? x (by simp [hm2.lm]; omega)]; simp only [List.getElem?_map, hmx]; rfl
     have Hx := Lib.hid hx; have Hmx := Lib.hid hmx; clear hx hmx; have it1 : (t : Int) < (ro.length : Int) := by omega
     have ix0 : (0 : Int) ≤ (x : Int) := by omega
     have ix1 : (x : Int) < (n : Int) := by omega
     have hft : wr.frozen? ⟨w1.heap.size + 1, v, none⟩ = false := hm2.rt.frozen v; go_wp2_with fail; go_quiet (fail)
     go_wp2_with fail; go_quiet (fail)
     go_upto_region 11 with (fail)
     generalize hN : wr.drewN _ = wd; have hbd : Below wr.heap.size wr wd := by rw [← hN]; exact below_drewN (Below.refl _ _) _
     have hmT := (hm2.ext hbd).set_tried v (t + 1); rw [show vN (t + 1) = Value.int .i64 ((t : Int) + 1) by simp [vN]] at hmT; have hbT : Below w.heap.size w (wd.setCell ⟨w1.heap.size + 1, v, none⟩ (Value.int .i64 ((t : Int) + 1))) := (bl_trans hb2 hbd).setCell (by simp; have := hbw1.size; omega) _; generalize wd.setCell ⟨w1.heap.size + 1, v, none⟩ (Value.int .i64 ((t : Int) + 1)) = wt at hmT hbT ⊢; clear hN hbd hcm hct hcG2 hcu2 hcx hft; have hcm : wt.cell? ⟨w1.heap.size, x, none⟩ = some (.bool (order.contains x)) := by rw [hmT.rm.cell? x (by simp [hmT.lm]; omega)]; simp only [List.getElem?_map, Hmx.out]; rfl
     cases hcon : order.contains x with
     | true =>
      rw [hcon] at hcm; have hI3 := hI2.next hvn hm2.lt Htr.out (by rw [Hgd.out]; exact Hx.out) (by simpa using hcon); clear hcon; go_wp2_with fail; go_roundg (gk - 1)
      case measure => have := Hq.out; omega
      case rel =>
       exact ⟨tr.set v (t + 1), t + 1, rfl, rfl, hmT, hbT, hI3, by rw [List.getElem?_set, if_pos rfl, if_pos (by rw [hm2.lt]; exact hvn)], by have := Hq.out; omega⟩
     | false =>
      rw [hcon] at hcm; have hI3 := hI2.push hvn hm2.lt Htr.out (by rw [Hgd.out]; exact Hx.out) hxn (by simpa using hcon); clear hcon; have hfm : wt.frozen? ⟨w1.heap.size, x, none⟩ = false := hmT.rm.frozen x; go_upto_region 12 with (fail)
      have hcu1 : ∃ y, wt.cell? ⟨gu, x, none⟩ = some y := ⟨_, hmT.ru.cell x (by simp [hmT.lu]; omega)⟩
      obtain ⟨y, hcu1⟩ := hcu1; have hcu3 : (wt.setCell ⟨w1.heap.size, x, none⟩ (.bool true)).cell? ⟨gu, x, none⟩ = some y := by rw [World.cell?_setCell_far _ _ _ _ (by simpa using hmT.d1.1.symm)]; exact hcu1
      have hmT2 := hmT.set_met x true; have hfu : (wt.setCell ⟨w1.heap.size, x, none⟩ (.bool true)).frozen? ⟨gu, x, none⟩ = false := hmT2.ru.frozen x; go_upto_region 13 with (fail)
      have hmT3 := hmT2.set_up x (v : Int); have hbT3 : Below w.heap.size w ((wt.setCell ⟨w1.heap.size, x, none⟩ (.bool true)).setCell ⟨gu, x, none⟩ (.int .i64 (v : Int))) := (hbT.setCell (by simpa using hbw1.size) _).setCell (by simpa using hmT.lo.1) _; generalize (wt.setCell ⟨w1.heap.size, x, none⟩ (.bool true)).setCell ⟨gu, x, none⟩ (.int .i64 (v : Int)) = ws at hmT3 hbT3 ⊢; clear hmT hmT2 hbT hcu1 hcu3 hfu hfm hcm hm2 hb2 hI2; have hown1 := (hmT3.ext (bl_alloc ws (.cells #[.int .i64 x] 3))).ro.own1; rw [List.length_map] at hown1; go_wp2_with (at_builtin; refine wpList_append_row _ rfl (.tmp 76) (.tmp 78) 25 rfl 3 (.int .i64 0) 1 8 Tryz.underlying25 int_info rfl _ _ _ rfl hown1 ⟨ws.heap.size, 0, none⟩ 1 1 [.int .i64 x] rfl rfl (one_new (by simp)) (one_ok _ _) (by omega) (by unfold maxLen; omega) (by omega) ?_); intro g1 c1 w2 hr1 hc1 hgr1 hor1; have hm4 := (hmT3.ext (bl_alloc ws (.cells #[.int .i64 x] 3))).push_order hr1 hgr1 (hor1.imp id (fun h => by simpa using h)); have hbT4 : Below w.heap.size w w2 := (bl_trans hbT3 (bl_alloc _ _)).grown hgr1 (by simp; have := hbT3.size; omega) (fun k hk => by cases hk; exact hmT3.lo.2.2.2.1); clear hmT3 hr1 hgr1 hor1 hown1 hbT3; have hown2 := (hm4.ext (bl_alloc w2 (.cells #[.int .i64 x] 3))).rp.own1; rw [List.length_map, List.length_reverse] at hown2; go_wp2_with (at_builtin; refine wpList_append_row _ rfl (.tmp 80) (.tmp 82) 25 rfl 3 (.int .i64 0) 1 8 Tryz.underlying25 int_info rfl _ _ _ rfl hown2 ⟨w2.heap.size, 0, none⟩ 1 1 [.int .i64 x] rfl rfl (one_new (by simp)) (one_ok _ _) (by omega) (by unfold maxLen; simp; omega) (by simp; omega) ?_)
      intro g2 c2 w3 hr2 hc2 hgr2 hor2; have hm5 := (hm4.ext (bl_alloc w2 (.cells #[.int .i64 x] 3))).push_open (x := x) (g := g2) (c := c2) (by simpa [vN] using hr2) hgr2 (hor2.imp id (fun h => by simpa using h)); have hbT5 : Below w.heap.size w w3 := (bl_trans hbT4 (bl_alloc _ _)).grown hgr2 (by simp; have := hbT4.size; omega) (fun k hk => by cases hk; exact hm4.lo.2.2.2.2); clear hm4 hr2 hgr2 hor2 hown2 hbT4; go_wp2_with fail; go_roundg r'
      case measure => omega
      case rel => exact ⟨g1, g2, c1, c2, _, _, _, order ++ [x], x :: v :: o, by simp, by simp, hm5, hbT5, hI3⟩
    ·
     have hcp : o.length + 1 ≤ cp := by have := hm2.rp.len_le; simpa using this
     have hI3 := hI2.pop hvn Htr.out (by rw [Hgd.out]; exact hlt); have hcp2 : (o.length : Int) ≤ (cp : Int) := by omega
     have hmP := hm2.pop; go_wp2_with fail; go_quiet (fail)
     go_wp2_with fail; go_roundg r'
     case measure => omega
     case rel =>
      exact ⟨go, gp, co, cp, up, met, tr, order, o, rfl, rfl, hmP.ext (below_drewN (Below.refl _ _) _), below_drewN hb2 _, hI3⟩
end Go.Proofs.YtagjdkkfmfombaaGreat
namespace Go.Proofs.YtagjdkkfmfombaaGreat
def away1 (d : Int) (s : List Int × List Nat) (x : Nat) : List Int × List Nat := if s.1.getD x 0 < 0 then (s.1.set x (d + 1), s.2 ++ [x]) else s
def awayRun (bs : List (List Nat)) : Nat → Nat → List Int × List Nat → List Int
 | 0, _, s => s.1
 | f + 1, i, s => match s.2[i]? with
  | some v => awayRun bs f (i + 1) ((bs.getD v []).foldl (away1 (s.1.getD v 0)) s)
  | none => s.1
def awayL (bs : List (List Nat)) (start : Nat) : List Int := awayRun bs (bs.length + 1) 0 ((List.replicate bs.length (-1)).set start 0, [start])
structure AInv (n : Nat) (s : List Int × List Nat) : Prop where
 lf : s.1.length = n
 inM : ∀ x ∈ s.2, x < n
 cnt : s.2.length + s.1.count (-1) = n
 val : ∀ (v : Nat) (x : Int), s.1[v]? = some x → x = -1 ∨ (0 ≤ x ∧ x < s.2.length)
 metF : ∀ v ∈ s.2, ∃ x : Int, s.1[v]? = some x ∧ 0 ≤ x
theorem count_set_ne {l : List Int} {x : Nat} {y : Int} (h : l[x]? = some (-1)) (hy : y ≠ -1) : (l.set x y).count (-1) + 1 = l.count (-1) := by
 obtain ⟨hx, h1⟩ := List.getElem?_eq_some_iff.1 h
 have h2 : 0 < l.count (-1) := List.count_pos_iff.2 (by rw [← h1]; exact List.getElem_mem hx)
 rw [List.count_set hx, h1]
 simp [hy]
 omega
theorem AInv.start {n st : Nat} (hst : st < n) : AInv n ((List.replicate n (-1)).set st 0, [st]) where
 lf := by simp
 inM x hx := by simp at hx; omega
 cnt := by
  have := count_set_ne (l := List.replicate n (-1)) (x := st) (y := 0) (by simp [hst]) (by omega)
  simp at this ⊢
  omega
 val v x hx := by
  simp only [List.getElem?_set] at hx
  split at hx
  ·
   split at hx
   · cases hx; right; simp
   · cases hx
  ·
   rw [List.getElem?_replicate] at hx; split at hx
   · cases hx; left; rfl
   · cases hx
 metF v hv := by simp at hv; subst hv; exact ⟨0, by simp [hst], by omega⟩
theorem AInv.step {n : Nat} {s : List Int × List Nat} (h : AInv n s) {d : Int} {x : Nat} (hx : x < n) (hd : 0 ≤ d) (hd2 : d < s.2.length) : AInv n (away1 d s x) := by
 unfold away1
 obtain ⟨y, hy⟩ : ∃ y, s.1[x]? = some y := ⟨s.1[x]'(by rw [h.lf]; exact hx), by simp⟩
 have hg : s.1.getD x 0 = y := by simp [List.getD, hy]
 rw [hg]
 split
 ·
  rename_i hneg
  obtain rfl : y = -1 := by rcases h.val x y hy with h1 | h1 <;> omega
  have hc := count_set_ne hy (y := d + 1) (by omega)
  refine ⟨by simpa using h.lf, ?_, ?_, ?_, ?_⟩
  ·
   intro z hz; rcases List.mem_append.1 hz with hz | hz
   · exact h.inM z hz
   · simp at hz; omega
  · have := h.cnt; simp only [List.length_append, List.length_cons, List.length_nil]; omega
  ·
   intro v z hz; simp only [List.getElem?_set] at hz; simp only [List.length_append, List.length_cons, List.length_nil]; split at hz
   ·
    split at hz
    · cases hz; right; omega
    · cases hz
   ·
    rcases h.val v z hz with h1 | h1
    · exact .inl h1
    · right; omega
  ·
   intro v hv; have hxl : x < s.1.length := by rw [h.lf]; exact hx
   by_cases hxv : x = v
   · subst hxv; exact ⟨d + 1, by simp [hxl], by omega⟩
   ·
    rcases List.mem_append.1 hv with hv | hv
    ·
     obtain ⟨z, h1, h2⟩ := h.metF v hv; exact ⟨z, by simp only [List.getElem?_set, if_neg hxv]; exact h1, h2⟩
    · simp at hv; omega
 · exact h
theorem AInv.le {n : Nat} {s : List Int × List Nat} (h : AInv n s) : s.2.length ≤ n := by have := h.cnt; omega
theorem awayRun_end {bs : List (List Nat)} {r i : Nat} {s : List Int × List Nat} (h : s.2.length ≤ i) : awayRun bs r i s = s.1 := by
 cases r with
 | zero => rfl
 | succ r => rw [awayRun, List.getElem?_eq_none h]
theorem away1_keep {d : Int} {s : List Int × List Nat} {x v : Nat} {y : Int} (hv : s.1[v]? = some y) (hy : 0 ≤ y) : (away1 d s x).1[v]? = some y := by
 unfold away1
 split
 ·
  rename_i h
  rw [List.getElem?_set]
  split
  · rename_i e; subst e; simp [List.getD, hv] at h; omega
  · exact hv
 · exact hv
theorem away1_met {d : Int} {s : List Int × List Nat} {x i v : Nat} (hv : s.2[i]? = some v) : (away1 d s x).2[i]? = some v := by
 unfold away1
 split
 · exact List.getElem?_append_left (List.getElem?_eq_some_iff.1 hv).1 ▸ hv
 · exact hv
end Go.Proofs.YtagjdkkfmfombaaGreat
namespace Go.Proofs.YtagjdkkfmfombaaGreat
open Go Go.RowKit
theorem beside_ok {n : Int} {m : Nat} {es : List (Int × Int)} (hm : n = m) (h : rightB n es = true) : ∀ (v : Nat) (r : List Nat), (besideL m es)[v]? = some r → r.length ≤ 1000 ∧ ∀ x ∈ r, x < m := by
 intro v r hr
 obtain ⟨h0, h1, h2, h3, _⟩ := (rightB_iff _ _).1 h
 rw [besideL_get] at hr
 split at hr
 ·
  cases hr
  refine ⟨by have := adj_len es v; omega, fun x hx => ?_⟩
  unfold adj at hx
  rw [List.mem_flatMap] at hx
  obtain ⟨e, he, hx⟩ := hx
  obtain ⟨k, hk, rfl⟩ := List.getElem_of_mem he
  have := h3 k hk
  unfold adj1 at hx
  split at hx
  · simp at hx; omega
  ·
   split at hx
   · simp at hx; omega
   · simp at hx
 · cases hr
theorem rdI_one {w : World} {b : Nat} {x : Int} (h : w.cell? ⟨b, 0, none⟩ = some (.int .i64 x)) : RdI w (some ⟨b, 0, none⟩) [x] := by
 intro i u hu
 cases i with
 | zero => simp at hu; subst hu; exact ⟨b, 0, rfl, h⟩
 | succ i => simp at hu
def RetWalkFn (w : World) (n : Int) (es : List (Int × Int)) (st : Int) (e : Ending) (w' : World) : Prop :=
 Below w.heap.size w w' ∧
 ((rightB n es = false ∧ e = .returned (.tuple #[.slice none 0 0, .slice none 0 0, .int .i64 20])) ∨
  (rightB n es = true ∧ inR n st = false ∧ e = .returned (.tuple #[.slice none 0 0, .slice none 0 0, .int .i64 2])) ∨
  (rightB n es = true ∧ inR n st = true ∧ ∃ go co gu, e = .returned (.tuple #[.slice (some ⟨go, 0, none⟩) (walkL (besideL n.toNat es) st.toNat).1.length co, .slice (some ⟨gu, 0, none⟩) n.toNat n.toNat, .int .i64 0]) ∧
   Row w' go 3 1 co ((walkL (besideL n.toNat es) st.toNat).1.map vN) ∧ Row w' gu 3 1 n.toNat ((walkL (besideL n.toNat es) st.toNat).2.map (Value.int .i64)) ∧ (walkL (besideL n.toNat es) st.toNat).2.length = n.toNat ∧
   w.heap.size ≤ go ∧ w.heap.size ≤ gu ∧ go ≠ gu))
set_option maxHeartbeats 1000000 in
theorem walkFn_walk (n : Int) (a : Option Addr) (cap : Nat) (es : List (Int × Int)) (st : Int) (w : World) (hr : RdP w a es) (hcap : es.length ≤ 9223372036854775807) :
  Calls Tryz.prog 118 #[.agg #[.int .i64 n, .slice a es.length cap], .int .i64 st] w (RetWalkFn w n es st) := by
 go_enter Tryz.func118, Tryz.ntmps118
 go_wp2_with fail
 refine (start_walk n a cap es _ [st] 1 _ ((hr.below (bl_alloc _ _)).below (bl_alloc _ _)) (rdI_one (by simp)) hcap (by simp)).mono ?_
 rintro e w1 ⟨hb1, hcase⟩
 have hB : Below w.heap.size w w1 := bl_trans (bl_trans (bl_alloc _ _) (bl_alloc _ _)) hb1
 rcases hcase with ⟨hright, rfl⟩ | ⟨hright, hin, rfl⟩ | ⟨hright, hin, G, vals, rfl, hG, hrows⟩
 ·
  have Hr := Lib.hid hright; clear hright
  go_wp2_with fail
  go_ret3
  exact ⟨hB, .inl ⟨Hr.out, rfl⟩⟩
 ·
  have Hr := Lib.hid hright; have Hin := Lib.hid hin; clear hright hin
  go_wp2_with fail
  go_ret3
  exact ⟨hB, .inr (.inl ⟨Hr.out, by simpa using Hin.out, rfl⟩)⟩
 ·
  have hin' : inR n st = true := by simpa using hin
  obtain ⟨h0, h1⟩ := (inR_iff _ _).1 hin'
  obtain ⟨m, rfl⟩ : ∃ m : Nat, n = m := ⟨n.toNat, by omega⟩
  obtain ⟨s, rfl⟩ : ∃ s : Nat, st = s := ⟨st.toNat, by omega⟩
  have hok := beside_ok (m := m) rfl hright
  obtain ⟨_, hn2, _⟩ := (rightB_iff _ _).1 hright
  rw [Int.toNat_natCast] at hrows
  have Hr := Lib.hid hright; have Hin := Lib.hid hin'; have Hok := Lib.hid hok; clear hright hin hin' hok
  simp only [Int.toNat_natCast]
  go_wp2_with (go_at_call 51; refine (walk_walk G m vals (besideL m es) s _ hrows (besideL_length _ _) Hok.out (by omega) (by omega)).mono ?_; rintro e w2 ⟨go, co, gu, rfl, hro, hru, hul, hgo, hgu, hne, hb2⟩)
  go_ret3
  refine ⟨bl_trans hB hb2, .inr (.inr ⟨Hr.out, Hin.out, go, co, gu, ?_, ?_, ?_, ?_, Nat.le_trans hB.size hgo, Nat.le_trans hB.size hgu, hne⟩)⟩
  · simp only [Int.toNat_natCast]; rfl
  · simpa using hro
  · simpa using hru
  · simpa using hul
end Go.Proofs.YtagjdkkfmfombaaGreat
namespace Go.Proofs.YtagjdkkfmfombaaGreat
def sortN (l : List Nat) : List Nat := l.mergeSort fun x y => decide (x ≤ y)
theorem sortN_cast (l : List Nat) : (l.map (fun (x : Nat) => (x : Int))).mergeSort (fun x y => decide (x ≤ y)) = (sortN l).map (fun (x : Nat) => (x : Int)) := by
 unfold sortN
 rw [List.map_mergeSort]
 intro a _ b _
 simp
theorem sortN_length (l : List Nat) : (sortN l).length = l.length := by simp [sortN]
def parts1 (bs : List (List Nat)) (s : List Nat × List (List Nat)) (v : Nat) : List Nat × List (List Nat) :=
 if s.1.contains v then s else (s.1 ++ (walkL bs v).1, s.2 ++ [sortN (walkL bs v).1])
def partsL (bs : List (List Nat)) : List (List Nat) := ((List.range bs.length).foldl (parts1 bs) ([], [])).2
theorem dfs_lt {bs : List (List Nat)} {n : Nat} (hn : ∀ (v : Nat) (r : List Nat), bs[v]? = some r → ∀ x ∈ r, x < n) : ∀ (f : Nat) (order opn : List Nat) (up : List Int), (∀ x ∈ order, x < n) → ∀ x ∈ (dfs bs f order opn up).1, x < n := by
 intro f
 induction f with
 | zero => intro order opn up h; exact h
 | succ f ih =>
  intro order opn up h
  cases opn with
  | nil => exact h
  | cons v o =>
   rw [dfs]; cases hf : fresh bs order v with
   | none => exact ih _ _ _ h
   | some x =>
    refine ih _ _ _ fun y hy => ?_; rcases List.mem_append.1 hy with hy | hy
    · exact h y hy
    ·
     simp at hy; subst hy; have := (fresh_some hf).1; simp only [List.getD] at this; cases hb : bs[v]? with
     | none => rw [hb] at this; simp at this
     | some r => rw [hb] at this; exact hn v r hb _ this
theorem dfs_len {bs : List (List Nat)} : ∀ (f : Nat) (order opn : List Nat) (up : List Int), (dfs bs f order opn up).1.length ≤ order.length + f := by
 intro f
 induction f with
 | zero => intro order opn up; simp [dfs]
 | succ f ih =>
  intro order opn up
  cases opn with
  | nil => simp [dfs]
  | cons v o =>
   rw [dfs]; cases hf : fresh bs order v with
   | none => have := ih order o up; simp only; omega
   | some x => have := ih (order ++ [x]) (x :: v :: o) (up.set x (v : Int)); simp at this ⊢; omega
theorem walkL_lt {bs : List (List Nat)} {n st : Nat} (hn : ∀ (v : Nat) (r : List Nat), bs[v]? = some r → ∀ x ∈ r, x < n) (hst : st < n) : ∀ x ∈ (walkL bs st).1, x < n :=
 dfs_lt hn _ _ _ _ (fun x hx => by simp at hx; omega)
theorem walkL_len {bs : List (List Nat)} {st : Nat} : (walkL bs st).1.length ≤ 2 * bs.length + 1 := by
 have := dfs_len (bs := bs) (2 * bs.length) [st] [st] (List.replicate bs.length (-1))
 unfold walkL; simp at this; omega
theorem parts1_len {bs : List (List Nat)} (s : List Nat × List (List Nat)) (v : Nat) : (parts1 bs s v).2.length ≤ s.2.length + 1 := by
 unfold parts1; split <;> simp
theorem parts_take_len {bs : List (List Nat)} (l : List Nat) (s : List Nat × List (List Nat)) : (l.foldl (parts1 bs) s).2.length ≤ s.2.length + l.length := by
 induction l generalizing s with
 | nil => simp
 | cons v l ih => have h1 := ih (parts1 bs s v); have h2 := parts1_len (bs := bs) s v; simp only [List.foldl_cons, List.length_cons]; omega
end Go.Proofs.YtagjdkkfmfombaaGreat
namespace Go.Proofs.YtagjdkkfmfombaaGreat
open Go Go.RowKit
theorem sort_row (g cap : Nat) (zs : List Int) (w : World) (h : Row w g 3 1 cap (zs.map (Value.int .i64))) (hsz : zs.length < 1000000) :
  Calls Tryz.prog 52 #[.slice (some ⟨g, 0, none⟩) zs.length cap] w fun e w' => e = .returned (.tuple #[]) ∧
   Row w' g 3 1 cap ((zs.mergeSort fun x y => decide (x ≤ y)).map (Value.int .i64)) ∧ w.grownBy w' (some g) := by
 obtain ⟨cur, hg, hs, hl, hm, ht⟩ := h
 have ht' : cur.toList.take zs.length = zs.map (Value.int .i64) := by simpa using ht
 have hH := holds_of_blockI (ss := zs) hg ht'
 refine (Tryz.slices_Sort_int g 0 cap zs w hH (Array.getElem?_eq_some_iff.1 hg).1 (by omega)).mono ?_
 rintro e w' ⟨rfl, n, os, rfl⟩
 refine ⟨rfl, ?_, grownBy_sortedI _⟩
 have hlen : (zs.mergeSort fun x y => decide (x ≤ y)).length = zs.length := by simp
 refine ⟨_, heap_sortedI _ hg, by simpa [Sort.putCells] using hs, by simpa [hlen] using hl, hm, ?_⟩
 rw [List.length_map]
 exact take_putCellsI cur _ (by simp at hl; omega)
theorem sort_rowN (g cap : Nat) (zs : List Nat) (w : World) (h : Row w g 3 1 cap (zs.map vN)) (hsz : zs.length < 1000000) :
  Calls Tryz.prog 52 #[.slice (some ⟨g, 0, none⟩) zs.length cap] w fun e w' => e = .returned (.tuple #[]) ∧
   Row w' g 3 1 cap ((sortN zs).map vN) ∧ w.grownBy w' (some g) := by
 rw [map_vN] at h
 have h1 := sort_row g cap (zs.map (fun (x : Nat) => (x : Int))) w h (by simpa using hsz)
 rw [List.length_map] at h1
 refine h1.mono ?_
 rintro e w' ⟨h2, h3, h4⟩
 refine ⟨h2, ?_, h4⟩
 rw [sortN_cast] at h3
 rw [map_vN]; exact h3
structure FRows (w : World) (B G : Nat) (tO e : TypeId) (cap : Nat) (vals : List Value) (rows : List (List Value)) : Prop where
 len : vals.length = rows.length
 outer : Row w G tO 1 cap vals
 row : ∀ (i : Nat) (u : Value) (r : List Value), vals[i]? = some u → rows[i]? = some r → ∃ g c, u = .slice (some ⟨g, 0, none⟩) r.length c ∧ Row w g e 1 c r ∧ B ≤ g ∧ g ≠ G
 apart : ∀ (i j g : Nat) (u v : Value), i ≠ j → vals[i]? = some u → vals[j]? = some v → u.ownBlock = some g → v.ownBlock ≠ some g
 lo : B ≤ G
namespace FRows
variable {w w' : World} {B G : Nat} {tO e : TypeId} {cap : Nat} {vals : List Value} {rows : List (List Value)}
theorem rowAt (h : FRows w B G tO e cap vals rows) {i : Nat} (hi : i < vals.length) : ∃ u r g c, vals[i]? = some u ∧ rows[i]? = some r ∧ u = .slice (some ⟨g, 0, none⟩) r.length c ∧ Row w g e 1 c r ∧ B ≤ g ∧ g ≠ G := by
 have h1 : vals[i]? = some vals[i] := by simp
 have h2 : rows[i]? = some (rows[i]'(by rw [← h.len]; exact hi)) := by simp
 obtain ⟨g, c, h3, h4, h5, h6⟩ := h.row i _ _ h1 h2
 exact ⟨_, _, g, c, h1, h2, h3, h4, h5, h6⟩
theorem lt (h : FRows w B G tO e cap vals rows) {i : Nat} {u : Value} {g : Nat} (hu : vals[i]? = some u) (hg : u.ownBlock = some g) : g < w.heap.size ∧ B ≤ g ∧ g ≠ G := by
 obtain ⟨u', r, g', c, h1, h2, rfl, h4, h5, h6⟩ := h.rowAt (List.getElem?_eq_some_iff.1 hu).1
 rw [hu] at h1
 cases h1
 have : some g' = some g := hg
 cases this
 exact ⟨h4.lt, h5, h6⟩
theorem grown (h : FRows w B G tO e cap vals rows) {k : Option Nat} (hg : w.grownBy w' k) (hk : k ≠ some G) (hne : ∀ (i g : Nat) (u : Value), vals[i]? = some u → u.ownBlock = some g → k ≠ some g) : FRows w' B G tO e cap vals rows :=
 { h with
  outer := h.outer.grown hg hk
  row := fun i u r hu hr => by
   obtain ⟨g, c, rfl, h4, h5, h6⟩ := h.row i u r hu hr
   exact ⟨g, c, rfl, h4.grown hg (hne i g _ hu rfl), h5, h6⟩ }
theorem ext (h : FRows w B G tO e cap vals rows) (hb : Below w.heap.size w w') : FRows w' B G tO e cap vals rows :=
 { h with
  outer := h.outer.below hb h.outer.lt
  row := fun i u r hu hr => by
   obtain ⟨g, c, rfl, h4, h5, h6⟩ := h.row i u r hu hr
   exact ⟨g, c, rfl, h4.below hb h4.lt, h5, h6⟩ }
theorem mono (h : FRows w B G tO e cap vals rows) {B' : Nat} (hB : B' ≤ B) : FRows w B' G tO e cap vals rows :=
 { h with
  row := fun i u r hu hr => by
   obtain ⟨g, c, h3, h4, h5, h6⟩ := h.row i u r hu hr
   exact ⟨g, c, h3, h4, by omega, h6⟩
  lo := by have := h.lo; omega }
theorem push (h : FRows w B G tO e cap vals rows) {g c : Nat} {r : List Value} (hr : Row w g e 1 c r) (hB : B ≤ g) (hG : g ≠ G) (hnew : ∀ (i : Nat) (u : Value), vals[i]? = some u → u.ownBlock ≠ some g)
  {G' cap' : Nat} (ho : Row w' G' tO 1 cap' (vals ++ [.slice (some ⟨g, 0, none⟩) r.length c])) (hgr : w.grownBy w' (some G)) (hG' : some G = some G' ∨ w.heap.size ≤ G') :
  FRows w' B G' tO e cap' (vals ++ [.slice (some ⟨g, 0, none⟩) r.length c]) (rows ++ [r]) := by
 have hne : ∀ k, k < w.heap.size → k ≠ G → k ≠ G' := fun k hk hkG e => by
  rcases hG' with h1 | h1
  · have := Option.some.inj h1; omega
  · omega
 have hnth : ∀ (i : Nat) (u : Value), (vals ++ [.slice (some ⟨g, 0, none⟩) r.length c])[i]? = some u → (i < vals.length ∧ vals[i]? = some u) ∨ (i = vals.length ∧ u = .slice (some ⟨g, 0, none⟩) r.length c) := by
  intro i u hu
  by_cases hi : i < vals.length
  · rw [List.getElem?_append_left hi] at hu; exact .inl ⟨hi, hu⟩
  ·
   have h1 := (List.getElem?_eq_some_iff.1 hu).1; simp at h1; obtain rfl : i = vals.length := by omega
   simp at hu; exact .inr ⟨rfl, hu.symm⟩
 refine ⟨by simp [h.len], ho, ?_, ?_, ?_⟩
 ·
  intro i u r' hu hr'
  rcases hnth i u hu with ⟨hi, hu'⟩ | ⟨rfl, rfl⟩
  ·
   rw [List.getElem?_append_left (by rw [← h.len]; exact hi)] at hr'; obtain ⟨g', c', rfl, h4, h5, h6⟩ := h.row i u r' hu' hr'; exact ⟨g', c', rfl, h4.grown hgr (by simp; exact fun e => h6 e.symm), h5, hne g' h4.lt h6⟩
  ·
   rw [h.len] at hr'; simp at hr'; subst hr'; exact ⟨g, c, rfl, hr.grown hgr (by simp; exact fun e => hG e.symm), hB, hne g hr.lt hG⟩
 ·
  intro i j k u v hij hu hv hk
  rcases hnth i u hu with ⟨hi, hu'⟩ | ⟨hi, rfl⟩
  ·
   rcases hnth j v hv with ⟨hj, hv'⟩ | ⟨hj, rfl⟩
   · exact h.apart i j k u v hij hu' hv' hk
   ·
    intro e; have : some g = some k := e; cases this; exact hnew i u hu' hk
  ·
   rcases hnth j v hv with ⟨hj, hv'⟩ | ⟨hj, rfl⟩
   ·
    have : some g = some k := hk; cases this; exact hnew j v hv'
   · omega
 ·
  rcases hG' with h1 | h1
  · have := Option.some.inj h1; have := h.lo; omega
  · have := h.outer.lt; have := h.lo; omega
end FRows
end Go.Proofs.YtagjdkkfmfombaaGreat
namespace Go.Proofs.YtagjdkkfmfombaaGreat
open Go Go.RowKit
def RetPartsFn (w : World) (n : Int) (es : List (Int × Int)) (e : Ending) (w' : World) : Prop :=
 Below w.heap.size w w' ∧
 ((rightB n es = false ∧ e = .returned (.slice none 0 0)) ∨
  (rightB n es = true ∧ ∃ G c vals, e = .returned (.slice (some ⟨G, 0, none⟩) (partsL (besideL n.toNat es)).length c) ∧ FRows w' w.heap.size G 25 3 c vals (rowsV (partsL (besideL n.toNat es)))))
theorem seen_set {met : List Bool} {seen : List Nat} {n x : Nat} (hl : met.length = n) (h : ∀ y, y < n → met[y]? = some (seen.contains y)) : ∀ y, y < n → (met.set x true)[y]? = some ((seen ++ [x]).contains y) := by
 intro y hy
 rw [List.getElem?_set]
 by_cases hxy : x = y
 · subst hxy; rw [if_pos rfl, if_pos (by omega)]; simp
 · rw [if_neg hxy, h y hy]; simp [Ne.symm hxy]
set_option maxHeartbeats 2000000 in
theorem partsFn_walk (n : Int) (a : Option Addr) (cap : Nat) (es : List (Int × Int)) (w : World) (hr : RdP w a es) (hcap : es.length ≤ 9223372036854775807) :
  Calls Tryz.prog 32 #[.agg #[.int .i64 n, .slice a es.length cap]] w (RetPartsFn w n es) := by
 go_enter Tryz.func32, Tryz.ntmps32
 go_wp2_with fail
 refine (start_walk n a cap es none [] 0 _ (hr.below (bl_alloc _ _)) (by intro i u hu; simp at hu) hcap (by simp)).mono ?_
 rintro e w1 ⟨hb1, hcase⟩
 have hB : Below w.heap.size w w1 := bl_trans (bl_alloc _ _) hb1
 obtain ⟨c0, c1⟩ : w1.cell? ⟨w.heap.size, 0, none⟩ = some (.int .i64 n) ∧ w1.cell? ⟨w.heap.size, 1, none⟩ = some (.slice a es.length cap) := ⟨keep_cell hb1 (by simp), keep_cell hb1 (by simp)⟩
 have hz1 : w.heap.size < w1.heap.size := by have := hb1.size; simp at this; omega
 rcases hcase with ⟨hright, rfl⟩ | ⟨hright, hin, rfl⟩ | ⟨hright, hin, G, vals, rfl, hG, hrows⟩
 ·
  have Hr := Lib.hid hright; clear hright
  go_wp2_with fail
  go_ret
  exact ⟨hB, .inl ⟨Hr.out, rfl⟩⟩
 · simp at hin
 ·
  obtain ⟨h0, hn2, _⟩ := (rightB_iff _ _).1 hright
  obtain ⟨m, rfl⟩ : ∃ m : Nat, n = m := ⟨n.toNat, by omega⟩
  have hok := beside_ok (m := m) rfl hright
  rw [Int.toNat_natCast] at hrows
  obtain ⟨bs, hbs⟩ : ∃ bs, bs = besideL m es := ⟨_, rfl⟩
  have hbl : bs.length = m := by rw [hbs, besideL_length]
  rw [← hbs] at hrows hok
  have Hr := Lib.hid hright; have Hok := Lib.hid hok; have Hbs := Lib.hid hbs; have Hbl := Lib.hid hbl; clear hright hok hbs hbl hin
  have hmb := run_make_row' (P := Tryz.prog) 88 4 (.bool false) 1 Tryz.underlying88 bool_info rfl .i64 .i64 m (by omega) (by omega)
  go_wp2_with fail
  have hGl : G < w1.heap.size := hrows.outer.lt
  go_loopg [5, 25] m (fun r vp vi wr => ∃ (v gp cp : Nat) (pv : List Value) (met : List Bool) (s : List Nat × List (List Nat)), vp = .slice (some ⟨gp, 0, none⟩) s.2.length cp ∧ vi = .int .i64 v ∧ v + r = m ∧
   s = (List.range v).foldl (parts1 bs) ([], []) ∧ FRows wr w1.heap.size gp 25 3 cp pv (rowsV s.2) ∧ Row wr (w1.heap.size + 1) 4 1 m (met.map Value.bool) ∧ met.length = m ∧
   (∀ y, y < m → met[y]? = some (s.1.contains y)) ∧ Below w1.heap.size w1 wr ∧ gp ≠ w1.heap.size + 1 ∧ (∀ (i : Nat) (u : Value), pv[i]? = some u → u.ownBlock ≠ some (w1.heap.size + 1)))
  case atStart =>
   refine ⟨0, w1.heap.size, 0, [], List.replicate m false, ([], []), rfl, rfl, by omega, rfl, ?_, ?_, by simp, ?_, ?_, by omega, by simp⟩
   ·
    refine ⟨rfl, ?_, ?_, ?_, Nat.le_refl _⟩
    ·
     refine Row.alloc ?_ _; have := row_new w1 #[] 25 1 0 rfl (by unfold maxLen; omega); simpa using this
    · intro i u r hu; simp at hu
    · intro i j g u v _ hu; simp at hu
   ·
    have := row_made (w1.alloc (.cells #[] 25)) (.bool false) m 4 (by unfold maxLen; omega); simpa using this
   · intro y hy; simp [hy]
   · exact bl_trans (bl_alloc _ _) (bl_alloc _ _)
  case round =>
   obtain ⟨v, gp, cp, pv, met, s, rfl, rfl, hvr, hs, hfr, hrm, hml, hmet, hb2, hne, hpv⟩ := hrel; have hz2 : w1.heap.size + 1 < wr.heap.size := hrm.lt; by_cases hlt : v < m
   ·
    have hsl : s.2.length ≤ v := by rw [hs]; have := parts_take_len (bs := bs) (List.range v) ([], []); simpa using this
    have hmv := hmet v hlt; have hcm : wr.cell? ⟨w1.heap.size + 1, v, none⟩ = some (.bool (s.1.contains v)) := by rw [hrm.cell? v (by simp; omega)]; simp only [List.getElem?_map, hmv]; rfl
    have hsn : (List.range (v + 1)).foldl (parts1 bs) ([], []) = parts1 bs s v := by rw [List.range_succ, List.foldl_append, ← hs]; rfl
    have Hsn := Lib.hid hsn; have Hs := Lib.hid hs; have Hmv := Lib.hid hmv; have Hmet := Lib.hid hmet; have Hml := Lib.hid hml; have Hvr := Lib.hid hvr; clear hsn hs hmv hmet hml hvr; have iv0 : (0 : Int) ≤ (v : Int) := by omega
    have iv1 : (v : Int) < (m : Int) := by omega
    cases hcon : s.1.contains v with
    | true =>
     rw [hcon] at hcm; have hp1 : parts1 bs s v = s := by unfold parts1; rw [if_pos hcon]
     have Hp1 := Lib.hid hp1; clear hp1 hcon; go_wp2_with fail; go_roundg (gk - 1)
     case measure => have := Hvr.out; omega
     case rel => exact ⟨v + 1, gp, cp, pv, met, s, rfl, by go_num, by have := Hvr.out; omega, by rw [Hsn.out, Hp1.out], hfr, hrm, Hml.out, Hmet.out, hb2, hne, hpv⟩
    | false =>
     rw [hcon] at hcm; have hp1 : parts1 bs s v = (s.1 ++ (walkL bs v).1, s.2 ++ [sortN (walkL bs v).1]) := by unfold parts1; rw [hcon]; rfl
     have hpl : (walkL bs v).1.length ≤ 401 := by have := walkL_len (bs := bs) (st := v); rw [Hbl.out] at this; omega
     have hpx : ∀ x ∈ (walkL bs v).1, x < m := walkL_lt (fun v r h => (Hok.out v r h).2) hlt; have Hp1 := Lib.hid hp1; have Hpx := Lib.hid hpx; clear hp1 hcon hpx; go_wp2_with (go_at_call 51; refine (walk_walk G m vals bs v _ (hrows.below hb2) Hbl.out Hok.out hlt (by omega)).mono ?_; rintro e w2 ⟨go, co, gu, rfl, hro, hru, hul, hgo, hgu, hneg, hb3⟩); have hrm2 := hrm.below hb3 hrm.lt; obtain ⟨part, hpart⟩ : ∃ part, part = (walkL bs v).1 := ⟨_, rfl⟩
     rw [← hpart] at hpl hro; simp only [← hpart]; have hpx : ∀ x ∈ part, x < m := by rw [hpart]; exact Hpx.out
     have Hpart := Lib.hid hpart; clear hpart; have hz3 : wr.heap.size ≤ w2.heap.size := hb3.size
     go_loopg [40] part.length (fun q vj wi => ∃ (j : Nat) (mt : List Bool), vj = .int .i64 j ∧ j + q = part.length ∧ w2.grownBy wi (some (w1.heap.size + 1)) ∧ Row wi (w1.heap.size + 1) 4 1 m (mt.map Value.bool) ∧ mt.length = m ∧
      (∀ y, y < m → mt[y]? = some ((s.1 ++ part.take j).contains y)))
     case atStart => exact ⟨0, met, rfl, by omega, World.grownBy.refl _ _, hrm2, Hml.out, by simpa using Hmet.out⟩
     case round =>
      obtain ⟨j, mt, rfl, hjq, hgr, hrm3, hmtl, hmt⟩ := hrel; by_cases hjl : j < part.length
      ·
       obtain ⟨x, hx⟩ : ∃ x, part[j]? = some x := ⟨part[j], by simp⟩
       have hxm := hpx x (List.mem_of_getElem? hx); have hro2 := hro.grown hgr (by simp; omega); have hcx : wr.cell? ⟨go, j, none⟩ = some (.int .i64 x) := by rw [hro2.cell? j (by simpa using hjl)]; simp [hx, vN]
       have hcy : ∃ y, wr.cell? ⟨w1.heap.size + 1, x, none⟩ = some y := ⟨_, hrm3.cell x (by simp; omega)⟩
       obtain ⟨y, hcy⟩ := hcy; have hfx : wr.frozen? ⟨w1.heap.size + 1, x, none⟩ = false := hrm3.frozen x; have hmt2 : ∀ y, y < m → (mt.set x true)[y]? = some ((s.1 ++ part.take (j + 1)).contains y) := by
        have h := seen_set hmtl hmt (x := x); have e : s.1 ++ part.take (j + 1) = s.1 ++ part.take j ++ [x] := by
         rw [List.take_succ_eq_append_getElem hjl, List.append_assoc]; rw [List.getElem?_eq_getElem hjl] at hx; cases hx; rfl
        rw [e]; exact h
       have hrm4 := hrm3.set x (.bool true); rw [← List.map_set] at hrm4; have Hmt2 := Lib.hid hmt2; have Hx := Lib.hid hx; have Hjq := Lib.hid hjq; have Hmtl := Lib.hid hmtl; clear hmt2 hx hmt hjq hmtl; have ix0 : (0 : Int) ≤ (x : Int) := by omega
       have ix1 : (x : Int) < (m : Int) := by omega
       go_wp2_with fail; go_roundg (gk - 1)
       case measure => have := Hjq.out; omega
       case rel => exact ⟨j + 1, mt.set x true, by go_num, by have := Hjq.out; omega, grownBy_trans hgr (grownBy_set _ _ _ _), hrm4, by simpa using Hmtl.out, Hmt2.out⟩
      ·
       have hj : part.take j = part := List.take_of_length_le (by omega); rw [hj] at hmt; have Hmt := Lib.hid hmt; have Hmtl := Lib.hid hmtl; clear hmt hj hmtl; have hro2 := hro.grown hgr (by simp; omega); have hfr2 := (hfr.ext hb3).grown hgr (by simp; exact fun e => hne e.symm) (fun i g u hu hg e => hpv i u hu (by rw [hg]; exact e.symm)); have hsz : w2.heap.size ≤ wr.heap.size := hgr.size; go_upto_region 17 with (go_at_call 52; refine (sort_rowN go co part _ hro2 (by omega)).mono ?_; rintro e w4 ⟨rfl, hro4, hgr4⟩)
       have hlt2 : ∀ (i g : Nat) (u : Value), pv[i]? = some u → u.ownBlock = some g → g < go := fun i g u hu hg => by
        have := (hfr.lt hu hg).1; omega
       have hgpl : gp < go := by have := hfr.outer.lt; omega
       have hfr4 := hfr2.grown hgr4 (by simp; omega) (fun i g u hu hg e => by have := hlt2 i g u hu hg; have := Option.some.inj e; omega); have hrm5 := hrm3.grown hgr4 (by simp; omega); have hb5 : Below w1.heap.size w1 w4 := ((bl_trans hb2 hb3).grown hgr (by omega) (fun k hk => by cases hk; omega)).grown hgr4 (by omega) (fun k hk => by cases hk; omega); have hz4 : wr.heap.size ≤ w4.heap.size := hgr4.size; have hpvl : pv.length = s.2.length := by rw [hfr.len]; simp [rowsV]
       have hown := (hfr4.outer.alloc (.cells #[.slice (some ⟨go, 0, none⟩) part.length co] 25)).own1; rw [hpvl] at hown; go_wp2_with (at_builtin; refine wpList_append_row _ rfl (.tmp 50) (.tmp 52) 59 rfl 25 (.slice none 0 0) 1 24 Tryz.underlying59 ints_info rfl _ _ _ rfl hown ⟨w4.heap.size, 0, none⟩ 1 1 [.slice (some ⟨go, 0, none⟩) part.length co] rfl rfl (one_new (by simp)) (by intro u hu; simp at hu; subst hu; rfl) (by omega) (by unfold maxLen; omega) (by omega) ?_); intro g1 c1 w5 hr1 hc1 hgr1 hor1; have hrl : ((sortN part).map vN).length = part.length := by simp [sortN_length]
       have hext : Below w4.heap.size w4 (w4.alloc (.cells #[.slice (some ⟨go, 0, none⟩) part.length co] 25)) := bl_alloc _ _; have hpush := (hfr4.ext hext).push (hro4.alloc _) (by omega) (by omega) (fun i u hu e => by have := hlt2 i go u hu e; omega) (by rw [hrl]; exact hr1) hgr1 (hor1.imp id (fun h => by simpa using h)); have hrm6 := (hrm5.alloc (.cells #[.slice (some ⟨go, 0, none⟩) part.length co] 25)).grown hgr1 (by simp [Value.ownBlock]; exact hne); have hb6 : Below w1.heap.size w1 w5 := (bl_trans hb5 hext).grown hgr1 (by simp; omega) (fun k hk => by cases hk; exact hfr.lo); have hg1 : g1 ≠ w1.heap.size + 1 := by
        rcases hor1 with h | h
        ·
         have h' : some gp = some g1 := h; have := Option.some.inj h'; omega
        · omega
       clear hfr4 hfr2 hown hr1 hgr1 hor1 hro2 hro4 hgr4 hgr hrm5 hrm3 hrm2 hfr hb5 hext; go_wp2_with fail; go_roundg (m - (v + 1))
       case measure => have := Hvr.out; omega
       case rel =>
        refine ⟨v + 1, g1, c1, pv ++ [.slice (some ⟨go, 0, none⟩) part.length co], mt, (s.1 ++ part, s.2 ++ [sortN part]), by simp, by go_num, by omega, ?_, ?_, hrm6, Hmtl.out, Hmt.out, hb6, hg1, ?_⟩
        · rw [Hsn.out, Hp1.out, ← Hpart.out]
        ·
         have h := hpush; rw [hrl] at h; simpa [rowsV] using h
        ·
         intro i u hu; by_cases hi : i < pv.length
         · rw [List.getElem?_append_left hi] at hu; exact hpv i u hu
         ·
          have h1 := (List.getElem?_eq_some_iff.1 hu).1; simp at h1; obtain rfl : i = pv.length := by omega
          simp at hu; subst hu; intro e; have h' : some go = some (w1.heap.size + 1) := e; have := Option.some.inj h'; omega
   ·
    have hvm : v = m := by omega
    subst hvm; have Hs := Lib.hid hs; clear hs; have hz0 : w.heap.size ≤ w1.heap.size := by omega
    go_wp2_with fail; go_ret; refine ⟨bl_trans hB hb2, .inr ⟨Hr.out, gp, cp, pv, ?_, ?_⟩⟩
    · simp only [Int.toNat_natCast]; rw [← Hbs.out]; unfold partsL; rw [Hbl.out, ← Hs.out]; rfl
    · simp only [Int.toNat_natCast]; rw [← Hbs.out]; unfold partsL; rw [Hbl.out, ← Hs.out]; exact hfr.mono hz0
end Go.Proofs.YtagjdkkfmfombaaGreat
namespace Go.Proofs.YtagjdkkfmfombaaGreat
open Go Go.RowKit
theorem run_make_room {P : Program} (t e : TypeId) (z : Value) (s bytes : Nat) (ht : P.underlying t = some (.slice e)) (hinfo : (P.info? e).map (fun i => (i.zero, i.size, i.bytes)) = some (some z, s, bytes))
  (c : Nat) (hbytes : bytes * c ≤ 281474976710656) (h63 : c ≤ 9223372036854775807) (w : World) :
  (Instr.makeSlice t (.int .i64 0) (.int .i64 (c : Int))).run P w = .ok (.slice (some ⟨w.heap.size, 0, none⟩) 0 c) (w.alloc (.cells (madeCells z.cells (c * s)) e)) := by
 obtain ⟨i, hi, hz, hs, hb⟩ := info_parts hinfo
 have hb' : (i.bytes : Int) * (c : Int) ≤ 281474976710656 := by
  have h : ((i.bytes * c : Nat) : Int) ≤ 281474976710656 := by rw [hb]; omega
  rwa [Int.natCast_mul] at h
 have hr := run_make (P := P) w t e i z ht hi hz .i64 .i64 0 c (Int.le_refl _) (by omega) hb' (by omega)
 simp only [Int.toNat_zero, Int.toNat_natCast, hs] at hr
 exact hr
theorem row_room (w : World) (z : Value) (c s : Nat) (e : TypeId) (hm : c ≤ maxLen) : Row (w.alloc (.cells (madeCells z.cells (c * s)) e)) w.heap.size e s c [] := by
 have := (row_new w (madeCells z.cells (c * s)) e s c (by simp [size_madeCells]) hm).take 0
 simpa using this
theorem news_lit (W : World) (t : TypeId) (vs : List Value) : ∀ (j : Nat) v, vs[j]? = some v → (W.alloc (.cells vs.toArray t)).cell? ((⟨W.heap.size, 0, none⟩ : Addr).add j) = some v := by
 intro j v h
 rw [Addr.add_lit, Nat.zero_add]
 have h1 : (W.alloc (.cells vs.toArray t)).heap[W.heap.size]? = some (.cells vs.toArray t) := heap_alloc_new W _
 unfold World.cell?
 rw [h1]
 simpa using h
theorem byte_info : (Tryz.prog.info? 5).map (fun i => (i.zero, i.size, i.bytes)) = some (some (.int .u8 0), 1, 1) := by kernel_rfl
def byteV (b : Int) : Value := .int .u8 b
def four (n : Int) : List Int := [n / 16777216 % 256, n / 65536 % 256, n / 256 % 256, n % 256]
def bytesL (l : List Int) : List Int := l.flatMap four
theorem bytesL_len (l : List Int) : (bytesL l).length = 4 * l.length := by
 induction l with
 | nil => rfl
 | cons a l ih => simp only [bytesL, List.flatMap_cons, List.length_append, List.length_cons] at ih ⊢; simp only [four, List.length_cons, List.length_nil]; omega
theorem four_walk (n : Int) (w : World) :
  Calls Tryz.prog 46 #[.int .i64 n] w fun e w' => e = .returned (.agg #[.int .u8 (n / 16777216 % 256), .int .u8 (n / 65536 % 256), .int .u8 (n / 256 % 256), .int .u8 (n % 256)]) ∧ Below w.heap.size w w' := by
 go_enter Tryz.func46, Tryz.ntmps46
 go_wp2_with fail
 refine bodyPost_ret (v := .agg #[.int .u8 (n / 16777216 % 256), .int .u8 (n / 65536 % 256), .int .u8 (n / 256 % 256), .int .u8 (n % 256)]) ?_ rfl ⟨rfl, bl_alloc w _⟩
 simp [results, Tryz.results46, go_sem]
def RetBy (w : World) (l : List Int) (e : Ending) (w' : World) : Prop :=
 ∃ g c, e = .returned (.slice (some ⟨g, 0, none⟩) l.length c) ∧ Row w' g 5 1 c (l.map byteV) ∧ l.length ≤ c ∧ w.heap.size ≤ g ∧ Below w.heap.size w w'
set_option maxHeartbeats 1000000 in
theorem bytes_walk (a : Option Addr) (cap : Nat) (xs : List Int) (w : World) (hr : RdI w a xs) (hl : xs.length ≤ 1000000) :
  Calls Tryz.prog 27 #[.slice a xs.length cap] w (RetBy w (bytesL xs)) := by
 have hmk := fun w => run_make_room (P := Tryz.prog) 28 5 (.int .u8 0) 1 1 Tryz.underlying28 byte_info (4 * xs.length) (by omega) (by omega) w
 rw [show ((4 * xs.length : Nat) : Int) = 4 * (xs.length : Int) from rfl] at hmk
 have hrm := row_room w (.int .u8 0) (4 * xs.length) 1 5 (by unfold maxLen; omega)
 have Hrm := Lib.hid hrm
 clear hrm
 go_enter Tryz.func27, Tryz.ntmps27
 go_wp2_with fail
 go_loopg [3, 13] xs.length (fun r ov iv wj => ∃ (k g c : Nat), k + r = xs.length ∧ iv = .int .i64 k ∧ ov = .slice (some ⟨g, 0, none⟩) (4 * k) c ∧ Row wj g 5 1 c ((bytesL (xs.take k)).map byteV) ∧ 4 * k ≤ c ∧ w.heap.size ≤ g ∧ Below w.heap.size w wj)
 case atStart => exact ⟨0, _, _, by omega, rfl, rfl, by have := Hrm.out; rw [Nat.mul_one] at this; exact this, by omega, Nat.le_refl _, bl_alloc w _⟩
 case round =>
  clear Hrm hmk
  obtain ⟨k, g, c, hk, rfl, rfl, hrow, hc, hg, hB⟩ := hrel
  by_cases hkl : k < xs.length
  ·
   obtain ⟨b, o, rfl, hx⟩ := (hr.below hB).at k hkl; obtain ⟨x, hxe⟩ : ∃ x, xs[k] = x := ⟨_, rfl⟩
   rw [hxe] at hx; have i1 : (k : Int) < (xs.length : Int) := by omega
   have hst : (bytesL (xs.take (k + 1))).map byteV = (bytesL (xs.take k)).map byteV ++ [.int .u8 (x / 16777216 % 256), .int .u8 (x / 65536 % 256), .int .u8 (x / 256 % 256), .int .u8 (x % 256)] := by
    rw [List.take_succ_eq_append_getElem hkl, hxe]; unfold bytesL; rw [List.flatMap_append, List.map_append]; rfl
   have hlen : ((bytesL (xs.take k)).map byteV).length = 4 * k := by rw [List.length_map, bytesL_len, List.length_take]; omega
   have Hst := Lib.hid hst; have Hk := Lib.hid hk; have hglt := hrow.lt; clear hst hxe hk; go_wp2_with fail; refine (four_walk x _).mono ?_; rintro e w1 ⟨rfl, hb1⟩; have hB1 := bl_trans hB hb1; have hrow1 := hrow.below hb1 hglt; have HB := Lib.hid (bl_trans hB1 (bl_alloc w1 (.cells #[.int .u8 (x / 16777216 % 256), .int .u8 (x / 65536 % 256), .int .u8 (x / 256 % 256), .int .u8 (x % 256)] 100))); clear hrow hx hB hb1 hB1; go_wp2_with (at_builtin; go_loud (refine wpList_append_row _ rfl (.tmp 19) (.tmp 20) 28 rfl 5 (.int .u8 0) 1 1 Tryz.underlying28 byte_info rfl (.slice (some ⟨g, 0, none⟩) (4 * k) c) (4 * k) _ rfl ((hrow1.alloc _).own (by rw [hlen]; omega) hc) ⟨w1.heap.size, 0, none⟩ 4 4 [.int .u8 (x / 16777216 % 256), .int .u8 (x / 65536 % 256), .int .u8 (x / 256 % 256), .int .u8 (x % 256)] rfl rfl (news_lit w1 _ [_, _, _, _]) (by intro u hu; simp at hu; rcases hu with rfl | rfl | rfl | rfl <;> rfl) (by omega) (by unfold maxLen; omega) (by omega) ?_; intro g3 c3 w3 hr3 hc3 hg3 hor3)); have hg3' : w.heap.size ≤ g3 := by
    have h2 := HB.out.size; rcases hor3 with h | h
    · cases h; exact hg
    · omega
   have hB3 := HB.out.grown hg3 HB.out.size (fun j hj => by cases hj; exact hg); rw [← Hst.out] at hr3; have HB3 := Lib.hid hB3; have Hr3 := Lib.hid hr3; clear hr3 hg3 hor3 hB3; go_wp2_with fail; go_roundg (gk - 1)
   case measure => have := Hk.out; omega
   case rel => exact ⟨k + 1, g3, c3, by have := Hk.out; omega, by go_num, by rw [show 4 * k + 4 = 4 * (k + 1) by omega], Hr3.out, by omega, hg3', HB3.out⟩
  ·
   have hkn : k = xs.length := by omega
   subst hkn; rw [List.take_length] at hrow; go_wp2_with fail; go_ret; exact ⟨g, c, by rw [bytesL_len]; rfl, hrow, by rw [bytesL_len]; exact hc, hg, hB⟩
def tintsB (ts : List Int) (n : Int) : Bool := decide ((ts.length : Int) = n) && ts.all fun t => decide (0 ≤ t) && decide (t < 1073741824)
theorem tints_walk (a : Option Addr) (cap : Nat) (ts : List Int) (n : Int) (w : World) (hr : RdI w a ts) (hl : ts.length ≤ 9223372036854775807) :
  Calls Tryz.prog 31 #[.slice a ts.length cap, .int .i64 n] w fun e w' => e = .returned (.bool (tintsB ts n)) ∧ w = w' := by
 by_cases hn : (ts.length : Int) = n
 ·
  subst hn
  have hd : tintsB ts ts.length = ts.all fun t => decide (0 ≤ t) && decide (t < 1073741824) := by unfold tintsB; simp
  rw [hd]
  clear hd
  go_enter Tryz.func31, Tryz.ntmps31
  go_wp2_with fail
  go_loopg [13] ts.length (fun r iv wj => ∃ k : Nat, k + r = ts.length ∧ iv = .int .i64 k ∧ (∀ j (h : j < ts.length), j < k → 0 ≤ ts[j] ∧ ts[j] < 1073741824) ∧ w = wj)
  case atStart => exact ⟨0, by omega, rfl, fun j _ h => absurd h (by omega), rfl⟩
  case round =>
   obtain ⟨k, hk, rfl, hall, rfl⟩ := hrel; have Hk := Lib.hid hk; have Hall := Lib.hid hall; clear hall; by_cases hkl : k < ts.length
   ·
    obtain ⟨b, o, rfl, hx⟩ := hr.at k hkl; obtain ⟨x, hxe⟩ : ∃ x, ts[k] = x := ⟨_, rfl⟩
    rw [hxe] at hx; have i1 : (k : Int) < (ts.length : Int) := by omega
    have Hxe := Lib.hid hxe; clear hxe hk; have hno : ¬ (0 ≤ x ∧ x < 1073741824) → false = ts.all fun t => decide (0 ≤ t) && decide (t < 1073741824) := fun h => by
     symm; rw [List.all_eq_false]; exact ⟨ts[k], List.getElem_mem hkl, by rw [Hxe.out]; simp; omega⟩
    have Hno := Lib.hid hno; clear hno; by_cases h0 : x < 0
    ·
     go_wp2_with fail; go_ret; exact ⟨by rw [← Hno.out (by omega)]; rfl, rfl⟩
    ·
     by_cases h1 : 1073741824 ≤ x
     ·
      go_wp2_with fail; go_ret; exact ⟨by rw [← Hno.out (by omega)]; rfl, rfl⟩
     ·
      go_wp2_with fail; go_roundg (gk - 1)
      case measure => have := Hk.out; omega
      case rel =>
       refine ⟨k + 1, by have := Hk.out; omega, by go_num, fun j hj hjk => ?_, rfl⟩; by_cases e : j = k
       · subst e; rw [Hxe.out]; omega
       · exact Hall.out j hj (by omega)
   ·
    have hkn : k = ts.length := by omega
    have hyes : true = ts.all fun t => decide (0 ≤ t) && decide (t < 1073741824) := by
     symm; rw [List.all_eq_true]; intro x hx; obtain ⟨j, hj, rfl⟩ := List.getElem_of_mem hx; have := Hall.out j hj (by omega); simp; omega
    have Hyes := Lib.hid hyes; clear hyes; go_wp2_with fail; go_ret; exact ⟨by rw [← Hyes.out]; rfl, rfl⟩
 ·
  have q1 : ((ts.length : Int) != n) = true := by simp [hn]
  have hd : tintsB ts n = false := by unfold tintsB; simp [hn]
  rw [hd]
  clear hd hn
  go_enter Tryz.func31, Tryz.ntmps31
  go_wp2_with fail
  go_ret
  exact ⟨rfl, rfl⟩
def orderB (o : List Int) (n : Int) : Bool := decide ((o.length : Int) = n) && (o.all fun v => decide (0 ≤ v) && decide (v < n)) && decide o.Nodup
set_option maxHeartbeats 1000000 in
theorem order_walk (a : Option Addr) (cap : Nat) (os : List Int) (n : Int) (w : World) (hr : RdI w a os) (hl : os.length ≤ 1000000) :
  Calls Tryz.prog 33 #[.slice a os.length cap, .int .i64 n] w fun e w' => e = .returned (.bool (orderB os n)) ∧ Below w.heap.size w w' := by
 by_cases hn : (os.length : Int) = n
 ·
  subst hn
  have hmb := run_make_row' (P := Tryz.prog) 88 4 (.bool false) 1 Tryz.underlying88 bool_info rfl .i64 .i64 os.length (by omega) (by omega)
  have hrm := row_made w (.bool false) os.length 4 (by unfold maxLen; omega)
  have Hrm := Lib.hid hrm
  clear hrm
  obtain ⟨n, hnn⟩ : ∃ n, n = os.length := ⟨_, rfl⟩
  go_enter Tryz.func33, Tryz.ntmps33
  go_wp2_with fail
  go_loopg [16] os.length (fun r iv wj => ∃ k : Nat, k + r = os.length ∧ iv = .int .i64 k ∧ (∀ j (h : j < os.length), j < k → 0 ≤ os[j] ∧ os[j] < os.length) ∧ (os.take k).Nodup ∧
   Row wj w.heap.size 4 1 os.length ((List.range os.length).map fun v : Nat => Value.bool (decide ((v : Int) ∈ os.take k))) ∧ Below w.heap.size w wj)
  case atStart => exact ⟨0, by omega, rfl, fun j _ h => absurd h (by omega), by simp, by have := Hrm.out; rw [show (List.range os.length).map (fun v : Nat => Value.bool (decide ((v : Int) ∈ os.take 0))) = List.replicate os.length (.bool false) by simp [List.eq_replicate_iff]]; exact this, bl_alloc w _⟩
  case round =>
   clear Hrm hmb; obtain ⟨k, hk, rfl, hall, hnd, hrow, hB⟩ := hrel; have Hk := Lib.hid hk; have Hall := Lib.hid hall; have Hnd := Lib.hid hnd; have Hrow := Lib.hid hrow; have HB := Lib.hid hB; by_cases hkl : k < os.length
   ·
    obtain ⟨b, o, rfl, hx⟩ := (hr.below hB).at k hkl; obtain ⟨x, hxe⟩ : ∃ x, os[k] = x := ⟨_, rfl⟩
    rw [hxe] at hx; have i1 : (k : Int) < (os.length : Int) := by omega
    have Hxe := Lib.hid hxe; have htk : os.take (k + 1) = os.take k ++ [x] := by rw [List.take_succ_eq_append_getElem hkl, hxe]
    have Htk := Lib.hid htk; clear hall hnd hxe hk htk hB; have hno : ¬ (0 ≤ x ∧ x < os.length) → orderB os os.length = false := fun h => by
     unfold orderB; have : (os.all fun v => decide (0 ≤ v) && decide (v < (os.length : Int))) = false := by
      rw [List.all_eq_false]; exact ⟨os[k], List.getElem_mem hkl, by rw [Hxe.out]; simp; omega⟩
     rw [this]; simp
    have Hno := Lib.hid hno; clear hno; by_cases h0 : x < 0
    ·
     clear hrow; go_wp2_with fail; go_ret; exact ⟨by rw [Hno.out (by omega)]; rfl, HB.out⟩
    ·
     by_cases h1 : (os.length : Int) ≤ x
     ·
      clear hrow; go_wp2_with fail; go_ret; exact ⟨by rw [Hno.out (by omega)]; rfl, HB.out⟩
     ·
      obtain ⟨y, rfl⟩ : ∃ y : Nat, x = y := ⟨x.toNat, by omega⟩
      have hyl : y < os.length := by omega
      have hcell : wr.cell? ⟨w.heap.size, y, none⟩ = some (.bool (decide ((y : Int) ∈ os.take k))) := by
       rw [hrow.cell? y (by simpa using hyl)]; simp [hyl]
      have hfz := hrow.frozen y; obtain ⟨t, ht⟩ : ∃ t, t = decide ((y : Int) ∈ os.take k) := ⟨_, rfl⟩
      rw [← ht] at hcell; have Ht := Lib.hid ht; clear hrow ht; cases t with
      | true =>
       have hbad : orderB os os.length = false := by
        unfold orderB; have hm : (y : Int) ∈ os.take k := of_decide_eq_true Ht.out.symm; have : ¬ os.Nodup := fun hnd => by
         obtain ⟨j, hj, hje⟩ := List.mem_take_iff_getElem.1 hm; have hj2 := Nat.lt_min.1 hj; have h2 := (List.getElem?_inj (i := j) (j := k) hj2.2 hnd).1 (by rw [List.getElem?_eq_getElem hj2.2, List.getElem?_eq_getElem hkl, hje, Hxe.out]); omega
        simp [this]
       have Hbad := Lib.hid hbad; clear hbad; go_wp2_with fail; go_ret; exact ⟨by rw [Hbad.out]; rfl, HB.out⟩
      | false =>
       have hnm : (y : Int) ∉ os.take k := of_decide_eq_false Ht.out.symm; have hnx : (os.take (k + 1)).Nodup := by rw [Htk.out, List.nodup_append]; exact ⟨Hnd.out, by simp, fun a ha b hb e => by simp at hb; subst hb; subst e; exact hnm ha⟩
       have hrx : Row (wr.setCell ⟨w.heap.size, y, none⟩ (.bool true)) w.heap.size 4 1 os.length ((List.range os.length).map fun v : Nat => Value.bool (decide ((v : Int) ∈ os.take (k + 1)))) := by
        have h2 := Hrow.out.set y (.bool true); have e : ((List.range os.length).map fun v : Nat => Value.bool (decide ((v : Int) ∈ os.take k))).set y (.bool true) = (List.range os.length).map fun v : Nat => Value.bool (decide ((v : Int) ∈ os.take (k + 1))) := by
         apply List.ext_getElem?; intro i; rw [List.getElem?_set]; simp only [List.length_map, List.length_range, List.getElem?_map]; by_cases hi : i < os.length
         ·
          rw [List.getElem?_range hi, Htk.out]; by_cases e : y = i
          · subst e; simp [hi]
          ·
           have : ((i : Nat) : Int) ≠ (y : Int) := by omega
           simp [e, this]
         ·
          rw [List.getElem?_eq_none (l := List.range os.length) (by simpa using hi)]; simp; omega
        rw [e] at h2; exact h2
       have hBx := HB.out.setCell (p := ⟨w.heap.size, y, none⟩) (Nat.le_refl _) (.bool true); have Hnx := Lib.hid hnx; have Hrx := Lib.hid hrx; have HBx := Lib.hid hBx; clear hnx hrx hBx hnm; go_wp2_with fail; go_roundg (gk - 1)
       case measure => have := Hk.out; omega
       case rel =>
        refine ⟨k + 1, by have := Hk.out; omega, by go_num, fun j hj hjk => ?_, Hnx.out, Hrx.out, HBx.out⟩; by_cases e : j = k
        · subst e; rw [Hxe.out]; omega
        · exact Hall.out j hj (by omega)
   ·
    have hkn : k = os.length := by omega
    subst hkn; rw [List.take_length] at hnd; have hyes : orderB os os.length = true := by
     unfold orderB; have : (os.all fun v => decide (0 ≤ v) && decide (v < (os.length : Int))) = true := by
      rw [List.all_eq_true]; intro x hx; obtain ⟨j, hj, rfl⟩ := List.getElem_of_mem hx; have := hall j hj hj; simp; omega
     rw [this]; simp [hnd]
    have Hyes := Lib.hid hyes; clear hyes hrow hnd hall; go_wp2_with fail; go_ret; exact ⟨by rw [Hyes.out]; rfl, HB.out⟩
 ·
  have q1 : ((os.length : Int) != n) = true := by simp [hn]
  have hd : orderB os n = false := by unfold orderB; simp [hn]
  rw [hd]
  clear hd hn
  go_enter Tryz.func33, Tryz.ntmps33
  go_wp2_with fail
  go_ret
  exact ⟨rfl, bl_refl w⟩
end Go.Proofs.YtagjdkkfmfombaaGreat
