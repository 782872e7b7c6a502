/- Facts that the claim rests on, part 8. -/
import Derived.Test.YtagjdkkfmfombaaGreatKB06
namespace Go.Proofs.YtagjdkkfmfombaaGreat
open Go Go.RowKit Go.Maps
theorem TreeV.parts {n : Nat} {es : List (Int × Int)} (h : TreeV n es) : (partsL (besideL n es)).length = 1 := by
 rw [partsL_eq h.right, List.length_map]
 have : headsL n es = [0] := by
  unfold headsL
  obtain ⟨k, rfl⟩ : ∃ k, n = k + 1 := ⟨n - 1, by have := h.pos; omega⟩
  rw [List.range_succ_eq_map, List.filter_cons, if_pos (by rw [isHead_iff]; intro u hu; omega)]
  congr 1
  rw [List.filter_eq_nil_iff]
  intro v hv
  obtain ⟨u, hu, rfl⟩ := List.mem_map.1 hv
  rw [isHead_iff]
  intro hh
  exact hh 0 (by omega) (h.all _ (by have := List.mem_range.1 hu; omega))
 rw [this]; rfl
def link1 (cuts : List Nat) (e : Int × Int) (i m : Nat) : List (Int × Int) := ((List.range m).filter fun j : Nat => (cuts[j]?.map fun v => decide ((v : Int) = e.1 ∨ (v : Int) = e.2)).getD false).map fun j : Nat => ((i : Int), (j : Int))
def linksT (es : List (Int × Int)) (cuts : List Nat) (k : Nat) : List (Int × Int) := (List.range k).flatMap fun i => link1 cuts (es.getD i (0, 0)) i cuts.length
theorem linksT_succ (es : List (Int × Int)) (cuts : List Nat) (k : Nat) : linksT es cuts (k + 1) = linksT es cuts k ++ link1 cuts (es.getD k (0, 0)) k cuts.length := by
 unfold linksT
 rw [List.range_succ, List.flatMap_append]; simp
theorem link1_succ (cuts : List Nat) (e : Int × Int) (i : Nat) {j v : Nat} (hv : cuts[j]? = some v) : link1 cuts e i (j + 1) = link1 cuts e i j ++ if (v : Int) = e.1 ∨ (v : Int) = e.2 then [((i : Int), (j : Int))] else [] := by
 unfold link1
 rw [List.range_succ, List.filter_append, List.map_append]
 congr 1
 by_cases h : (v : Int) = e.1 ∨ (v : Int) = e.2
 · rw [if_pos h]; simp [hv, h]
 · rw [if_neg h]; simp [hv, h]
theorem link1_len (cuts : List Nat) (e : Int × Int) (i m : Nat) : (link1 cuts e i m).length ≤ m := by
 unfold link1
 rw [List.length_map]
 have := List.length_filter_le (fun j : Nat => (cuts[j]?.map fun v => decide ((v : Int) = e.1 ∨ (v : Int) = e.2)).getD false) (List.range m)
 simpa using this
theorem linksT_len (es : List (Int × Int)) (cuts : List Nat) (k : Nat) : (linksT es cuts k).length ≤ k * cuts.length := by
 induction k with
 | zero => simp [linksT]
 | succ k ih =>
  rw [linksT_succ, List.length_append]
  have := link1_len cuts (es.getD k (0, 0)) k cuts.length
  rw [Nat.succ_mul]; omega
def inV (n x y : Nat) (k : Nat) : List Value := (List.range n).map fun v => Value.bool (decide (k = 1 ∧ (v = x ∨ v = y)))
theorem inV_len (n x y k : Nat) : (inV n x y k).length = n := by simp [inV]
theorem inV_get {n x y k v : Nat} (hv : v < n) : (inV n x y k)[v]? = some (.bool (decide (k = 1 ∧ (v = x ∨ v = y)))) := by simp [inV, hv]
theorem inV_set (n x y : Nat) : ((inV n x y 0).set x (.bool true)).set y (.bool true) = inV n x y 1 := by
 apply List.ext_getElem?
 intro i
 simp only [List.getElem?_set, List.length_set, inV_len]
 by_cases hi : i < n
 ·
  rw [inV_get hi, inV_get hi]
  by_cases e1 : y = i
  · subst e1; simp [hi]
  ·
   by_cases e2 : x = i
   · subst e2; simp [hi, e1]
   · simp [e1, e2, Ne.symm e1, Ne.symm e2]
 ·
  rw [List.getElem?_eq_none (l := inV n x y 0) (by rw [inV_len]; omega), List.getElem?_eq_none (l := inV n x y 1) (by rw [inV_len]; omega)]
  have h1 : ¬ (i < n) := hi
  split
  · rw [if_neg (by omega)]
  ·
   split
   · rw [if_neg (by omega)]
   · rfl
def RetBt (w : World) (bs : List (List (Int × Int))) (cuts : List Nat) (links : List (Int × Int)) (e : Ending) (w' : World) : Prop :=
 ∃ a1 c1 a2 c2 a3 c3, e = .returned (.tuple #[.agg #[.slice a1 bs.length c1, .slice a2 cuts.length c2, .slice a3 links.length c3], .int .i64 0]) ∧ RdB w' a1 bs ∧ CellsAt w' a2 (cuts.map vN) ∧ RdP w' a3 links ∧
  bs.length ≤ c1 ∧ cuts.length ≤ c2 ∧ links.length ≤ c3 ∧ Below w.heap.size w w'
theorem keep3 {w : World} {B : Nat} {x0 x1 x2 : Value} (hb : ∀ i, i < 3 → w.cell? ⟨B, i, none⟩ = some (.slice none 0 0)) {p : Addr} {v : Value} (h : w.cell? p = some v) (hv : v ≠ .slice none 0 0) :
  (((w.setCell ⟨B, 0, none⟩ x0).setCell ⟨B, 1, none⟩ x1).setCell ⟨B, 2, none⟩ x2).cell? p = some v := by
 have hne : ∀ i, i < 3 → (⟨B, i, none⟩ : Addr) ≠ p := fun i hi e => by
  rw [← e, hb i hi] at h
  exact hv (Option.some.inj h).symm
 rw [World.cell?_setCell_other _ _ _ _ (hne 2 (by omega)), World.cell?_setCell_other _ _ _ _ (hne 1 (by omega)), World.cell?_setCell_other _ _ _ _ (hne 0 (by omega)), h]
theorem CellsAt.keep3 {w : World} {B : Nat} {x0 x1 x2 : Value} (hb : ∀ i, i < 3 → w.cell? ⟨B, i, none⟩ = some (.slice none 0 0)) {a : Option Addr} {vs : List Value} (h : CellsAt w a vs) (hv : ∀ v ∈ vs, v ≠ .slice none 0 0) :
  CellsAt (((w.setCell ⟨B, 0, none⟩ x0).setCell ⟨B, 1, none⟩ x1).setCell ⟨B, 2, none⟩ x2) a vs := fun i u hu => by
 obtain ⟨b, o, h1, h2⟩ := h i u hu
 exact ⟨b, o, h1, Go.Proofs.YtagjdkkfmfombaaGreat.keep3 hb h2 (hv u (List.mem_of_getElem? hu))⟩
theorem pairCells_ints (es : List (Int × Int)) : ∀ v ∈ pairCells es, v ≠ .slice none 0 0 := fun v hv => by
 simp only [pairCells, List.mem_flatMap] at hv
 obtain ⟨e, -, he⟩ := hv
 simp at he
 rcases he with rfl | rfl <;> simp
theorem RdB.keep3 {w : World} {B : Nat} {x0 x1 x2 : Value} (hb : ∀ i, i < 3 → w.cell? ⟨B, i, none⟩ = some (.slice none 0 0)) {a : Option Addr} {bs : List (List (Int × Int))} (h : RdB w a bs) (hn : ∀ q ∈ bs, q ≠ []) :
  RdB (((w.setCell ⟨B, 0, none⟩ x0).setCell ⟨B, 1, none⟩ x1).setCell ⟨B, 2, none⟩ x2) a bs := fun i q hq => by
 obtain ⟨b, o, au, cu, h1, h2, h3, h4⟩ := h i q hq
 refine ⟨b, o, au, cu, h1, Go.Proofs.YtagjdkkfmfombaaGreat.keep3 hb h2 ?_, CellsAt.keep3 hb h3 (pairCells_ints q), h4⟩
 intro e
 have := hn q (List.mem_of_getElem? hq)
 simp only [Value.slice.injEq] at e
 exact this (List.length_eq_zero_iff.1 e.2.1)
set_option maxRecDepth 100000 in
set_option maxHeartbeats 4000000 in
theorem btree_walk (n : Nat) (a : Option Addr) (cap : Nat) (es : List (Int × Int)) (w : World) (hr : RdP w a es) (hcap : es.length ≤ 9223372036854775807) (ht : TreeV n es) (h2 : 2 ≤ n) :
  Calls Tryz.prog 34 #[.agg #[.int .i64 n, .slice a es.length cap]] w (RetBt w (es.map fun e => [e]) (cutsT (walkL (besideL n es) 0).1 (walkL (besideL n es) 0).2 n) (linksT es (cutsT (walkL (besideL n es) 0).1 (walkL (besideL n es) 0).2 n) es.length)) := by
 have hbw := fun w hr => blocksT_walk n a cap es w hr hcap ht
 have hcw := fun w hr => cutsT_walk n a cap es w hr hcap ht
 have hright := ht.right
 have hparts := ht.parts
 obtain ⟨cuts, hcu⟩ : ∃ c, c = cutsT (walkL (besideL n es) 0).1 (walkL (besideL n es) 0).2 n := ⟨_, rfl⟩
 have hcl : ∀ v ∈ cuts, v < n := fun v hv => by rw [hcu] at hv; unfold cutsT at hv; exact List.mem_range.1 (List.mem_filter.1 hv).1
 have hcn : cuts.length ≤ n := by
  rw [hcu]; unfold cutsT
  have := List.length_filter_le (cutB (walkL (besideL n es) 0).1 (walkL (besideL n es) 0).2 n) (List.range n)
  simpa using this
 rw [← hcu]
 simp only [← hcu] at hcw
 have hn200 : n ≤ 200 := by have := ((rightB_iff n es).1 hright).2.1; omega
 have hedge := ((rightB_iff n es).1 hright).2.2.2.1
 have hel : es.length + 1 = n := ht.len
 have Hbw := Lib.hid hbw; have Hcw := Lib.hid hcw; have Hright := Lib.hid hright; have Hparts := Lib.hid hparts; have Hedge := Lib.hid hedge; have Hcl := Lib.hid hcl
 clear hbw hcw hright hparts hedge hcl hcu ht
 have hb0 := bl_trans (bl_alloc w (.cells #[.int .i64 n, .slice a es.length cap] 24)) (bl_alloc _ (.cells #[.slice none 0 0, .slice none 0 0, .slice none 0 0] 78))
 obtain ⟨w0, hw0⟩ : ∃ w0, w0 = (w.alloc (.cells #[.int .i64 n, .slice a es.length cap] 24)).alloc (.cells #[.slice none 0 0, .slice none 0 0, .slice none 0 0] 78) := ⟨_, rfl⟩
 have k0 : w0.cell? ⟨w.heap.size, 0, none⟩ = some (.int .i64 n) := by rw [hw0]; exact keep_cell (bl_alloc _ _) (by simp)
 have k1 : w0.cell? ⟨w.heap.size, 1, none⟩ = some (.slice a es.length cap) := by rw [hw0]; exact keep_cell (bl_alloc _ _) (by simp)
 have hs0 : w0.heap.size = w.heap.size + 2 := by rw [hw0]; simp
 have hbt : ∀ i, i < 3 → w0.cell? ⟨w.heap.size + 1, i, none⟩ = some (.slice none 0 0) := fun i hi => by
  have e : (w.alloc (.cells #[.int .i64 n, .slice a es.length cap] 24)).heap.size = w.heap.size + 1 := by simp
  rw [hw0, ← e]
  match i, hi with
  | 0, _ => simp
  | 1, _ => simp
  | 2, _ => simp
 have hbf : ∀ i, w0.frozen? ⟨w.heap.size + 1, i, none⟩ = false := fun i => by
  have e : (w.alloc (.cells #[.int .i64 n, .slice a es.length cap] 24)).heap.size = w.heap.size + 1 := by simp
  rw [hw0, ← e]; simp
 rw [← hw0] at hb0
 have hr0 := hr.below hb0
 have Hw0 := Lib.hid hw0; have Hb0 := Lib.hid hb0
 clear hw0 hb0
 go_enter Tryz.func34, Tryz.ntmps34
 go_upto_region 1 with (fail)
 rw [← Hw0.out]
 go_wp2_with fail
 refine (right_walk n a cap es _ hr0 hcap).mono ?_
 rw [Hright.out]
 rintro e w1 ⟨rfl, hb1⟩
 have k01 := keep_cell hb1 k0
 have k11 := keep_cell hb1 k1
 have hr1 := hr0.below hb1
 have hq : ((es.length : Int) == 0) = false := by rw [beq_eq_false_iff_ne]; omega
 go_wp2_with fail
 refine (partsFn_walk n a cap es _ hr1 hcap).mono ?_
 rintro e w2 ⟨hb2, ⟨hno, -⟩ | ⟨-, G, cg, pvals, rfl, -⟩⟩
 · rw [Hright.out] at hno; cases hno
 simp only [Int.toNat_natCast]
 rw [Hparts.out]
 have k02 := keep_cell hb2 k01
 have k12 := keep_cell hb2 k11
 have hr2 := hr1.below hb2
 go_wp2_with fail
 refine (Hbw.out _ hr2).mono ?_
 rintro e w3 ⟨ab, cb, rfl, hrb, hcb, hb3⟩
 rw [List.length_map] at hcb ⊢
 have k03 := keep_cell hb3 k02
 have k13 := keep_cell hb3 k12
 have hr3 := hr2.below hb3
 go_wp2_with fail
 refine (Hcw.out _ hr3).mono ?_
 rintro e w4 ⟨gc, cc, rfl, hrc, hcc, hgc, hb4⟩
 have k04 := keep_cell hb4 k03
 have hrb4 : RdB w4 ab (es.map fun e => [e]) := hrb.below hb4
 have hb04 := bl_trans hb1 (bl_trans hb2 (bl_trans hb3 hb4))
 have hrl : Row (w4.alloc (.cells #[] 51)) w4.heap.size 51 2 0 (pairCells (linksT es cuts 0)) := by
  have := row_new w4 #[] 51 2 0 rfl (by unfold maxLen; omega)
  simpa [linksT, pairCells] using this
 have hbt4 : ∀ i, i < 3 → w4.cell? ⟨w.heap.size + 1, i, none⟩ = some (.slice none 0 0) := fun i hi => keep_cell hb04 (hbt i hi)
 have hbf4 : ∀ i, w4.frozen? ⟨w.heap.size + 1, i, none⟩ = false := fun i => by rw [hb04.frozen (p := ⟨w.heap.size + 1, i, none⟩) (by show w.heap.size + 1 < _; omega)]; exact hbf i
 have hw4 : w.heap.size + 2 ≤ w4.heap.size := by have := hb04.size; omega
 have hgc4 := hrc.lt
 have hB4 := bl_trans Hb0.out hb04
 have Hrb := Lib.hid hrb4; have Hrc := Lib.hid hrc; have Hrl := Lib.hid hrl; have HB4 := Lib.hid hB4; have Hbt := Lib.hid hbt4
 clear hrb hrb4 hrc hrl hB4 hb04 hb1 hb2 hb3 hb4 hbt hbt4 hbf k0 k1 k01 k11 k02 k12 k03 k13 hr0 hr1 hr2 hr3 Hbw Hcw
 go_wp2_with fail
 go_loopg [7, 51] es.length (fun r ov iv wj => ∃ (k g c : Nat), k + r = es.length ∧ iv = .int .i64 k ∧ ov = .slice (some ⟨g, 0, none⟩) (linksT es cuts k).length c ∧ Row wj g 51 2 c (pairCells (linksT es cuts k)) ∧ (linksT es cuts k).length ≤ c ∧ w4.heap.size ≤ g ∧ Below w4.heap.size w4 wj)
 case atStart => exact ⟨0, w4.heap.size, 0, by omega, rfl, rfl, Hrl.out, by simp [linksT], Nat.le_refl _, bl_alloc _ _⟩
 case round =>
  clear Hrl
  obtain ⟨k, g, c, hk, rfl, rfl, hrl, hlc, hg, hB⟩ := hrel
  have Hk := Lib.hid hk; have Hrl := Lib.hid hrl; have HB := Lib.hid hB
  by_cases hkl : k < es.length
  ·
   obtain ⟨bb, ob, au, cu, rfl, hcb1, hrb1, hcu1, hcu2⟩ := (Hrb.out.below hB) k [es[k]] (by rw [List.getElem?_map, List.getElem?_eq_getElem hkl]; rfl); simp only [List.length_cons, List.length_nil, Nat.zero_add] at hcb1 hcu1; obtain ⟨b3, o3, rfl, hx0, hx1⟩ := hrb1.at 0 (by simp); simp only [List.getElem_cons_zero, Nat.zero_mul, Nat.add_zero] at hx0 hx1; obtain ⟨q1, q2, q3⟩ := Hedge.out k hkl; obtain ⟨x, hx⟩ : ∃ x : Nat, es[k].1 = (x : Int) := ⟨es[k].1.toNat, by omega⟩
   obtain ⟨y, hy⟩ : ∃ y : Nat, es[k].2 = (y : Int) := ⟨es[k].2.toNat, by omega⟩
   rw [hx] at hx0 q1 q2; rw [hy] at hx1 q2 q3; have hxe : es.getD k (0, 0) = ((x : Int), (y : Int)) := by rw [List.getD_eq_getElem?_getD, List.getElem?_eq_getElem hkl]; exact Prod.ext hx hy
   have hlen := linksT_len es cuts k; have hlen2 : k * cuts.length ≤ 200 * 200 := Nat.mul_le_mul (by omega) (by omega); have kN := keep_cell hB k04; have hst := linksT_succ es cuts k; rw [hxe] at hst; have hmk := run_make_row' (P := Tryz.prog) 88 4 (.bool false) 1 Tryz.underlying88 bool_info rfl .i64 .i64 n (by omega) (by omega); obtain ⟨wo, rfl⟩ : ∃ wo : World, wo = wr := ⟨_, rfl⟩
   have hrm : Row (wo.alloc (.cells (madeCells #[.bool false] n) 4)) wo.heap.size 4 1 n (inV n x y 0) := by
    have := row_made wo (.bool false) n 4 (by unfold maxLen; omega); rwa [show inV n x y 0 = List.replicate n (.bool false) by simp [inV, List.eq_replicate_iff]]
   have hbm := bl_alloc wo (.cells (madeCells #[.bool false] n) 4); have hglt := hrl.lt; have i1 : (k : Int) < (es.length : Int) := by omega
   have i2 : (x : Int) < (n : Int) := by omega
   have i3 : (y : Int) < (n : Int) := by omega
   have hrl2 := hrl; have Hrm := Lib.hid hrm; have Hbm := Lib.hid hbm; have Hst := Lib.hid hst; have Hrl2 := Lib.hid hrl2; have Hxe := Lib.hid hxe; have Hx0 := Lib.hid hx0; have Hx1 := Lib.hid hx1; clear hrb1 hx hy hxe hst hrm hbm hrl hrl2 hk hB hcu2 hx0 hx1; go_wp2_with fail; go_loopg [61] 1 (fun r iv wj => ∃ q : Nat, q + r = 1 ∧ iv = .int .i64 q ∧ Row wj wo.heap.size 4 1 n (inV n x y q) ∧ Below wo.heap.size wo wj)
   case atStart => exact ⟨0, by omega, rfl, Hrm.out, Hbm.out⟩
   case round =>
    clear Hrm Hbm; obtain ⟨q, hq, rfl, hir, hbw⟩ := hrel; by_cases hq0 : q < 1
    ·
     obtain rfl : q = 0 := by omega
     have y0 := keep_cell hbw Hx0.out; have y1 := keep_cell hbw Hx1.out; have hir2 := (hir.set x (.bool true)).set y (.bool true); rw [inV_set] at hir2; have hbx := bl_alloc wr (.cells #[.int .i64 x, .int .i64 y] 51); have hlt := hir.lt; have hfr : ∀ i, wr.frozen? ⟨wo.heap.size, i, none⟩ = false := fun i => hir.frozen i; obtain ⟨vx, hvx⟩ : ∃ v, wr.cell? ⟨wo.heap.size, x, none⟩ = some v := ⟨_, hir.cell x (by rw [inV_len]; omega)⟩
     obtain ⟨vy, hvy⟩ : ∃ v, wr.cell? ⟨wo.heap.size, y, none⟩ = some v := ⟨_, hir.cell y (by rw [inV_len]; omega)⟩
     go_wp2_with fail; generalize hwb : wr.alloc (.cells #[.int .i64 x, .int .i64 y] 51) = wb at *
     have z0 : wb.cell? ⟨wr.heap.size, 0, none⟩ = some (.int .i64 x) := by rw [← hwb]; simp
     have z1 : wb.cell? ⟨wr.heap.size, 1, none⟩ = some (.int .i64 y) := by rw [← hwb]; simp
     have zx := keep_cell hbx hvx; have zy := keep_cell hbx hvy; have zf : ∀ i, wb.frozen? ⟨wo.heap.size, i, none⟩ = false := fun i => (hbx.frozen (p := ⟨wo.heap.size, i, none⟩) hlt).trans (hfr i); have hirb := hir.below hbx hlt; have hBb := bl_trans hbw hbx; have Hirb := Lib.hid hirb; have HBb := Lib.hid hBb; have Hwb := Lib.hid hwb; clear hwb hirb hBb hir hir2 hbx hbw hvx hvy y0 y1 hfr; refine regionT (fun w' => w'.cell? ⟨wr.heap.size, 0, none⟩ = some (.int .i64 x) ∧ w'.cell? ⟨wr.heap.size, 1, none⟩ = some (.int .i64 y)) 8 (by kernel_rfl) ?_; have hS : wb.drew.cell? ⟨wr.heap.size, 0, none⟩ = some (.int .i64 x) ∧ wb.drew.cell? ⟨wr.heap.size, 1, none⟩ = some (.int .i64 y) := ⟨z0, z1⟩
     refine tkT 0 ?_ rfl hS ?_ ?_ (by kernel_rfl) (fun _ _ _ h => h) (by rfl); rotate_left; (· intro wS hSw; (try dsimp only at hSw); go_simp; try with_reducible rfl); simp only [Act.put, zT]; refine tkT 1 ?_ rfl hS ?_ ?_ (by kernel_rfl) (fun _ _ _ h => h) (by rfl); rotate_left; (· intro wS hSw; (try dsimp only at hSw); go_simp; try with_reducible rfl); simp only [Act.put, zT]; refine tkT 2 ?_ rfl hS ?_ ?_ (by kernel_rfl) (fun _ _ _ h => h) (by rfl); rotate_left; (· intro wS hSw; (try dsimp only at hSw); go_simp; try with_reducible rfl); simp only [Act.put, zT]; refine tkT 3 ?_ rfl hS ?_ ?_ (by kernel_rfl) (fun _ _ _ h => h) (by rfl); rotate_left; (· intro wS hSw; (try dsimp only at hSw); go_simp; try with_reducible rfl); simp only [Act.put, zT]; refine tkT 4 ?_ rfl hS ?_ ?_ (by kernel_rfl) (fun _ _ _ h => h) (by rfl); rotate_left; (· intro wS hSw; (try dsimp only at hSw); go_simp; try with_reducible rfl); simp only [Act.put, zT]; refine tkT 5 ?_ rfl hS ?_ ?_ (by kernel_rfl) (fun _ _ _ h => h) (by rfl); rotate_left; (· intro wS hSw; (try dsimp only at hSw); go_simp; try with_reducible rfl); simp only [Act.put, zT]; refine tkT 6 ?_ rfl hS ?_ ?_ (by kernel_rfl) (fun _ _ _ h => h) (by rfl); rotate_left; (· intro wS hSw; (try dsimp only at hSw); go_simp; try with_reducible rfl); simp only [Act.put, zT]; refine oneT (i := 7) rfl (by kernel_rfl) (fun K hK => ?_); go_simp; refine hK _ _ (fun _ => ⟨(World.cell?_setCell_far wb ⟨wo.heap.size, x, none⟩ ⟨wr.heap.size, 0, none⟩ (.bool true) (by simp; omega)).trans z0, (World.cell?_setCell_far wb ⟨wo.heap.size, x, none⟩ ⟨wr.heap.size, 1, none⟩ (.bool true) (by simp; omega)).trans z1⟩) ?_
     clear hK K; refine oneT (i := 8) rfl (by kernel_rfl) (fun K hK => ?_); go_simp; refine hK _ _ (fun h => absurd h (by omega)) ?_; clear hK K; refine oneT (i := 9) rfl (by kernel_rfl) (fun K hK => ?_); go_simp; refine hK _ _ (fun h => absurd h (by omega)) ?_; clear hK K; refine doneT (by kernel_rfl) ?_ _; have hir2 : Row ((wb.setCell ⟨wo.heap.size, x, none⟩ (.bool true)).setCell ⟨wo.heap.size, y, none⟩ (.bool true)) wo.heap.size 4 1 n (inV n x y 1) := by
      rw [← inV_set]; exact (Hirb.out.set x (.bool true)).set y (.bool true)
     have hB2 := (HBb.out.setCell (p := ⟨wo.heap.size, x, none⟩) (Nat.le_refl _) (.bool true)).setCell (p := ⟨wo.heap.size, y, none⟩) (Nat.le_refl _) (.bool true); go_wp2_with fail; go_roundg (gk - 1)
     case measure => omega
     case rel => exact ⟨1, by omega, rfl, hir2.drewN _, below_drewN hB2 _⟩
    ·
     obtain rfl : q = 1 := by omega
     have hrg := Hrl2.out.below hbw hglt; have hB2 := bl_trans HB.out hbw; have Hrg := Lib.hid hrg; have HB2 := Lib.hid hB2; have Hir := Lib.hid hir; obtain ⟨wp, rfl⟩ : ∃ wp : World, wp = wr := ⟨_, rfl⟩
     have hwop := hir.lt; clear hrg hB2 hir hbw Hrl2 hq hq0; go_wp2_with fail; go_loopg [7, 76] cuts.length (fun r ov iv wj => ∃ (j g2 c2 : Nat), j + r = cuts.length ∧ iv = .int .i64 j ∧ ov = .slice (some ⟨g2, 0, none⟩) (linksT es cuts k ++ link1 cuts ((x : Int), (y : Int)) k j).length c2 ∧ Row wj g2 51 2 c2 (pairCells (linksT es cuts k ++ link1 cuts ((x : Int), (y : Int)) k j)) ∧ (linksT es cuts k ++ link1 cuts ((x : Int), (y : Int)) k j).length ≤ c2 ∧ w4.heap.size ≤ g2 ∧ g2 ≠ wo.heap.size ∧ Row wj wo.heap.size 4 1 n (inV n x y 1) ∧ Below w4.heap.size w4 wj)
     case atStart => exact ⟨0, g, c, by omega, rfl, by simp [link1], by simpa [link1] using Hrg.out, by simpa [link1] using hlc, hg, by omega, Hir.out, HB2.out⟩
     case round =>
      clear Hrg HB2 Hir; obtain ⟨j, g2, c2, hj, rfl, rfl, hr2, hl2, hg2, hne, hir, hB3⟩ := hrel; have Hj := Lib.hid hj; have Hr2 := Lib.hid hr2; have Hir := Lib.hid hir; have HB3 := Lib.hid hB3; by_cases hjl : j < cuts.length
      ·
       obtain ⟨v, hv⟩ : ∃ v, cuts[j]? = some v := ⟨_, List.getElem?_eq_getElem hjl⟩
       have hvn := Hcl.out v (List.mem_of_getElem? hv); have hcv : wr.cell? ⟨gc, j, none⟩ = some (.int .i64 v) := by
        rw [(Hrc.out.below hB3 hgc4).cell? j (by simpa using hjl), List.getElem?_map, hv]; rfl
       have hst1 := link1_succ cuts ((x : Int), (y : Int)) k hv; have hl1 := link1_len cuts ((x : Int), (y : Int)) k j; have hib : wr.cell? ⟨wo.heap.size, v, none⟩ = some (.bool (decide (1 = 1 ∧ (v = x ∨ v = y)))) := by
        rw [hir.cell? v (by rw [inV_len]; exact hvn)]; exact inV_get hvn
       have i4 : (j : Int) < (cuts.length : Int) := by omega
       have i5 : (v : Int) < (n : Int) := by omega
       have hg2l := hr2.lt; have hwl := hir.lt; obtain ⟨L, hL⟩ : ∃ L, L = linksT es cuts k ++ link1 cuts ((x : Int), (y : Int)) k j := ⟨_, rfl⟩
       have hLl : L.length ≤ 200 * 200 + 200 := by rw [hL, List.length_append]; omega
       rw [← hL] at hl2; have hr2' := hr2; rw [← hL] at hr2'; by_cases hc : v = x ∨ v = y
       ·
        rw [decide_eq_true (⟨rfl, hc⟩ : 1 = 1 ∧ (v = x ∨ v = y))] at hib; have hnx : linksT es cuts k ++ link1 cuts ((x : Int), (y : Int)) k (j + 1) = L ++ [((k : Int), (j : Int))] := by
         have hcc : (v : Int) = ((x : Int), (y : Int)).1 ∨ (v : Int) = ((x : Int), (y : Int)).2 := by rcases hc with h | h <;> simp [h]
         rw [hst1, if_pos hcc, ← List.append_assoc, ← hL]
        have hrx := hr2'.alloc (.cells #[.int .i64 (k : Nat), .int .i64 (j : Nat)] 51); have hix := hir.alloc (.cells #[.int .i64 (k : Nat), .int .i64 (j : Nat)] 51); have hBx := bl_trans hB3 (bl_alloc wr (.cells #[.int .i64 (k : Nat), .int .i64 (j : Nat)] 51)); have Hnx := Lib.hid hnx; have Hrx := Lib.hid hrx; have Hix := Lib.hid hix; have HBx := Lib.hid hBx; rw [← hL]; clear hnx hrx hix hBx hr2 hr2' hir hB3 hj hst1 hL hc hv Hr2 hl1; go_wp2_with (at_builtin; go_loud (refine wpList_append_row _ rfl (.tmp 85) (.tmp 89) 22 rfl 51 (.agg #[.int .i64 0, .int .i64 0]) 2 16 Tryz.underlying22 pair_info2 rfl (.slice (some ⟨g2, 0, none⟩) L.length c2) L.length _ rfl (Hrx.out.own (by rw [pairCells_length]) hl2) ⟨wr.heap.size, 0, none⟩ 1 1 [.int .i64 (k : Nat), .int .i64 (j : Nat)] rfl rfl (news_lit wr _ [_, _]) (by intro u hu; simp at hu; rcases hu with rfl | rfl <;> rfl) (by omega) (by unfold maxLen; omega) (by omega) ?_; intro g3 c3 w3 hr3 hc3 hg3 hor3)); have hg3' : w4.heap.size ≤ g3 ∧ g3 ≠ wo.heap.size := by
         rcases hor3 with h | h
         · cases h; exact ⟨hg2, hne⟩
         · simp at h; omega
        have hi4 := Hix.out.grown hg3 (by simp [Value.ownBlock]; omega); have hB4 := HBx.out.grown hg3 (by have := HBx.out.size; exact this) (fun j hj => by cases hj; show w4.heap.size ≤ g2; omega); have hr4 : Row w3 g3 51 2 c3 (pairCells (L ++ [((k : Int), (j : Int))])) := by rw [pcells_append]; exact hr3
        rw [← Hnx.out] at hr4; have hc4 : (linksT es cuts k ++ link1 cuts ((x : Int), (y : Int)) k (j + 1)).length ≤ c3 := by rw [Hnx.out]; simpa using hc3
        have hle : (linksT es cuts k ++ link1 cuts ((x : Int), (y : Int)) k (j + 1)).length = L.length + 1 := by rw [Hnx.out]; simp
        have Hi4 := Lib.hid hi4; have HB4 := Lib.hid hB4; have Hr4 := Lib.hid hr4; have Hc4 := Lib.hid hc4; have Hle := Lib.hid hle; clear hi4 hB4 hr4 hr3 hg3 hor3 hc4 hle; go_roundg (gk - 1)
        case measure => have := Hj.out; omega
        case rel => exact ⟨j + 1, g3, c3, by have := Hj.out; omega, by go_num, by rw [Hle.out], Hr4.out, Hc4.out, hg3'.1, hg3'.2, Hi4.out, HB4.out⟩
       ·
        have hnx : linksT es cuts k ++ link1 cuts ((x : Int), (y : Int)) k (j + 1) = L := by
         have hcc : ¬ ((v : Int) = ((x : Int), (y : Int)).1 ∨ (v : Int) = ((x : Int), (y : Int)).2) := by
          intro h; apply hc; rcases h with h | h <;> simp at h <;> omega
         rw [hst1, if_neg hcc, List.append_nil, ← hL]
        rw [decide_eq_false (fun h : 1 = 1 ∧ (v = x ∨ v = y) => hc h.2)] at hib; have Hnx := Lib.hid hnx; rw [← hL]; have Hr2' := Lib.hid hr2'; clear hnx hr2 hr2' hir hB3 hj hst1 hL hc hv Hr2 hl1; go_wp2_with fail; go_roundg (gk - 1)
        case measure => have := Hj.out; omega
        case rel => exact ⟨j + 1, g2, c2, by have := Hj.out; omega, by go_num, by rw [Hnx.out], by rw [Hnx.out]; exact Hr2'.out, by rw [Hnx.out]; exact hl2, hg2, hne, Hir.out, HB3.out⟩
      ·
       have hjn : j = cuts.length := by omega
       subst hjn; have hnx : linksT es cuts k ++ link1 cuts ((x : Int), (y : Int)) k cuts.length = linksT es cuts (k + 1) := Hst.out.symm; rw [hnx] at hr2 hl2; have Hnx := Lib.hid hnx; have Hr3 := Lib.hid hr2; clear hr2 hir hB3 hj hnx Hr2; go_wp2_with fail; go_roundg (es.length - (k + 1))
       case measure => have := Hk.out; omega
       case rel => exact ⟨k + 1, g2, c2, by have := Hk.out; omega, by go_num, by rw [Hnx.out], Hr3.out, hl2, hg2, HB3.out⟩
  ·
   have hkn : k = es.length := by omega
   subst hkn; have hrbr := Hrb.out.below hB; have hrcr := Hrc.out.below hB hgc4; have b0 := keep_cell hB (Hbt.out 0 (by omega)); have b1 := keep_cell hB (Hbt.out 1 (by omega)); have b2 := keep_cell hB (Hbt.out 2 (by omega)); have bf : ∀ i, wr.frozen? ⟨w.heap.size + 1, i, none⟩ = false := fun i => by rw [hB.frozen (p := ⟨w.heap.size + 1, i, none⟩) (by show w.heap.size + 1 < _; omega)]; exact hbf4 i
   have hB2 : Below w.heap.size w wr := bl_trans HB4.out hB; have hglt := hrl.lt; have Hrbr := Lib.hid hrbr; have Hrcr := Lib.hid hrcr; have HB2 := Lib.hid hB2; clear hrbr hrcr hB2 hrl hB hk; go_wp2_with fail; have hb3 : ∀ i, i < 3 → wr.cell? ⟨w.heap.size + 1, i, none⟩ = some (.slice none 0 0) := fun i hi => by
    match i, hi with
    | 0, _ => exact b0
    | 1, _ => exact b1
    | 2, _ => exact b2
   have hB3 := ((HB2.out.setCell (p := ⟨w.heap.size + 1, 0, none⟩) (by show w.heap.size ≤ w.heap.size + 1; omega) (.slice ab es.length cb)).setCell (p := ⟨w.heap.size + 1, 1, none⟩) (by show w.heap.size ≤ w.heap.size + 1; omega) (.slice (some ⟨gc, 0, none⟩) cuts.length cc)).setCell (p := ⟨w.heap.size + 1, 2, none⟩) (by show w.heap.size ≤ w.heap.size + 1; omega) (.slice (some ⟨g, 0, none⟩) (linksT es cuts es.length).length c); refine bodyPost_ret (v := .tuple #[.agg #[.slice ab es.length cb, .slice (some ⟨gc, 0, none⟩) cuts.length cc, .slice (some ⟨g, 0, none⟩) (linksT es cuts es.length).length c], .int .i64 0]) ?_ rfl ⟨ab, cb, some ⟨gc, 0, none⟩, cc, some ⟨g, 0, none⟩, c, ?_, ?_, ?_, ?_, ?_, ?_, ?_, hB3⟩
   · simp [results, Tryz.results34, go_sem, b0, b1, b2]
   · rw [List.length_map]
   · exact RdB.keep3 hb3 Hrbr.out (fun q hq => by obtain ⟨e, -, rfl⟩ := List.mem_map.1 hq; simp)
   · exact CellsAt.keep3 hb3 Hrcr.out.at_ (fun v hv => by obtain ⟨x, -, rfl⟩ := List.mem_map.1 hv; simp [vN])
   · exact CellsAt.keep3 hb3 Hrl.out.at_ (pairCells_ints _)
   · rw [List.length_map]; exact hcb
   · exact hcc
   · exact hlc
end Go.Proofs.YtagjdkkfmfombaaGreat
namespace Go.Proofs.YtagjdkkfmfombaaGreat
open Go
section
variable {P : Program} {md : Region.Mode} {l : List Oper} {Q : Exit → Act → World → Prop} {S : World → Prop} {N : Nat}
theorem twoT {i i' : Nat} {oi oi' : Oper} {fuel : Nat} {listed : Array Bool} {a : Act} {w : World} (hi : l[i]? = some oi) (hi' : l[i']? = some oi') (hr : (Region.ready md l.toArray listed == [i, i']) = true)
  (h : ∀ K : Act → World → Prop, (∀ a w, (i < N → S w) → anyT P md l.toArray Q S N fuel (listed.setIfInBounds i true) a w → K a w) →
   if Region.wanted oi (yielded l.toArray a.tmps) = true then Oper.wp P oi a w K Q else K (a.put oi.dst undef) w)
  (h' : ∀ K : Act → World → Prop, (∀ a w, (i' < N → S w) → anyT P md l.toArray Q S N fuel (listed.setIfInBounds i' true) a w → K a w) →
   if Region.wanted oi' (yielded l.toArray a.tmps) = true then Oper.wp P oi' a w K Q else K (a.put oi'.dst undef) w) : anyT P md l.toArray Q S N (fuel + 1) listed a w := by
 have hr' := beq_iff_eq.1 hr
 refine ⟨fun h0 => absurd (hr' ▸ h0) (by simp), fun j hj => ?_⟩
 rw [hr'] at hj
 rcases List.mem_cons.1 hj with rfl | hj
 · exact wpOp_step (by simpa using hi) fun K hK => h K fun a w hS hW => hK a w ⟨hS, hW⟩
 ·
  obtain rfl : j = i' := by simpa using hj
  exact wpOp_step (by simpa using hi') fun K hK => h' K fun a w hS hW => hK a w ⟨hS, hW⟩
end
end Go.Proofs.YtagjdkkfmfombaaGreat
namespace Go.Proofs.YtagjdkkfmfombaaGreat
open Go Go.RowKit
def rowT (L : List (Nat × Nat)) (k i : Nat) : List Nat := if k = 0 then (L.filter fun p => decide (p.1 = i)).map (·.2) else (L.filter fun p => decide (p.2 = i)).map (·.1)
def rowsT (L : List (Nat × Nat)) (k n : Nat) : List (List Value) := (List.range n).map fun i => (rowT L k i).map vN
theorem rowsT_len (L : List (Nat × Nat)) (k n : Nat) : (rowsT L k n).length = n := by simp [rowsT]
theorem rowsT_get {L : List (Nat × Nat)} {k n i : Nat} (hi : i < n) : (rowsT L k n)[i]? = some ((rowT L k i).map vN) := by simp [rowsT, hi]
theorem rowT_snoc (L : List (Nat × Nat)) (p : Nat × Nat) (k i : Nat) : rowT (L ++ [p]) k i = rowT L k i ++ if (if k = 0 then p.1 else p.2) = i then [if k = 0 then p.2 else p.1] else [] := by
 unfold rowT
 by_cases hk : k = 0
 ·
  simp only [hk, if_true, List.filter_append, List.map_append]
  congr 1
  by_cases e : p.1 = i <;> simp [e]
 ·
  simp only [hk, if_false, List.filter_append, List.map_append]
  congr 1
  by_cases e : p.2 = i <;> simp [e]
theorem rowsT_snoc (L : List (Nat × Nat)) (p : Nat × Nat) (k n : Nat) :
  rowsT (L ++ [p]) k n = (rowsT L k n).set (if k = 0 then p.1 else p.2) ((rowT L k (if k = 0 then p.1 else p.2)).map vN ++ [vN (if k = 0 then p.2 else p.1)]) := by
 apply List.ext_getElem?
 intro i
 rw [List.getElem?_set]
 by_cases hi : i < n
 ·
  rw [rowsT_get hi, rowT_snoc, rowsT_len]
  by_cases e : (if k = 0 then p.1 else p.2) = i
  · rw [if_pos e, if_pos e, e, if_pos hi, List.map_append]; rfl
  · rw [if_neg e, if_neg e, List.append_nil, rowsT_get hi]
 ·
  rw [List.getElem?_eq_none (by rw [rowsT_len]; omega)]
  have h2 : (rowsT L k n)[i]? = none := List.getElem?_eq_none (by rw [rowsT_len]; omega)
  by_cases e : (if k = 0 then p.1 else p.2) = i
  · rw [if_pos e, e, rowsT_len, if_neg hi]
  · rw [if_neg e, h2]
theorem rowT_len (L : List (Nat × Nat)) (k i : Nat) : (rowT L k i).length ≤ L.length := by
 unfold rowT
 split
 · rw [List.length_map]; exact List.length_filter_le _ _
 · rw [List.length_map]; exact List.length_filter_le _ _
theorem mem_rowT {L : List (Nat × Nat)} {k i u : Nat} (hk : k < 2) : u ∈ rowT L k i ↔ (if k = 0 then (i, u) else (u, i)) ∈ L := by
 unfold rowT
 by_cases h : k = 0
 ·
  simp only [h, if_true, List.mem_map, List.mem_filter, decide_eq_true_eq]
  constructor
  · rintro ⟨p, ⟨h1, rfl⟩, rfl⟩; exact h1
  · intro h1; exact ⟨_, ⟨h1, rfl⟩, rfl⟩
 ·
  simp only [h, if_false, List.mem_map, List.mem_filter, decide_eq_true_eq]
  constructor
  · rintro ⟨p, ⟨h1, rfl⟩, rfl⟩; exact h1
  · intro h1; exact ⟨_, ⟨h1, rfl⟩, rfl⟩
def ndT (m c k : Nat) : Nat := if k = 0 then m else c
theorem rowT_lt {L : List (Nat × Nat)} {m c k i u : Nat} (hL : ∀ p ∈ L, p.1 < m ∧ p.2 < c) (hk : k < 2) (h : u ∈ rowT L k i) : u < ndT m c (1 - k) ∧ i < ndT m c k := by
 rw [mem_rowT hk] at h
 by_cases e : k = 0
 ·
  subst e
  have := hL _ h
  exact ⟨this.2, this.1⟩
 ·
  have : k = 1 := by omega
  subst this
  have := hL _ h
  exact ⟨this.1, this.2⟩
theorem ownRows_hold {w w' : World} {G : Nat} {tO e : TypeId} {cap : Nat} {vals : List Value} {rows : List (List Value)} (h : OwnRows w G tO e cap vals rows) (h0 : w'.heap[G]? = w.heap[G]?) (h1 : ∀ (v : Nat) u g, vals[v]? = some u → u.ownBlock = some g → w'.heap[g]? = w.heap[g]?) : OwnRows w' G tO e cap vals rows where
 len := h.len
 outer := h.outer.block h0
 own v u r hu hr := (h.own v u r hu hr).below fun g hg => h1 v u g hu hg
 young := h.young
 apart := h.apart
structure TabT (w : World) (G cap : Nat → Nat) (vals : Nat → List Value) (rows : Nat → List (List Value)) : Prop where
 own : ∀ k, k < 2 → OwnRows w (G k) 25 3 (cap k) (vals k) (rows k)
 ne : G 0 ≠ G 1
 apart : ∀ k, k < 2 → ∀ (v : Nat) (u : Value) (g : Nat), (vals k)[v]? = some u → u.ownBlock = some g → g ≠ G (1 - k) ∧ ∀ (v' : Nat) (u' : Value), (vals (1 - k))[v']? = some u' → u'.ownBlock ≠ some g
namespace TabT
variable {w w' : World} {G cap : Nat → Nat} {vals : Nat → List Value} {rows : Nat → List (List Value)}
theorem ne' (h : TabT w G cap vals rows) {k : Nat} (hk : k < 2) : G k ≠ G (1 - k) := by
 by_cases e : k = 0
 · subst e; exact h.ne
 ·
  have : k = 1 := by omega
  subst this; exact h.ne.symm
theorem below (h : TabT w G cap vals rows) (hb : Below w.heap.size w w') : TabT w' G cap vals rows := ⟨fun k hk => (h.own k hk).below hb, h.ne, h.apart⟩
theorem drewN (h : TabT w G cap vals rows) (n : Nat) : TabT (w.drewN n) G cap vals rows := ⟨fun k hk => (h.own k hk).drewN n, h.ne, h.apart⟩
theorem stored (h : TabT w G cap vals rows) {k : Nat} (hk : k < 2) {v : Nat} {u : Value} {r r' : List Value} (hu : (vals k)[v]? = some u) (hr : (rows k)[v]? = some r)
  {g' cap' : Nat} (hrow : Row w' g' 3 1 cap' r') (hgr : w.grownBy w' u.ownBlock) (hg' : u.ownBlock = some g' ∨ w.heap.size ≤ g') :
  TabT (w'.setCell ⟨G k, v, none⟩ (.slice (some ⟨g', 0, none⟩) r'.length cap')) G cap (fun j => if j = k then (vals k).set v (.slice (some ⟨g', 0, none⟩) r'.length cap') else vals j) (fun j => if j = k then (rows k).set v r' else rows j) := by
 have ho := (h.own k hk).stored hu hr hrow hgr hg'
 have hv : v < (vals k).length := (List.getElem?_eq_some_iff.1 hu).1
 have hG : ∀ j, j < 2 → G j < w.heap.size := fun j hj => (h.own j hj).outer.lt
 have hnew : g' ≠ G (1 - k) ∧ ∀ (v' : Nat) (u' : Value), (vals (1 - k))[v']? = some u' → u'.ownBlock ≠ some g' := by
  rcases hg' with hg' | hg'
  · exact h.apart k hk v u g' hu hg'
  · exact ⟨by have := hG (1 - k) (by omega); omega, fun v' u' hu' e => by have := (h.own (1 - k) (by omega)).lt hu' e; omega⟩
 refine ⟨fun j hj => ?_, h.ne, fun j hj v1 u1 g hu1 hg1 => ?_⟩
 ·
  by_cases e : j = k
  ·
   subst e; simp only [if_true]; exact ho
  ·
   have e2 : j = 1 - k := by omega
   subst e2; simp only [if_neg e]; refine ownRows_hold (h.own (1 - k) hj) ?_ fun v' u' g hu' hg => ?_
   ·
    rw [Below.heap_setCell _ _ _ _ (by simp; exact (h.ne' hk).symm)]; refine hgr.block _ (hG _ hj) fun e3 => ?_; exact (h.apart k hk v u _ hu e3.symm).1 rfl
   ·
    have hlt := (h.own (1 - k) hj).lt hu' hg; have hap := h.apart (1 - k) hj v' u' g hu' hg; rw [show 1 - (1 - k) = k by omega] at hap; rw [Below.heap_setCell _ _ _ _ (by simp; exact hap.1)]; exact hgr.block _ hlt fun e3 => hap.2 v u hu e3.symm
 ·
  by_cases e : j = k
  ·
   subst e; rw [if_pos rfl] at hu1; rw [if_neg (by omega : ¬ 1 - j = j)]; rw [List.getElem?_set] at hu1; by_cases hvv : v = v1
   ·
    subst hvv; rw [if_pos rfl, if_pos hv] at hu1; cases hu1; simp [Value.ownBlock] at hg1; subst hg1; exact hnew
   ·
    rw [if_neg hvv] at hu1; exact h.apart j hk v1 u1 g hu1 hg1
  ·
   rw [if_neg e] at hu1; have e2 : k = 1 - j := by omega
   rw [if_pos (by omega : 1 - j = k)]; have hap := h.apart j hj v1 u1 g hu1 hg1; refine ⟨hap.1, fun v' u' hu' => ?_⟩; rw [List.getElem?_set] at hu'; by_cases hvv : v = v'
   ·
    subst hvv; rw [if_pos rfl, if_pos hv] at hu'; cases hu'; simp [Value.ownBlock]; intro e3; have e4 : j = 1 - k := by omega
    rw [e4] at hu1; exact hnew.2 v1 u1 hu1 (by rw [hg1, e3])
   ·
    rw [if_neg hvv] at hu'; rw [e2] at hu'; exact hap.2 v' u' hu'
end TabT
end Go.Proofs.YtagjdkkfmfombaaGreat
namespace Go.Proofs.YtagjdkkfmfombaaGreat
open Go Go.RowKit Go.Sort
theorem nanB_walk (x : Int) (w : World) : Calls Tryz.prog 120 #[.int .u8 x] w fun e w' => e = .returned (.bool false) ∧ w' = w := by
 go_enter Tryz.func120, Tryz.ntmps120
 go_wp2_with fail
 go_ret
 exact ⟨rfl, rfl⟩
theorem cmpByte_walk (x y : Int) (w : World) : Calls Tryz.prog 90 #[.int .u8 x, .int .u8 y] w fun e w' => e = .returned (.int .i64 (cmpI x y)) ∧ w' = w := by
 go_enter Tryz.func90, Tryz.ntmps90
 go_wp2_with fail
 refine (nanB_walk x w).mono ?_
 rintro e w' ⟨rfl, rfl⟩
 go_wp2_with fail
 refine (nanB_walk y _).mono ?_
 rintro e w2 ⟨rfl, rfl⟩
 by_cases h1 : x < y
 ·
  have hc : cmpI x y = -1 := by unfold cmpI; rw [if_pos h1]
  have Hc := Lib.hid hc; clear hc
  go_wp2_with fail
  go_ret
  exact ⟨by rw [Hc.out] <;> rfl, rfl⟩
 ·
  by_cases h2 : y < x
  ·
   have hc : cmpI x y = 1 := by unfold cmpI; rw [if_neg h1, if_pos h2]
   have Hc := Lib.hid hc; clear hc; go_wp2_with fail; go_ret; exact ⟨by rw [Hc.out] <;> rfl, rfl⟩
  ·
   have hc : cmpI x y = 0 := by unfold cmpI; rw [if_neg h1, if_neg h2]
   have Hc := Lib.hid hc; clear hc; go_wp2_with fail; go_ret; exact ⟨by rw [Hc.out] <;> rfl, rfl⟩
theorem cmpB_drop : ∀ (k : Nat) (x y : List Int), x.take k = y.take k → k ≤ x.length → k ≤ y.length → cmpB x y = cmpB (x.drop k) (y.drop k)
 | 0, x, y, _, _, _ => by simp
 | k + 1, [], y, _, h, _ => by simp at h
 | k + 1, a :: x, [], _, _, h => by simp at h
 | k + 1, a :: x, b :: y, he, h1, h2 => by
  simp only [List.take_succ_cons, List.cons.injEq] at he
  have ih := cmpB_drop k x y he.2 (by simpa using h1) (by simpa using h2)
  rw [List.drop_succ_cons, List.drop_succ_cons, ← ih, he.1]
  have : cmpI b b = 0 := by unfold cmpI; rw [if_neg (by omega), if_neg (by omega)]
  simp [cmpB, this]
set_option maxHeartbeats 1000000 in
theorem compareB_walk (a b : Option Addr) (ca cb : Nat) (x y : List Int) (w : World) (hx : CellsAt w a (x.map byteV)) (hy : CellsAt w b (y.map byteV)) (hxl : x.length ≤ 1000000) (hyl : y.length ≤ 1000000) :
  Calls Tryz.prog 62 #[.slice a x.length ca, .slice b y.length cb] w fun e w' => e = .returned (.int .i64 (cmpB x y)) ∧ w' = w := by
 have Hx := Lib.hid hx; have Hy := Lib.hid hy
 clear hx hy
 go_enter Tryz.func62, Tryz.ntmps62
 go_wp2_with fail
 go_loopg [11] x.length (fun r iv wj => ∃ k : Nat, k + r = x.length ∧ iv = .int .i64 (k : Nat) ∧ x.take k = y.take k ∧ k ≤ y.length ∧ wj = w)
 case atStart => exact ⟨0, by omega, rfl, by simp, by omega, rfl⟩
 case round =>
  obtain ⟨k, hk, rfl, hpre, hky, rfl⟩ := hrel
  have Hk := Lib.hid hk; have Hpre := Lib.hid hpre
  clear hpre
  by_cases hkx : k < x.length
  ·
   clear hk; obtain ⟨bx, ox, hax, c0⟩ := Hx.out k (byteV x[k]) (by rw [List.getElem?_map, List.getElem?_eq_getElem hkx]; rfl); subst hax; have cx : wr.cell? ⟨bx, ox + k, none⟩ = some (.int .u8 x[k]) := c0; have i1 : (k : Int) < (x.length : Int) := by omega
   obtain ⟨u, hu⟩ : ∃ u, u = x[k] := ⟨_, rfl⟩
   rw [← hu] at cx; have Hu := Lib.hid hu; clear hu c0; by_cases hkl : k < y.length
   ·
    obtain ⟨by_, oy, hay, c1⟩ := Hy.out k (byteV y[k]) (by rw [List.getElem?_map, List.getElem?_eq_getElem hkl]; rfl); subst hay; have cy : wr.cell? ⟨by_, oy + k, none⟩ = some (.int .u8 y[k]) := c1; have i2 : ¬ (k : Int) ≥ (y.length : Int) := by omega
    have i3 : (k : Int) < (y.length : Int) := by omega
    obtain ⟨v, hv⟩ : ∃ v, v = y[k] := ⟨_, rfl⟩
    rw [← hv] at cy; have hdr : cmpB x y = if cmpI u v = 0 then cmpB (x.drop (k + 1)) (y.drop (k + 1)) else cmpI u v := by
     rw [cmpB_drop k x y Hpre.out (by omega) (by omega), ← List.getElem_cons_drop (by omega : k < x.length), ← List.getElem_cons_drop hkl, ← hv, ← Hu.out]; rfl
    have Hv := Lib.hid hv; have Hdr := Lib.hid hdr; clear hv hdr c1; go_wp2_with fail; refine (cmpByte_walk u v _).mono ?_; rintro e w' ⟨rfl, rfl⟩; by_cases hz : cmpI u v = 0
    ·
     have e1 : (cmpI u v != 0) = false := by simp [hz]
     have huv : u = v := by unfold cmpI at hz; split at hz <;> (try split at hz) <;> omega
     have hnx : x.take (k + 1) = y.take (k + 1) := by
      rw [List.take_succ_eq_append_getElem hkx, List.take_succ_eq_append_getElem hkl, Hpre.out, ← Hu.out, ← Hv.out, huv]
     have Hnx := Lib.hid hnx; obtain ⟨z, hzz⟩ : ∃ z, z = cmpI u v := ⟨_, rfl⟩
     rw [← hzz] at e1 ⊢; clear hz huv hnx hzz; go_wp2_with fail; go_roundg (gk - 1)
     case measure => have := Hk.out; omega
     case rel => exact ⟨k + 1, by have := Hk.out; omega, by go_num, Hnx.out, by omega, rfl⟩
    ·
     have e1 : (cmpI u v != 0) = true := by simp [hz]
     have hfin : cmpB x y = cmpI u v := by rw [Hdr.out, if_neg hz]
     have Hfin := Lib.hid hfin; obtain ⟨z, hzz⟩ : ∃ z, z = cmpI u v := ⟨_, rfl⟩
     rw [← hzz] at e1 Hfin ⊢; clear hz hfin hzz; go_wp2_with fail; go_ret; exact ⟨by rw [Hfin.out] <;> rfl, rfl⟩
   ·
    have hky2 : k = y.length := by omega
    have i2 : (k : Int) ≥ (y.length : Int) := by omega
    have hfin : cmpB x y = 1 := by
     rw [cmpB_drop k x y Hpre.out (by omega) (by omega), ← List.getElem_cons_drop (by omega : k < x.length), List.drop_eq_nil_of_le (by omega : y.length ≤ k)]; rfl
    have Hfin := Lib.hid hfin; clear hfin hky2; go_wp2_with fail; go_ret; exact ⟨by rw [Hfin.out] <;> rfl, rfl⟩
  ·
   have hkn : k = x.length := by omega
   by_cases hl : x.length < y.length
   ·
    have i1 : (x.length : Int) < (y.length : Int) := by omega
    have hfin : cmpB x y = -1 := by
     rw [cmpB_drop k x y Hpre.out (by omega) (by omega), List.drop_eq_nil_of_le (by omega : x.length ≤ k), ← List.getElem_cons_drop (by omega : k < y.length)]; rfl
    have Hfin := Lib.hid hfin; subst hkn; clear hfin hk hl; go_wp2_with fail; go_ret; exact ⟨by rw [Hfin.out] <;> rfl, rfl⟩
   ·
    have i1 : ¬ (x.length : Int) < (y.length : Int) := by omega
    have hfin : cmpB x y = 0 := by
     rw [cmpB_drop k x y Hpre.out (by omega) (by omega), List.drop_eq_nil_of_le (by omega : x.length ≤ k), List.drop_eq_nil_of_le (by omega : y.length ≤ k)]; rfl
    have Hfin := Lib.hid hfin; subst hkn; clear hfin hk hl; go_wp2_with fail; go_ret; exact ⟨by rw [Hfin.out] <;> rfl, rfl⟩
theorem cmpF_walk (a b : Option Addr) (ca cb : Nat) (x y : List Int) (w : World) (hx : CellsAt w a (x.map byteV)) (hy : CellsAt w b (y.map byteV)) (hxl : x.length ≤ 1000000) (hyl : y.length ≤ 1000000) :
  Calls Tryz.prog 61 #[.slice a x.length ca, .slice b y.length cb] w fun e w' => e = .returned (.int .i64 (cmpB x y)) ∧ w' = w := by
 have hcon := compareB_walk a b ca cb x y w hx hy hxl hyl
 have Hcon := Lib.hid hcon
 clear hcon hx hy
 go_enter Tryz.func61, Tryz.ntmps61
 go_wp2_with fail
 refine Hcon.out.mono ?_
 rintro e w' ⟨rfl, rfl⟩
 go_wp2_with fail
 go_ret
 exact ⟨rfl, rfl⟩
end Go.Proofs.YtagjdkkfmfombaaGreat
namespace Go.Proofs.YtagjdkkfmfombaaGreat
open Go Go.RowKit Go.Sort
abbrev Ky := List Int × Option Addr × Nat
def kyV (p : Ky) : Value := .slice p.2.1 p.1.length p.2.2
def kyB (ps : List Ky) : List (List Int) := ps.map fun p => p.1
theorem kyB_len (ps : List Ky) : (kyB ps).length = ps.length := by simp [kyB]
def KyR (w : World) (g : Nat) (p : Ky) : Prop := CellsAt w p.2.1 (p.1.map byteV) ∧ p.1.length ≤ 1000000 ∧ ∀ ad, p.2.1 = some ad → ad.block ≠ g
structure KyI (w : World) (g cap : Nat) (ps : List Ky) : Prop where
 row : Row w g 28 1 cap (ps.map kyV)
 each : ∀ p ∈ ps, KyR w g p
theorem CellsAt.grown {w w' : World} {a : Option Addr} {vs : List Value} {r : Option Nat} (h : CellsAt w a vs) (hg : w.grownBy w' r) (hr : ∀ ad, a = some ad → some ad.block ≠ r) : CellsAt w' a vs := fun i u hu => by
 obtain ⟨b, o, h1, h2⟩ := h i u hu
 exact ⟨b, o, h1, hg.cell h2 (fun e => hr _ h1 e)⟩
theorem KyR.grown {w w' : World} {g : Nat} {p : Ky} {r : Option Nat} (h : KyR w g p) (hg : w.grownBy w' r) (hr : ∀ ad, p.2.1 = some ad → some ad.block ≠ r) : KyR w' g p := ⟨h.1.grown hg hr, h.2⟩
theorem KyI.grownSelf {w w' : World} {g cap : Nat} {ps ts : List Ky} (h : KyI w g cap ps) (hr : Row w' g 28 1 cap (ts.map kyV)) (hg : w.grownBy w' (some g)) (hs : ∀ p ∈ ts, p ∈ ps) : KyI w' g cap ts :=
 ⟨hr, fun p hp => (h.each p (hs p hp)).grown hg fun ad ha e => (h.each p (hs p hp)).2.2 ad ha (by cases e; rfl)⟩
section
variable {α : Type} [Inhabited α]
theorem Row.holds1 {w : World} {g cap : Nat} {e : TypeId} (enc : α → Value) {ls : List α} (h : Row w g e 1 cap (ls.map enc)) : Holds enc w g 0 ls.toArray := by
 intro j hj
 have hj' : j < ls.length := by simpa using hj
 refine ⟨?_, h.frozen _⟩
 rw [Nat.zero_add, h.cell? j (by simpa using hj'), List.getElem?_map, List.getElem?_eq_getElem hj']
 simp [hj']
theorem Row.sorted1 {w : World} {g cap n : Nat} {e : TypeId} {os : Array Obj} (enc : α → Value) {ls ts : List α} (h : Row w g e 1 cap (ls.map enc)) (hl : ts.length = ls.length) :
  Row (sortWorld enc w g 0 n ts.toArray os) g e 1 cap (ts.map enc) ∧ w.grownBy (sortWorld enc w g 0 n ts.toArray os) (some g) := by
 obtain ⟨cur, hg, hs, hle, hm, ht⟩ := h
 have hlt : g < w.heap.size := (Array.getElem?_eq_some_iff.1 hg).1
 have hcur : (sortWorld enc w g 0 n ts.toArray os).heap[g]? = some (.cells (putCells enc 0 ts.toArray cur) e (0, 0)) := by
  unfold sortWorld
  rw [heap_grow_old _ _ (by simpa [putRow, mapBlock, Sort.ahead] using hlt)]
  simp [putRow, mapBlock, Sort.ahead, Array.getElem?_modify, hg, onCells]
 have hlen : (ts.map enc).length = (ls.map enc).length := by simp [hl]
 refine ⟨⟨_, hcur, by simpa [putCells] using hs, by rw [hlen]; exact hle, hm, ?_⟩, ⟨rfl, rfl, rfl, by simp [sortWorld, grow, putRow, mapBlock, Sort.ahead], fun q hq hne => ?_⟩⟩
 ·
  apply List.ext_getElem?
  intro j
  by_cases hj : j < (ts.map enc).length
  ·
   rw [List.getElem?_take_of_lt hj, Array.getElem?_toList]; have hjc : j < cur.size := by rw [hlen] at hj; omega
   have hjt : j < ts.length := by simpa using hj
   simp [putCells, hjt, hjc]
  · rw [List.getElem?_take_eq_none (by omega), List.getElem?_eq_none (by omega)]
 ·
  unfold sortWorld
  rw [heap_grow_old _ _ (by simpa [putRow, mapBlock, Sort.ahead] using hq)]
  have : g ≠ q := fun e => hne (by rw [e])
  simp [putRow, mapBlock, Sort.ahead, Array.getElem?_modify, this]
end
theorem sortB_of {l m : List (List Int)} (hp : l.Perm m) (hs : l.Pairwise fun x y => ¬ lessB y x) : l = sortB m :=
 List.Perm.eq_of_pairwise (fun a b _ _ h1 h2 => by
  rcases lessB_tri a b with t | t | t
  · exact absurd t h2
  · exact t
  · exact absurd t h1) hs (sortB_rises m) (hp.trans (by unfold sortB; exact (List.mergeSort_perm _ _).symm))
theorem grow_zero (w : World) : grow (w.drewN 0) #[] = w := by
 have := grow_empty (w.drewN 0)
 exact this
theorem sortB_walk (g cap : Nat) (ps : List Ky) (w : World) (h : KyI w g cap ps) (hne : ps ≠ []) (hsz : ps.length ≤ 1000000) :
  Calls Tryz.prog 64 #[.slice (some ⟨g, 0, none⟩) ps.length cap, .func (.func 61) #[] #[]] w
   fun e w' => e = .returned (.tuple #[]) ∧ ∃ ts, ts.Perm ps ∧ kyB ts = sortB (kyB ps) ∧ KyI w' g cap ts ∧ w.grownBy w' (some g) := by
 have eg : ∀ args w, (callFunc 61 args).run Tryz.prog w = .ok (.enter 61 args) w := enters_of Tryz.func61 (by kernel_rfl) rfl
 obtain ⟨p0, hp0⟩ := List.exists_mem_of_ne_nil _ hne
 letI : Inhabited {p : Ky // p ∈ ps} := ⟨⟨p0, hp0⟩⟩
 obtain ⟨enc, henc⟩ : ∃ enc : {p : Ky // p ∈ ps} → Value, enc = fun p => kyV p.1 := ⟨_, rfl⟩
 obtain ⟨cf, hcf⟩ : ∃ cf : {p : Ky // p ∈ ps} → {p : Ky // p ∈ ps} → Int, cf = fun x y => cmpB x.1.1 y.1.1 := ⟨_, rfl⟩
 have hcells : ∀ l : List {p : Ky // p ∈ ps}, l.map enc = (l.map fun p => p.1).map kyV := fun l => by
  rw [henc, List.map_map]; rfl
 have hatt : ps.attach.map (fun p => p.1) = ps := List.attach_map_subtype_val ps
 have hrow : Row w g 28 1 cap (ps.attach.map enc) := by rw [hcells, hatt]; exact h.row
 have hlt : ∀ x y, ltOf cf x y = ltOf cmpB x.1.1 y.1.1 := fun x y => by rw [hcf]; rfl
 have hO : SWO (ltOf cf) := by
  refine ⟨fun x => ?_, fun x y z h1 h2 => ?_, fun x y z h1 h2 => ?_⟩
  · rw [hlt]; exact swo_cmpB.irrefl _
  · rw [hlt] at *; exact swo_cmpB.trans _ _ _ h1 h2
  · rw [hlt] at *; exact swo_cmpB.ntrans _ _ _ h1 h2
 have h1 : OneCell enc := fun x => by rw [henc]; rfl
 have hcmp : CmpLays1 Tryz.prog 61 #[] enc cf g 0 ps.attach.toArray.size w := by
  intro m os dk hdk x y
  have hg := (Row.sorted1 (n := m) (os := os) enc hrow (ts := dk.toList) (by simpa using hdk)).2
  have hx := h.each x.1 x.2
  have hy := h.each y.1 y.2
  have rx := hx.grown hg fun ad ha e => hx.2.2 ad ha (by cases e; rfl)
  have ry := hy.grown hg fun ad ha e => hy.2.2 ad ha (by cases e; rfl)
  have hc := cmpF_walk x.1.2.1 y.1.2.1 x.1.2.2 y.1.2.2 x.1.1 y.1.1 _ rx.1 ry.1 rx.2.1 ry.2.1
  rw [Array.toArray_toList] at hc
  have hc2 : Calls Tryz.prog 61 (#[enc x, enc y] ++ #[]) (sortWorld enc w g 0 m dk os) fun e w' => e = .returned (.int .i64 (cmpB x.1.1 y.1.1)) ∧ w' = sortWorld enc w g 0 m dk os := by
   have e1 : ∀ z, enc z = .slice z.1.2.1 z.1.1.length z.1.2.2 := fun z => by rw [henc]; rfl
   rw [e1, e1]; exact hc
  refine hc2.mono ?_
  rintro e w' ⟨rfl, rfl⟩
  exact ⟨by rw [hcf], 0, #[], (grow_zero _).symm⟩
 have hcon := Any.slices_SortFunc Tryz.laySortB enc h1 cf hO 61 #[] g 0 cap ps.attach.toArray w eg hcmp (Row.holds1 enc hrow) h.row.lt (by simp; omega)
 change Calls Tryz.prog 64 _ _ _ at hcon
 simp only [List.size_toArray, List.length_attach] at hcon
 refine hcon.mono ?_
 rintro e w' ⟨rfl, d', n, os, ⟨hsz', -, hperm⟩, hsort, rfl⟩
 have hds : d'.size = ps.length := by rw [hsz']; simp
 have e1 : d'.extract 0 ps.length = d' := by rw [← hds]; exact Array.extract_size
 have e2 : (ps.attach.toArray.extract 0 ps.length).toList = ps.attach := by
  have : ps.attach.toArray.extract 0 ps.attach.toArray.size = ps.attach.toArray := Array.extract_size
  rw [show ps.attach.toArray.size = ps.length by simp] at this
  rw [this]
 rw [e1, e2] at hperm
 obtain ⟨r1, r2⟩ := Row.sorted1 (n := n) (os := os) enc hrow (ts := d'.toList) (by rw [hperm.length_eq])
 rw [Array.toArray_toList] at r1 r2
 have hpm : (d'.toList.map fun p => p.1).Perm ps := by
  have := hperm.map fun p => p.1
  rw [hatt] at this; exact this
 rw [hcells] at r1
 refine ⟨rfl, d'.toList.map fun p => p.1, hpm, ?_, h.grownSelf r1 r2 fun p hp => hpm.mem_iff.1 hp, r2⟩
 refine sortB_of (hpm.map _) ?_
 unfold kyB
 rw [List.map_map, List.pairwise_map, List.pairwise_iff_getElem]
 intro i j hi hj hij
 have hi' : i < d'.size := by simpa using hi
 have hj' : j < d'.size := by simpa using hj
 have hs := hsort i j (Nat.zero_le _) hij (by omega)
 rw [getElem!_pos d' j hj', getElem!_pos d' i hi', hlt, ltOf_cmpB, decide_eq_false_iff_not, cmpB_neg] at hs
 simpa using hs
end Go.Proofs.YtagjdkkfmfombaaGreat
namespace Go.Proofs.YtagjdkkfmfombaaGreat
open Go Go.RowKit
theorem grown_setCell (w : World) (g o : Nat) (u : Value) : w.grownBy (w.setCell ⟨g, o, none⟩ u) (some g) :=
 ⟨rfl, rfl, rfl, by simp, fun k _ hne => Below.heap_setCell w ⟨g, o, none⟩ u k (fun e => hne (by rw [e]))⟩
theorem grown_trans {a b c : World} {r : Option Nat} (h : a.grownBy b r) (k : b.grownBy c r) : a.grownBy c r :=
 ⟨k.os.trans h.os, k.tape.trans h.tape, k.output.trans h.output, Nat.le_trans h.size k.size, fun j h1 h2 => (k.block j (Nat.lt_of_lt_of_le h1 h.size) h2).trans (h.block j h1 h2)⟩
theorem grown_setCells (g : Nat) : ∀ (cs : List Value) (o : Nat) (w : World), w.grownBy (w.setCells g o cs) (some g)
 | [], _, w => ⟨rfl, rfl, rfl, Nat.le_refl _, fun _ _ _ => rfl⟩
 | c :: cs, o, w => grown_trans (grown_setCell w g o c) (grown_setCells g cs (o + 1) _)
theorem spliced_nil (vs : List Value) (o : Nat) : spliced vs o [] = vs := by simp [spliced]
theorem spliced_cons (vs : List Value) (o : Nat) (c : Value) (cs : List Value) (h : o < vs.length) : spliced (vs.set o c) (o + 1) cs = spliced vs o (c :: cs) := by
 unfold spliced
 rw [List.length_cons]
 have e1 : (vs.set o c).take (o + 1) = vs.take o ++ [c] := by
  rw [List.take_add_one, List.take_set_of_le (by omega)]
  simp [h]
 have e2 : (vs.set o c).drop (o + 1 + cs.length) = vs.drop (o + (cs.length + 1)) := by
  rw [List.drop_set_of_lt (by omega)]
  congr 1; omega
 rw [e1, e2]
 simp
theorem Row.setCells {g : Nat} {e : TypeId} {s cap : Nat} : ∀ (cs : List Value) (o : Nat) (w : World) (vs : List Value), Row w g e s cap vs → o + cs.length ≤ vs.length → Row (w.setCells g o cs) g e s cap (Go.Proofs.YtagjdkkfmfombaaGreat.spliced vs o cs)
 | [], o, w, vs, h, _ => by rw [spliced_nil]; exact h
 | c :: cs, o, w, vs, h, hl => by
  simp only [List.length_cons] at hl
  have h1 := Row.setCells cs (o + 1) _ _ (h.set o c) (by rw [List.length_set]; omega)
  rw [spliced_cons _ _ _ _ (by omega)] at h1
  exact h1
theorem run_clear_many {P : Program} (w : World) (t e ty : TypeId) (z : Value) (s : Nat) (ht : P.underlying t = some (.slice e)) (hv : ∀ w, (zeroValue e).run P w = .ok z w) (hz : z.cells.size = s) (h1 : ∀ u ∈ z.cells.toList, u.oneCell' = true) (b o n c : Nat) (hn : 0 < n)
  (hc : ∀ j, j < n * s → (w.cell? ⟨b, o + j, none⟩).isSome = true) (hf : ∀ j, j < n * s → w.frozen? ⟨b, o + j, none⟩ = false) :
  (Builtin.clear_ #[t] ty #[.slice (some ⟨b, o, none⟩) n c]).run P w = .ok (.tuple #[]) (w.setCells b o (Builtin.zeroCells z.cells n).toList) := by
 have hsz : (Builtin.zeroCells z.cells n).toList.length = n * s := by rw [Array.length_toList, size_zeroCells, hz]
 have hst := run_storeCells_cells (P := P) b o (Builtin.zeroCells z.cells n).toList 0 w (by intro j hj; simpa using hc j (by omega)) (by intro j hj; first | (simp; done) | (have hfj := hf j (by omega); simpa using hfj)) (by
  intro v hv'
  obtain ⟨i, hi, rfl⟩ := List.getElem_of_mem hv'
  rw [hsz, ← hz] at hi
  have hp : 0 < z.cells.size := Nat.pos_of_ne_zero fun e => by rw [e] at hi; omega
  have hm := Nat.mod_lt i hp
  apply h1
  unfold Builtin.zeroCells
  simp [hm])
 simp only [Nat.add_zero] at hst
 obtain ⟨m, rfl⟩ : ∃ m, n = m + 1 := ⟨n - 1, by omega⟩
 simp [Builtin.clear_, run_underlying ht, hv, hst]
end Go.Proofs.YtagjdkkfmfombaaGreat
namespace Go.Proofs.YtagjdkkfmfombaaGreat
open Go Go.RowKit Go.Sort
theorem bys_info : (Tryz.prog.info? 28).map (fun i => (i.zero, i.size, i.bytes)) = some (some (.slice none 0 0), 1, 24) := by kernel_rfl
theorem Row.ofOwns {w : World} {base : Nat} {e : TypeId} {s n : Nat} {v : Value} {xs : List Value} (h : w.ownsRow base e s v n xs) (h0 : v ≠ .slice none 0 0) : ∃ g cap, v = .slice (some ⟨g, 0, none⟩) n cap ∧ n ≤ cap ∧ base ≤ g ∧ Row w g e s cap xs := by
 obtain ⟨hn, ⟨hv, -⟩ | ⟨g, cap, cur, hv, hb, hg, hc, hm, hs, ht⟩⟩ := h
 · exact absurd hv h0
 · exact ⟨g, cap, hv, hc, hb, cur, hg, hs, by rw [hn]; exact Nat.mul_le_mul_right _ hc, hm, by rw [hn]; exact ht⟩
theorem cloneB_walk (g cap : Nat) (ps : List Ky) (w : World) (h : KyI w g cap ps) (hne : ∀ p ∈ ps, p.1 ≠ []) (hsz : ps.length ≤ 1000000) :
  Calls Tryz.prog 63 #[.slice (some ⟨g, 0, none⟩) ps.length cap] w fun e w' => ∃ g' cap', e = .returned (.slice (some ⟨g', 0, none⟩) ps.length cap') ∧ KyI w' g' cap' ps ∧ ps.length ≤ cap' ∧ w.heap.size ≤ g' ∧ Below w.heap.size w w' := by
 obtain ⟨i0, hi0, hz0, hz1, hz2⟩ := info_parts bys_info
 have hcon := AnyE.slices_Clone Tryz.layCloneB i0 (.slice none 0 0) 1 24 hi0 hz0 hz1 hz2 rfl (by omega) (fun w => by kernel_rfl) g 0 ps.length cap (ps.map kyV) w (by simp) (by unfold maxLen; omega) (by omega)
  (fun j u hu => by rw [Nat.zero_add, h.row.cell? j (List.getElem?_eq_some_iff.1 hu).1]; exact hu) (fun u hu => by obtain ⟨p, -, rfl⟩ := List.mem_map.1 hu; rfl)
 change Calls Tryz.prog 63 _ _ _ at hcon
 refine hcon.mono ?_
 rintro e w' ⟨v', rfl, ho, h0, hb⟩
 obtain ⟨g', cap', rfl, hc, hg, hr⟩ := Row.ofOwns ho h0
 refine ⟨g', cap', rfl, ⟨hr, fun p hp => ?_⟩, hc, hg, hb⟩
 obtain ⟨h1, h2, -⟩ := h.each p hp
 refine ⟨h1.below hb, h2, fun ad ha e => ?_⟩
 obtain ⟨b, o, h3, h4⟩ := h1 0 (byteV (p.1[0]'(List.length_pos_iff.2 (hne p hp)))) (by rw [List.getElem?_map, List.getElem?_eq_getElem (List.length_pos_iff.2 (hne p hp))]; rfl)
 have := World.block_lt_of_cell? w _ h4
 rw [ha] at h3
 cases h3
 have h5 : b < w.heap.size := this
 have h6 : b = g' := e
 omega
theorem eqF_walk (a b : Option Addr) (ca cb B : Nat) (x y : List Int) (t : Bool) (w : World) (ht : (x == y) = t) (hx : CellsAt w a (x.map byteV)) (hy : CellsAt w b (y.map byteV)) (hxl : x.length ≤ 1000000) (hyl : y.length ≤ 1000000)
  (hB : w.cell? ⟨B, 0, none⟩ = some (.func (.func 61) #[] #[])) :
  Calls Tryz.prog 66 #[.slice a x.length ca, .slice b y.length cb, .pointer (some ⟨B, 0, none⟩)] w fun e w' => e = .returned (.bool t) ∧ w' = w := by
 have hcon := cmpF_walk a b ca cb x y w hx hy hxl hyl
 have hz : (cmpB x y == 0) = t := by
  rw [← ht]
  by_cases e : x = y
  · rw [(cmpB_zero x y).2 e, e, beq_self_eq_true, beq_self_eq_true]
  · rw [beq_false_of_ne fun h : cmpB x y = 0 => e ((cmpB_zero x y).1 h), beq_false_of_ne e]
 obtain ⟨z, hzz⟩ : ∃ z, z = cmpB x y := ⟨_, rfl⟩
 rw [← hzz] at hcon hz
 have Hcon := Lib.hid hcon
 clear hcon hx hy hzz ht
 go_enter Tryz.func66, Tryz.ntmps66
 go_wp2_with fail
 refine Hcon.out.mono ?_
 rintro e w' ⟨rfl, rfl⟩
 go_wp2_with fail
 go_ret
 exact ⟨rfl, rfl⟩
theorem run_fromB (b n cap k : Nat) (hk : k ≤ n) (w : World) : (Instr.slice 127 (.slice (some ⟨b, 0, none⟩) n cap) (some (.int .i64 k)) none none).run Tryz.prog w = .ok (.slice (if cap = k then some ⟨b, 0, none⟩ else some ⟨b, k, none⟩) (n - k) (cap - k)) w := by
 have hu : Tryz.prog.underlying 127 = some (.slice (Tryz.prog.elem 127)) := by kernel_rfl
 have hs : ∀ w, (sizeOf (Tryz.prog.elem 127)).run Tryz.prog w = .ok 1 w := fun w => by kernel_rfl
 rw [run_slice_l w 127 (some ⟨b, 0, none⟩) n cap hu .i64 k (by omega) (by omega), hs]
 unfold sliced
 simp only [Result.andThen, Int.toNat_natCast]
 split <;> simp [Addr.add] <;> omega
theorem onceB_snoc : ∀ (l : List (List Int)) (a b : List Int), onceB (l ++ [a, b]) = if a = b then onceB (l ++ [a]) else onceB (l ++ [a]) ++ [b]
 | [], a, b => by simp [onceB]; split <;> simp_all
 | [x], a, b => by
  simp only [List.cons_append, List.nil_append, onceB]
  by_cases e1 : x = a <;> by_cases e2 : a = b <;> simp [e1, e2]
 | x :: y :: l, a, b => by
  have ih := onceB_snoc (y :: l) a b
  simp only [List.cons_append] at ih ⊢
  rw [onceB, ih]
  conv => rhs; rw [onceB]
  by_cases e1 : x = y
  · rw [if_pos e1, if_pos e1]
  ·
   rw [if_neg e1, if_neg e1]
   split <;> rfl
theorem onceB_take {l : List (List Int)} {i : Nat} (h : i + 1 < l.length) : onceB (l.take (i + 2)) = if l[i] = l[i + 1] then onceB (l.take (i + 1)) else onceB (l.take (i + 1)) ++ [l[i + 1]] := by
 have e1 : l.take (i + 1) = l.take i ++ [l[i]] := List.take_succ_eq_append_getElem (by omega)
 have e2 : l.take (i + 2) = l.take i ++ [l[i], l[i + 1]] := by
  show l.take (i + 1 + 1) = _
  rw [List.take_succ_eq_append_getElem h, e1, List.append_assoc]; rfl
 rw [e2, e1]; exact onceB_snoc _ _ _
theorem onceB_id {l : List (List Int)} : ∀ k, k ≤ l.length → (∀ i (h : i + 1 < l.length), i + 1 < k → l[i] ≠ l[i + 1]) → onceB (l.take k) = l.take k
 | 0, _, _ => by simp [onceB]
 | 1, _, _ => by
  cases l with
  | nil => simp [onceB]
  | cons a l => simp [onceB]
 | k + 2, hk, hd => by
  have ih := onceB_id (k + 1) (by omega) fun i h hi => hd i h (by omega)
  rw [onceB_take (by omega), if_neg (hd k (by omega) (by omega)), ih]
  exact (List.take_succ_eq_append_getElem (by omega)).symm
theorem drewN_two (w : World) (a b : Nat) : (w.drewN a).drewN b = w.drewN (a + b) := by simp [World.drewN, Nat.add_assoc]
set_option maxRecDepth 100000 in
set_option maxHeartbeats 4000000 in
theorem compactB_walk (g cap B : Nat) (ps : List Ky) (w : World) (h : KyI w g cap ps) (hl : ps.length ≤ cap) (hsz : ps.length ≤ 1000000) (hB : w.cell? ⟨B, 0, none⟩ = some (.func (.func 61) #[] #[])) (hBg : B ≠ g) :
  Calls Tryz.prog 65 #[.slice (some ⟨g, 0, none⟩) ps.length cap, .func (.func 66) #[] #[.pointer (some ⟨B, 0, none⟩)]] w
   fun e w' => ∃ ts, e = .returned (.slice (some ⟨g, 0, none⟩) ts.length cap) ∧ kyB ts = onceB (kyB ps) ∧ (∀ p ∈ ts, p ∈ ps) ∧ KyI w' g cap ts ∧ w.grownBy w' (some g) := by
 obtain ⟨n, hn⟩ : ∃ n, n = ps.length := ⟨_, rfl⟩
 rw [← hn] at hl hsz ⊢
 have H := Lib.hid h; have Hn := Lib.hid hn
 have cell : ∀ i (hi : i < ps.length), w.cell? ⟨g, i, none⟩ = some (.slice ps[i].2.1 ps[i].1.length ps[i].2.2) := fun i hi => by
  rw [h.row.cell? i (by simpa using hi), List.getElem?_map, List.getElem?_eq_getElem hi]; rfl
 have Hcell := Lib.hid cell
 clear h hn cell
 by_cases h2 : n < 2
 ·
  have i1 : (n : Int) < 2 := by omega
  go_enter Tryz.func65, Tryz.ntmps65
  go_wp2_with fail
  go_ret
  refine ⟨ps, by rw [← Hn.out]; rfl, ?_, fun p hp => hp, H.out, World.grownBy.refl _ _⟩
  have hl := Hn.out
  match ps, hl with
  | [], _ => rfl
  | [p], _ => rfl
  | p :: q :: r, hl => simp at hl; omega
 ·
  have i1 : ¬ (n : Int) < 2 := by omega
  go_enter Tryz.func65, Tryz.ntmps65
  go_wp2_with fail
  go_loopg [5] (n - 1) (fun r iv wj => ∃ k q : Nat, k + r = n ∧ 1 ≤ k ∧ iv = .int .i64 (k : Nat) ∧ (∀ i (hi : i + 1 < ps.length), i + 1 < k → ps[i].1 ≠ ps[i + 1].1) ∧ wj = w.drewN q)
  case atStart => exact ⟨1, 0, by omega, by omega, rfl, fun i hi h => by omega, rfl⟩
  case round =>
   obtain ⟨k, q, hk, hk1, rfl, hdis, hq⟩ := hrel; have hI : KyI wr g cap ps := by rw [hq]; exact ⟨H.out.row.drewN q, H.out.each⟩
   have hBr : wr.cell? ⟨B, 0, none⟩ = some (.func (.func 61) #[] #[]) := by rw [hq]; exact hB
   have Hk := Lib.hid hk; have Hdis := Lib.hid hdis; have Hq := Lib.hid hq; have HI := Lib.hid hI; clear hk hdis hq hI; by_cases hkn : k < n
   ·
    obtain ⟨j, hj⟩ : ∃ j, k = j + 1 := ⟨k - 1, by omega⟩
    have e1 : (k : Int) - 1 = (j : Int) := by omega
    have e2 : IntKind.i64.wrap (j : Int) = (j : Int) := IntWalk.i64_in _ (by omega); have hk2 : k < ps.length := by rw [← Hn.out]; exact hkn
    have hj0 : j < ps.length := by omega
    have cx : wr.cell? ⟨g, k, none⟩ = some (.slice ps[k].2.1 ps[k].1.length ps[k].2.2) := by rw [Hq.out]; exact Hcell.out k hk2
    have cy : wr.cell? ⟨g, j, none⟩ = some (.slice ps[j].2.1 ps[j].1.length ps[j].2.2) := by rw [Hq.out]; exact Hcell.out j hj0
    obtain ⟨x, hx⟩ : ∃ x, x = ps[k] := ⟨_, rfl⟩
    obtain ⟨y, hy⟩ : ∃ y, y = ps[j] := ⟨_, rfl⟩
    have hRx := HI.out.each x (by rw [hx]; exact List.getElem_mem _); have hRy := HI.out.each y (by rw [hy]; exact List.getElem_mem _); rw [← hx] at cx; rw [← hy] at cy; obtain ⟨t, ht⟩ : ∃ t, (x.1 == y.1) = t := ⟨_, rfl⟩
    have hcall := fun n => (eqF_walk x.2.1 y.2.1 x.2.2 y.2.2 B x.1 y.1 t (wr.drewN n) ht hRx.1 hRy.1 hRx.2.1 hRy.2.1 hBr).mono fun _ _ h => (⟨h.1, h.2.symm⟩ : _ ∧ _)
    have i2 : (k : Int) < (n : Int) := by omega
    have i3 : (j : Int) < (n : Int) := by omega
    have Hx := Lib.hid hx; have Hy := Lib.hid hy; have Ht := Lib.hid ht; have Hj := Lib.hid hj; clear hx hy ht hRx hRy hj; obtain ⟨⟨xb, xa, xc⟩, rfl⟩ : ∃ z : Ky, z = x := ⟨_, rfl⟩
    obtain ⟨⟨yb, ya, yc⟩, rfl⟩ : ∃ z : Ky, z = y := ⟨_, rfl⟩
    simp only at cx cy hcall; go_upto_region 6 with (fail)
    go_quiet ((go_at_call 66; exact (hcall _).mono fun _ _ h => ⟨h.1, _, h.2.symm⟩))
    clear hcall; cases t with
    | false =>
     have hnx : ∀ i (hi : i + 1 < ps.length), i + 1 < k + 1 → ps[i].1 ≠ ps[i + 1].1 := fun i hi hlt e => by
      by_cases e2 : i = j
      ·
       subst e2; have h1 := Ht.out; have h2 : xb = ps[i + 1].1 := by
        have := congrArg Prod.fst Hx.out; simp only [Hj.out] at this; exact this
       rw [h2, show yb = ps[i].1 from congrArg Prod.fst Hy.out, e, beq_self_eq_true] at h1; cases h1
      · exact Hdis.out i hi (by have := Hj.out; omega) e
     have Hnx := Lib.hid hnx; clear hnx; go_wp2_with fail; go_roundg (gk - 1)
     case measure => have := Hk.out; omega
     case rel => exact ⟨k + 1, _, by have := Hk.out; omega, by omega, by go_num, Hnx.out, by rw [Hq.out]; exact drewN_two _ _ _⟩
    | true =>
     have e3 : k ≠ cap := by omega
     have hsl := fun w => run_fromB g n cap k (by omega) w; simp only [if_neg (Ne.symm e3)] at hsl; have hgr : w.grownBy (wr.drewN nq) (some g) := by rw [Hq.out]; exact ⟨rfl, rfl, rfl, Nat.le_refl _, fun _ _ _ => rfl⟩
     have hrow : Row (wr.drewN nq) g 28 1 cap (ps.map kyV) := HI.out.row.drewN nq; have hst : kyB (ps.take k) = onceB (kyB (ps.take (k + 1))) := by
      have h1 := onceB_id (l := kyB ps) k (by rw [kyB_len]; omega) fun i hi hik => by
       have := Hdis.out i (by rw [kyB_len] at hi; exact hi) hik; simpa [kyB] using this
      have h2 := onceB_take (l := kyB ps) (i := j) (by rw [kyB_len]; have := Hj.out; omega); have hb : yb = xb := by have := Ht.out; rw [beq_iff_eq] at this; exact this.symm
      have hx2 : xb = ps[j + 1].1 := by
       have := congrArg Prod.fst Hx.out; simp only [Hj.out] at this; exact this
      have hy2 : yb = ps[j].1 := congrArg Prod.fst Hy.out; have e4 : (kyB ps)[j]'(by rw [kyB_len]; omega) = (kyB ps)[j + 1]'(by rw [kyB_len]; have := Hj.out; omega) := by
       simp only [kyB, List.getElem_map]; rw [← hx2, ← hy2, hb]
      rw [if_pos e4] at h2; have e5 : ∀ i, kyB (ps.take i) = (kyB ps).take i := fun i => by simp [kyB, List.map_take]
      rw [e5, e5, Hj.out, h2, ← Hj.out, h1]
     generalize wr.drewN nq = w1 at *
     have hsl1 := hsl w1; have Hst := Lib.hid hst; have Hgr := Lib.hid hgr; have Hrow := Lib.hid hrow; clear hst hgr hrow cx cy hsl hBr; obtain ⟨k0, hk0⟩ : ∃ k0, k0 = k := ⟨_, rfl⟩
     subst hk0; go_wp2_with fail; clear hsl1; go_loopg [5, 7] (n - k0 - 1) (fun r kv iv wj => ∃ (k2 k' : Nat) (R : List Ky), k2 + r = n - k0 ∧ 1 ≤ k2 ∧ iv = .int .i64 (k2 : Nat) ∧ kv = .int .i64 (k' : Nat) ∧ R.length = n ∧ kyB (R.take k') = onceB (kyB (ps.take (k0 + k2))) ∧ (∀ i, k0 + k2 ≤ i + 1 → R[i]? = ps[i]?) ∧ k' + 1 ≤ k0 + k2 ∧ (∀ p ∈ R, p ∈ ps) ∧ Row wj g 28 1 cap (R.map kyV) ∧ w.grownBy wj (some g))
     case atStart => exact ⟨1, k0, ps, by omega, by omega, rfl, rfl, Hn.out.symm, Hst.out, fun i _ => rfl, by omega, fun p hp => hp, Hrow.out, Hgr.out⟩
     case round =>
      clear Hst Hgr Hrow; obtain ⟨k2, k', R, hk2, hk21, rfl, rfl, hRl, hRt, hRd, hk', hRs, hrow, hgr⟩ := hrel; have Hk2 := Lib.hid hk2; have HRt := Lib.hid hRt; have HRd := Lib.hid hRd; have HRs := Lib.hid hRs; have HRl := Lib.hid hRl; by_cases hkn2 : k2 < n - k0
      ·
       clear hk2 hRt hRd hRs; obtain ⟨j2, hj2⟩ : ∃ j2, k2 = j2 + 1 := ⟨k2 - 1, by omega⟩
       have e4 : (k2 : Int) - 1 = (j2 : Int) := by omega
       have e5 : IntKind.i64.wrap (j2 : Int) = (j2 : Int) := IntWalk.i64_in _ (by omega); have hi1 : k0 + k2 < ps.length := by rw [← Hn.out]; omega
       have hi0 : k0 + j2 < ps.length := by omega
       obtain ⟨x, hx⟩ : ∃ x, x = ps[k0 + k2] := ⟨_, rfl⟩
       obtain ⟨y, hy⟩ : ∃ y, y = ps[k0 + j2] := ⟨_, rfl⟩
       have hRx1 : R[k0 + k2]? = some x := by rw [HRd.out _ (by omega), List.getElem?_eq_getElem hi1, hx]
       have hRy1 : R[k0 + j2]? = some y := by rw [HRd.out _ (by omega), List.getElem?_eq_getElem hi0, hy]
       have cx : wr.cell? ⟨g, k0 + k2, none⟩ = some (.slice x.2.1 x.1.length x.2.2) := by
        rw [hrow.cell? _ (by rw [List.length_map, hRl]; omega), List.getElem?_map, hRx1]; rfl
       have cy : wr.cell? ⟨g, k0 + j2, none⟩ = some (.slice y.2.1 y.1.length y.2.2) := by
        rw [hrow.cell? _ (by rw [List.length_map, hRl]; omega), List.getElem?_map, hRy1]; rfl
       have hRx := (H.out.each x (by rw [hx]; exact List.getElem_mem _)).grown hgr fun ad ha e => (H.out.each x (by rw [hx]; exact List.getElem_mem _)).2.2 ad ha (by cases e; rfl); have hRy := (H.out.each y (by rw [hy]; exact List.getElem_mem _)).grown hgr fun ad ha e => (H.out.each y (by rw [hy]; exact List.getElem_mem _)).2.2 ad ha (by cases e; rfl); have hBr : wr.cell? ⟨B, 0, none⟩ = some (.func (.func 61) #[] #[]) := hgr.cell hB fun e => hBg (by cases e; rfl); obtain ⟨t, ht⟩ : ∃ t, (x.1 == y.1) = t := ⟨_, rfl⟩
       have hcall := fun n => (eqF_walk x.2.1 y.2.1 x.2.2 y.2.2 B x.1 y.1 t (wr.drewN n) ht hRx.1 hRy.1 hRx.2.1 hRy.2.1 hBr).mono fun _ _ h => (⟨h.1, h.2.symm⟩ : _ ∧ _)
       have i4 : (k2 : Int) < ((n - k0 : Nat) : Int) := by omega
       have i5 : (j2 : Int) < ((n - k0 : Nat) : Int) := by omega
       have hon : onceB (kyB (ps.take (k0 + (k2 + 1)))) = if y.1 = x.1 then onceB (kyB (ps.take (k0 + k2))) else onceB (kyB (ps.take (k0 + k2))) ++ [x.1] := by
        have h1 := onceB_take (l := kyB ps) (i := k0 + j2) (by rw [kyB_len]; omega); have e6 : ∀ i, kyB (ps.take i) = (kyB ps).take i := fun i => by simp [kyB, List.map_take]
        have e7 : (kyB ps)[k0 + j2]'(by rw [kyB_len]; omega) = y.1 := by simp only [kyB, List.getElem_map]; rw [hy]
        have e8 : (kyB ps)[k0 + j2 + 1]'(by rw [kyB_len]; omega) = x.1 := by simp only [kyB, List.getElem_map]; rw [hx]; simp only [hj2, Nat.add_assoc]
        rw [e7, e8] at h1; rw [e6, e6, hj2, show k0 + (j2 + 1 + 1) = k0 + j2 + 2 by omega, show k0 + (j2 + 1) = k0 + j2 + 1 by omega]; exact h1
       have Ht := Lib.hid ht; have Hon := Lib.hid hon; have Hrow := Lib.hid hrow; have Hgr := Lib.hid hgr; have HRx := Lib.hid hRx1; have Hx := Lib.hid hx; clear ht hon hRx hRy hrow hgr hRx1 hRy1 hx hy hj2 hBr; obtain ⟨⟨xb, xa, xc⟩, rfl⟩ : ∃ z : Ky, z = x := ⟨_, rfl⟩
       obtain ⟨⟨yb, ya, yc⟩, rfl⟩ : ∃ z : Ky, z = y := ⟨_, rfl⟩
       simp only at cx cy hcall; go_upto_region 11 with (fail)
       go_quiet ((go_at_call 66; exact (hcall _).mono fun _ _ h => ⟨h.1, _, h.2.symm⟩))
       clear hcall; cases t with
       | true =>
        have hnx : kyB (R.take k') = onceB (kyB (ps.take (k0 + (k2 + 1)))) := by
         have hb : yb = xb := by have := Ht.out; rw [beq_iff_eq] at this; exact this.symm
         rw [Hon.out, if_pos hb]; exact HRt.out
        have Hnx := Lib.hid hnx; have hrow1 := Hrow.out.drewN nq; have hgr1 : w.grownBy (wr.drewN nq) (some g) := ⟨Hgr.out.os, Hgr.out.tape, Hgr.out.output, Hgr.out.size, Hgr.out.block⟩
        have Hrow1 := Lib.hid hrow1; have Hgr1 := Lib.hid hgr1; clear hnx hrow1 hgr1; go_wp2_with fail; go_roundg (gk - 1)
        case measure => have := Hk2.out; omega
        case rel => exact ⟨k2 + 1, k', R, by have := Hk2.out; omega, by omega, by go_num, rfl, HRl.out, Hnx.out, fun i hi => HRd.out i (by omega), by omega, HRs.out, Hrow1.out, Hgr1.out⟩
       | false =>
        have hne : ¬ yb = xb := fun e => by have := Ht.out; rw [beq_eq_false_iff_ne] at this; exact this e.symm
        have hk'n : k' < R.length := by have := HRl.out; omega
        have hnx : kyB ((R.set k' (xb, xa, xc)).take (k' + 1)) = onceB (kyB (ps.take (k0 + (k2 + 1)))) := by
         have e9 : (R.set k' (xb, xa, xc)).take (k' + 1) = R.take k' ++ [(xb, xa, xc)] := by
          rw [List.take_add_one, List.take_set_of_le (by omega)]; simp [hk'n]
         rw [Hon.out, if_neg hne, e9, ← HRt.out]; simp [kyB]
        have ck : wr.cell? ⟨g, k', none⟩ = some (.slice R[k'].2.1 R[k'].1.length R[k'].2.2) := by
         rw [Hrow.out.cell? k' (by rw [List.length_map]; exact hk'n), List.getElem?_map, List.getElem?_eq_getElem hk'n]; rfl
        have fk := Hrow.out.frozen k'; have hrow1 : Row ((wr.setCell ⟨g, k', none⟩ (.slice xa xb.length xc)).drewN nq) g 28 1 cap ((R.set k' (xb, xa, xc)).map kyV) := by
         have := (Hrow.out.set k' (kyV (xb, xa, xc))).drewN nq; rw [← List.map_set] at this; exact this
        have hgr0 := grown_trans Hgr.out (grown_setCell wr g k' (.slice xa xb.length xc)); have hgr1 : w.grownBy ((wr.setCell ⟨g, k', none⟩ (.slice xa xb.length xc)).drewN nq) (some g) := ⟨hgr0.os, hgr0.tape, hgr0.output, hgr0.size, hgr0.block⟩
        have i6 : (k' : Int) < (n : Int) := by have := HRl.out; omega
        have Hnx := Lib.hid hnx; have Hrow1 := Lib.hid hrow1; have Hgr1 := Lib.hid hgr1; clear hnx hrow1 hgr1 hgr0 hne; go_wp2_with fail; go_roundg (gk - 1)
        case measure => have := Hk2.out; omega
        case rel =>
         refine ⟨k2 + 1, k' + 1, R.set k' (xb, xa, xc), by have := Hk2.out; omega, by omega, by go_num, by go_num, by rw [List.length_set]; exact HRl.out, Hnx.out, fun i hi => ?_, by omega, fun p hp => ?_, Hrow1.out, Hgr1.out⟩
         · rw [List.getElem?_set_ne (by omega)]; exact HRd.out i (by omega)
         ·
          rcases List.mem_or_eq_of_mem_set hp with hp | hp
          · exact HRs.out p hp
          · rw [hp, Hx.out]; exact List.getElem_mem _
      ·
       have hk2n : k2 = n - k0 := by omega
       have hall : kyB (R.take k') = onceB (kyB ps) := by
        have h1 := HRt.out; rw [hk2n, show k0 + (n - k0) = n by omega, Hn.out, List.take_length] at h1; exact h1
       have hk'n : k' < n := by omega
       have e4 : k' ≠ cap := by omega
       have hsl := run_fromB g n cap k' (by omega) wr; rw [if_neg (Ne.symm e4)] at hsl; have hcl : ∀ ty, (Builtin.clear_ #[127] ty #[.slice (some ⟨g, k', none⟩) (n - k') (cap - k')]).run Tryz.prog wr = .ok (.tuple #[]) (wr.setCells g k' (Builtin.zeroCells (Value.slice none 0 0).cells (n - k')).toList) := fun ty =>
        run_clear_many wr _ 28 ty (.slice none 0 0) 1 Tryz.underlying127 (fun w => by kernel_rfl) rfl (by intro u hu; simp [Value.cells] at hu; subst hu; rfl) g k' (n - k') (cap - k') (by omega)
         (fun t ht => by rw [hrow.cell? _ (by rw [List.length_map, hRl]; omega), List.getElem?_eq_getElem (by rw [List.length_map, hRl]; omega)]; rfl) (fun t ht => hrow.frozen _)
       have hzl : (Builtin.zeroCells (Value.slice none 0 0).cells (n - k')).toList.length = n - k' := by
        rw [Array.length_toList, size_zeroCells]; show (n - k') * 1 = n - k'; omega
       have hr2 := (Row.setCells (Builtin.zeroCells (Value.slice none 0 0).cells (n - k')).toList k' wr _ hrow (by rw [hzl, List.length_map, hRl]; omega)).take k'; have hsp : (spliced (R.map kyV) k' (Builtin.zeroCells (Value.slice none 0 0).cells (n - k')).toList).take k' = (R.take k').map kyV := by
        unfold spliced; rw [List.take_append_of_le_length (by rw [List.length_take, List.length_map, hRl]; omega), List.take_take, Nat.min_self, List.map_take]
       rw [hsp] at hr2; have hg2 := grown_trans hgr (grown_setCells g (Builtin.zeroCells (Value.slice none 0 0).cells (n - k')).toList k' wr); obtain ⟨wz, hwz⟩ : ∃ wz, wz = wr.setCells g k' (Builtin.zeroCells (Value.slice none 0 0).cells (n - k')).toList := ⟨_, rfl⟩
       rw [← hwz] at hcl hr2 hg2; have hlen : (R.take k').length = k' := by rw [List.length_take, hRl]; omega
       have Hall := Lib.hid hall; have Hr2 := Lib.hid hr2; have Hg2 := Lib.hid hg2; have Hlen := Lib.hid hlen; have i6 : (k' : Int) ≤ (n : Int) := by omega
       have i7 : k' ≤ cap := by omega
       clear hall hr2 hg2 hlen hwz hsp hzl hrow hgr hRt hRd hRl hk2 hk2n; go_wp2_with fail; go_ret; refine ⟨R.take k', by rw [Hlen.out] <;> rfl, Hall.out, fun p hp => HRs.out p (List.mem_of_mem_take hp), H.out.grownSelf Hr2.out Hg2.out fun p hp => HRs.out p (List.mem_of_mem_take hp), Hg2.out⟩
   ·
    have hkn2 : k = n := by have := Hk.out; omega
    have hall : onceB (kyB ps) = kyB ps := by
     have h1 := onceB_id (l := kyB ps) k (by rw [kyB_len]; have := Hn.out; omega) fun i hi hik => by
      have := Hdis.out i (by rw [kyB_len] at hi; exact hi) hik; simpa [kyB] using this
     rw [hkn2, Hn.out, ← kyB_len, List.take_length] at h1; exact h1
    have hgr : w.grownBy wr (some g) := by rw [Hq.out]; exact ⟨rfl, rfl, rfl, Nat.le_refl _, fun _ _ _ => rfl⟩
    have Hall := Lib.hid hall; have Hgr := Lib.hid hgr; clear hall hgr hkn2; go_wp2_with fail; go_ret; exact ⟨ps, by rw [← Hn.out] <;> rfl, Hall.out.symm, fun p hp => hp, HI.out, Hgr.out⟩
end Go.Proofs.YtagjdkkfmfombaaGreat
namespace Go.Proofs.YtagjdkkfmfombaaGreat
open Go Go.RowKit
def ord2 (x y : Nat) (tx ty : Int) : List Nat := if ty < tx then [y, x] else [x, y]
def key2 (tx ty : Int) : List Int := codeL [tx, ty] (if ty < tx then [1, 0] else [0, 1]) [(0, 1)]
theorem ord2_pos {x y : Nat} (hxy : x < y) (tx ty : Int) : (ord2 x y tx ty).map (pos2 x) = if ty < tx then [1, 0] else [0, 1] := by
 have h0 : pos2 x x = 0 := by simp [pos2]
 have h1 : pos2 x y = 1 := by unfold pos2; rw [if_neg (by omega)]
 unfold ord2
 split <;> simp [h0, h1]
def RetNm (w : World) (x y : Nat) (tx ty : Int) (e : Ending) (w' : World) : Prop :=
 ∃ g c g2 c2, e = .returned (.tuple #[.agg #[.slice (some ⟨g, 0, none⟩) (key2 tx ty).length c, .slice (some ⟨g2, 0, none⟩) 2 c2], .int .i64 0]) ∧
  Row w' g 5 1 c ((key2 tx ty).map byteV) ∧ (key2 tx ty).length ≤ c ∧ Row w' g2 3 1 c2 ((ord2 x y tx ty).map vN) ∧ w.heap.size ≤ g ∧ w.heap.size ≤ g2 ∧ Below w.heap.size w w'
set_option maxRecDepth 100000 in
set_option maxHeartbeats 4000000 in
theorem limbCanon_walk (a b : Option Addr) (ca cb x y : Nat) (tx ty : Int) (w : World) (hxy : x < y) (hy : y < 1048576) (hr : RdL w a (lk1 x y)) (ht : RdI w b [tx, ty]) (htt : tintsB [tx, ty] 2 = true) :
  Calls Tryz.prog 170 #[.slice a 1 ca, .slice b 2 cb] w (RetNm w x y tx ty) := by
 have hbN := bl_alloc w (.cells #[.slice none 0 0, .slice none 0 0] 30)
 have n0 : (w.alloc (.cells #[.slice none 0 0, .slice none 0 0] 30)).cell? ⟨w.heap.size, 0, none⟩ = some (.slice none 0 0) := by simp
 have n1 : (w.alloc (.cells #[.slice none 0 0, .slice none 0 0] 30)).cell? ⟨w.heap.size, 1, none⟩ = some (.slice none 0 0) := by simp
 have nf : ∀ i, (w.alloc (.cells #[.slice none 0 0, .slice none 0 0] 30)).frozen? ⟨w.heap.size, i, none⟩ = false := fun i => by simp
 have hNl : w.heap.size < (w.alloc (.cells #[.slice none 0 0, .slice none 0 0] 30)).heap.size := by simp
 have hrN := hr.below hbN
 have htN := ht.below hbN
 have hrw := fun w hr ht => limbRight_walk a b ca cb x y [tx, ty] w hxy hy hr ht rfl htt
 have hvw := fun w hr => verts_walk a ca (lk1 x y) w hr (by simp [lk1])
 rw [verts1 hxy] at hvw
 have hl1 : (lk1 x y).length = 1 := rfl
 rw [hl1] at hvw
 have hcw := fun d cd w hr ht ho => limbCode_walk a b d ca cb cd x y [tx, ty] (ord2 x y tx ty) w hxy hy hr ht rfl htt ho (by unfold ord2; split <;> rfl) (by unfold ord2; split <;> simp) (by unfold ord2; split <;> simp <;> omega)
 rw [ord2_pos hxy] at hcw
 obtain ⟨key, hkey⟩ : ∃ key, key = key2 tx ty := ⟨_, rfl⟩
 have hcw2 : ∀ d cd w, RdL w a (lk1 x y) → RdI w b [tx, ty] → CellsAt w d ((ord2 x y tx ty).map vN) → Calls Tryz.prog 175 #[.slice a 1 ca, .slice b 2 cb, .slice d 2 cd] w fun e w' => ∃ g c, e = .returned (.tuple #[.slice (some ⟨g, 0, none⟩) key.length c, .int .i64 0]) ∧ Row w' g 5 1 c (key.map byteV) ∧ key.length ≤ c ∧ w.heap.size ≤ g ∧ Below w.heap.size w w' := by
  rw [hkey]; exact hcw
 obtain ⟨bb, ob, rfl, t0⟩ := htN 0 (.int .i64 tx) rfl
 have Hrw := Lib.hid hrw; have Hvw := Lib.hid hvw; have Hcw := Lib.hid hcw2; have HrN := Lib.hid hrN; have HtN := Lib.hid htN; have HbN := Lib.hid hbN; have Hkey := Lib.hid hkey; have Hnf := Lib.hid nf
 clear hrw hvw hcw hcw2 hrN htN hbN hkey hr ht hl1 t0 nf
 go_enter Tryz.func170, Tryz.ntmps170
 go_upto_region 1 with (fail)
 generalize w.alloc (.cells #[.slice none 0 0, .slice none 0 0] 30) = wN at *
 go_wp2_with fail
 refine (Hrw.out _ HrN.out HtN.out).mono ?_
 rintro e w1 ⟨rfl, hb1⟩
 have hr1 := HrN.out.below hb1
 have Hb1 := Lib.hid hb1; have Hr1 := Lib.hid hr1
 clear hb1 hr1
 go_wp2_with fail
 refine (Hvw.out _ Hr1.out).mono ?_
 rintro e w2 ⟨av, cv, rfl, hrv, -, -, -, hb2⟩
 simp only [List.length_cons, List.length_nil]
 obtain ⟨bv, ov, rfl, v0⟩ := hrv 0 (.int .i64 (x : Nat)) rfl
 obtain ⟨_, _, e1, v1⟩ := hrv 1 (.int .i64 (y : Nat)) rfl
 cases e1
 have hB2 := bl_trans Hb1.out hb2
 have hcl := Tryz.slices_Clone_int bv ov 2 cv [(x : Int), (y : Int)] w2 (by simp) (by omega) (fun j hj => by
  match j, hj with
  | 0, _ => exact v0
  | 1, _ => exact v1)
 have HB2 := Lib.hid hB2; have Hcl := Lib.hid hcl
 clear hb2 hB2 hcl hrv v0 v1
 go_wp2_with fail
 refine Hcl.out.mono ?_
 rintro e w3 ⟨vo, rfl, hown, hne, hb3⟩
 obtain ⟨go_, co, rfl, hco, hgo, hro⟩ := Row.ofOwns hown hne
 replace hro : Row w3 go_ 3 1 co ([x, y].map vN) := hro
 have hB3 := bl_trans HB2.out hb3
 have hNs := HB2.out.size
 have hr3 := HrN.out.below hB3
 have ht3 := HtN.out.below hB3
 obtain ⟨_, _, e2, t0⟩ := ht3 0 (.int .i64 tx) rfl
 cases e2
 obtain ⟨_, _, e3, t1⟩ := ht3 1 (.int .i64 ty) rfl
 cases e3
 replace t0 : w3.cell? ⟨bb, ob, none⟩ = some (.int .i64 tx) := t0
 have HB3 := Lib.hid hB3; have Hr3 := Lib.hid hr3; have Ht3 := Lib.hid ht3; have Hro := Lib.hid hro
 clear hown hne hb3 hB3 hr3 ht3 hro
 go_upto_region 6 with (fail)
 go_quiet (fail)
 clear t0 t1
 have hr4 : RdL (w3.drewN nq) a (lk1 x y) := Hr3.out
 have ht4 : RdI (w3.drewN nq) (some ⟨bb, ob, none⟩) [tx, ty] := Ht3.out
 have hB4 := below_drewN HB3.out nq
 have hro4 := Hro.out.drewN nq
 generalize w3.drewN nq = w4 at *
 have Hr4 := Lib.hid hr4; have Ht4 := Lib.hid ht4; have HB4 := Lib.hid hB4; have Hro4 := Lib.hid hro4
 clear hr4 ht4 hB4 hro4 Hr3 Ht3 HB3 Hro
 by_cases hf : ty < tx
 ·
  have ho2 : ord2 x y tx ty = [y, x] := by unfold ord2; rw [if_pos hf]
  have Ho2 := Lib.hid ho2
  clear ho2
  have hrev := Tryz.slices_Reverse_int_cells go_ 0 2 co [(x : Int), (y : Int)] w4 (by simp) (by omega) (fun j hj => by
   rw [Nat.zero_add, Hro4.out.cell? j (by simpa using hj)]; match j, hj with
   | 0, _ => rfl
   | 1, _ => rfl) (fun j hj => by rw [Nat.zero_add]; exact Hro4.out.frozen j)
  have Hrev := Lib.hid hrev
  clear hrev
  go_wp2_with fail
  refine Hrev.out.mono ?_
  rintro e w5 ⟨rfl, q, rfl⟩
  have hro5 := Row.setCells ((([(x : Int), (y : Int)].take 2).reverse).map (Value.int .i64)) 0 _ _ (Hro4.out.drewN q) (by simp)
  have hB5 := (below_drewN HB4.out q).grown (grown_setCells go_ ((([(x : Int), (y : Int)].take 2).reverse).map (Value.int .i64)) 0 (w4.drewN q)) (by have := HB4.out.size; exact this) (fun k hk => by cases hk; omega)
  have e5 : spliced ([x, y].map vN) 0 ((([(x : Int), (y : Int)].take 2).reverse).map (Value.int .i64)) = [y, x].map vN := by simp [spliced, vN]
  rw [e5] at hro5
  generalize (w4.drewN q).setCells go_ 0 ((([(x : Int), (y : Int)].take 2).reverse).map (Value.int .i64)) = w5 at *
  clear Hrev e5
  have hr5 := HrN.out.below hB5
  have ht5 := HtN.out.below hB5
  have hcc := Hcw.out (some ⟨go_, 0, none⟩) co w5 hr5 ht5 (by rw [Ho2.out]; exact hro5.at_)
  have Hcc := Lib.hid hcc; have Hro5 := Lib.hid hro5; have HB5 := Lib.hid hB5
  clear hr5 ht5 hcc hro5 hB5 Hro4 HB4 Hr4 Ht4
  go_wp2_with fail
  refine Hcc.out.mono ?_
  rintro e w6 ⟨gc, cc, rfl, hrc, hcl, hgc, hb6⟩
  have hN6 := bl_trans HB5.out hb6
  have m0 := keep_cell hN6 n0
  have m1 := keep_cell hN6 n1
  have mf : ∀ i, w6.frozen? ⟨w.heap.size, i, none⟩ = false := fun i => (hN6.frozen (p := ⟨w.heap.size, i, none⟩) hNl).trans (Hnf.out i)
  have mf0 := mf 0
  have mf1 := mf 1
  have hro6 := Hro5.out.below hb6 Hro5.out.lt
  have hs6 := HB5.out.size
  have Hrc := Lib.hid hrc; have Hro6 := Lib.hid hro6; have HN6 := Lib.hid hN6
  clear hb6 hrc hro6 hN6 mf
  go_wp2_with fail
  have hBf := bl_trans HbN.out HN6.out
  have hBf2 := (hBf.setCell (p := ⟨w.heap.size, 0, none⟩) (Nat.le_refl _) (.slice (some ⟨gc, 0, none⟩) key.length cc)).setCell (p := ⟨w.heap.size, 1, none⟩) (Nat.le_refl _) (.slice (some ⟨go_, 0, none⟩) 2 co)
  refine bodyPost_ret (v := .tuple #[.agg #[.slice (some ⟨gc, 0, none⟩) key.length cc, .slice (some ⟨go_, 0, none⟩) 2 co], .int .i64 0]) ?_ rfl ⟨gc, cc, go_, co, by rw [Hkey.out], ?_, by rw [← Hkey.out]; exact hcl, ?_, by omega, by omega, hBf2⟩
  · simp [results, Tryz.results170, go_sem, m0, m1]
  ·
   rw [← Hkey.out]; exact (Hrc.out.other (a := ⟨w.heap.size, 0, none⟩) (by simp only; omega) _).other (a := ⟨w.heap.size, 1, none⟩) (by simp only; omega) _
  ·
   rw [Ho2.out]; exact (Hro6.out.other (a := ⟨w.heap.size, 0, none⟩) (by simp only; omega) _).other (a := ⟨w.heap.size, 1, none⟩) (by simp only; omega) _
 ·
  have ho2 : ord2 x y tx ty = [x, y] := by unfold ord2; rw [if_neg hf]
  have Ho2 := Lib.hid ho2
  clear ho2
  have hro5 := Hro4.out
  have hB5 := HB4.out
  obtain ⟨w5, rfl⟩ : ∃ w5, w5 = w4 := ⟨_, rfl⟩
  have hr5 := HrN.out.below hB5
  have ht5 := HtN.out.below hB5
  have hcc := Hcw.out (some ⟨go_, 0, none⟩) co w5 hr5 ht5 (by rw [Ho2.out]; exact hro5.at_)
  have Hcc := Lib.hid hcc; have Hro5 := Lib.hid hro5; have HB5 := Lib.hid hB5
  clear hr5 ht5 hcc hro5 hB5 Hro4 HB4 Hr4 Ht4
  go_wp2_with fail
  refine Hcc.out.mono ?_
  rintro e w6 ⟨gc, cc, rfl, hrc, hcl, hgc, hb6⟩
  have hN6 := bl_trans HB5.out hb6
  have m0 := keep_cell hN6 n0
  have m1 := keep_cell hN6 n1
  have mf : ∀ i, w6.frozen? ⟨w.heap.size, i, none⟩ = false := fun i => (hN6.frozen (p := ⟨w.heap.size, i, none⟩) hNl).trans (Hnf.out i)
  have mf0 := mf 0
  have mf1 := mf 1
  have hro6 := Hro5.out.below hb6 Hro5.out.lt
  have hs6 := HB5.out.size
  have Hrc := Lib.hid hrc; have Hro6 := Lib.hid hro6; have HN6 := Lib.hid hN6
  clear hb6 hrc hro6 hN6 mf
  go_wp2_with fail
  have hBf := bl_trans HbN.out HN6.out
  have hBf2 := (hBf.setCell (p := ⟨w.heap.size, 0, none⟩) (Nat.le_refl _) (.slice (some ⟨gc, 0, none⟩) key.length cc)).setCell (p := ⟨w.heap.size, 1, none⟩) (Nat.le_refl _) (.slice (some ⟨go_, 0, none⟩) 2 co)
  refine bodyPost_ret (v := .tuple #[.agg #[.slice (some ⟨gc, 0, none⟩) key.length cc, .slice (some ⟨go_, 0, none⟩) 2 co], .int .i64 0]) ?_ rfl ⟨gc, cc, go_, co, by rw [Hkey.out], ?_, by rw [← Hkey.out]; exact hcl, ?_, by omega, by omega, hBf2⟩
  · simp [results, Tryz.results170, go_sem, m0, m1]
  ·
   rw [← Hkey.out]; exact (Hrc.out.other (a := ⟨w.heap.size, 0, none⟩) (by simp only; omega) _).other (a := ⟨w.heap.size, 1, none⟩) (by simp only; omega) _
  ·
   rw [Ho2.out]; exact (Hro6.out.other (a := ⟨w.heap.size, 0, none⟩) (by simp only; omega) _).other (a := ⟨w.heap.size, 1, none⟩) (by simp only; omega) _
end Go.Proofs.YtagjdkkfmfombaaGreat
