/- Facts that the claim rests on, part 13. -/
import Derived.Test.YtagcbnpahgfgmaaGreatKO11
namespace Go.Proofs.YtagcbnpahgfgmaaGreat
open Go Go.RowKit
theorem zT : (∀ (l : List Value) (i : Nat) (a : Value), l.toArray.setIfInBounds i a = (l.set i a).toArray) ∧ (∀ (x : Value) (xs : List Value) (b : Value), (x :: xs).set 0 b = b :: xs) ∧ (∀ (x : Value) (xs : List Value) (b : Value) (n : Nat), (x :: xs).set (n + 1) b = x :: xs.set n b) := ⟨fun _ _ _ => List.setIfInBounds_toArray .., fun _ _ _ => rfl, fun _ _ _ _ => rfl⟩
def bareE (s : Int → Int) (e : Lk) : Lk := (s e.1, s e.2.1, min e.2.2 1)
def PtsO (w : World) (vo : Value) (ps : List PtR) : Prop := Own w vo 49 2 ps.length (ptC ps) ∧ ∀ p ∈ ps, RowP w p
theorem PtsO.below {w w' : World} {vo : Value} {ps : List PtR} (h : PtsO w vo ps) (hb : Below w.heap.size w w') : PtsO w' vo ps :=
 ⟨h.1.ext hb, fun p hp => (h.2 p hp).below hb⟩
theorem bareQ_succ (s : Int → Int) (T : List Pt) (i : Nat) (h : i < T.length) : bareQ s (T.take (i + 1)) = insB (bareP s T[i]) (bareQ s (T.take i)) := by
 unfold bareQ
 rw [List.take_succ_eq_append_getElem h, List.map_append, List.foldl_append]
 rfl
theorem insB_at {x : Pt} {L : List Pt} {k : Nat} (hk : k ≤ L.length) (h1 : ∀ j (h : j < L.length), j < k → cmpLs L[j].2 x.2 ≤ 0) (h2 : ∀ h : k < L.length, ¬ cmpLs L[k].2 x.2 ≤ 0) : insB x L = L.take k ++ x :: L.drop k := by
 induction L generalizing k with
 | nil => simp [insB]
 | cons y r ih =>
  unfold insB
  cases k with
  | zero =>
   have := h2 (by simp); simp only [List.getElem_cons_zero] at this; rw [if_neg this]; rfl
  | succ k =>
   have h0 := h1 0 (by simp) (by omega); simp only [List.getElem_cons_zero] at h0; rw [if_pos h0, ih (k := k) (by simpa using hk) (fun j h hj => h1 (j + 1) (by simpa using h) (by omega)) (fun h => h2 (by simpa using h))]; rfl
def RetB (w : World) (L : List Pt) (e : Ending) (w' : World) : Prop := ∃ v ps, e = .returned v ∧ PtsO w' v ps ∧ ptQ ps = L ∧ Below w.heap.size w w'
theorem PtsO.form {w : World} {vo : Value} {ps : List PtR} (h : PtsO w vo ps) : ∃ ao co, vo = .slice ao ps.length co ∧ CellsAt w ao (ptC ps) ∧ ps.length ≤ co ∧ co ≤ maxLen ∧ (ao = none → ps.length = 0 ∧ co = 0) ∧ (∀ b, ao = some b → b.off = 0 ∧ b.spot = none) := by
 rcases h.1.2 with ⟨rfl, h0⟩ | ⟨g, cap, rfl, hc, hr⟩
 ·
  obtain rfl := List.eq_nil_of_length_eq_zero h0
  exact ⟨none, 0, rfl, fun i u hu => by simp [ptC] at hu, by simp, by unfold maxLen; omega, fun _ => ⟨rfl, rfl⟩, fun b hb => by cases hb⟩
 · exact ⟨_, cap, rfl, hr.at_, hc, hr.cap_le, fun h => (by cases h), fun b hb => by cases hb; exact ⟨rfl, rfl⟩⟩
theorem ptC_take (ps : List PtR) (k : Nat) : (ptC ps).take (k * 2) = ptC (ps.take k) := by
 induction ps generalizing k with
 | nil => simp [ptC]
 | cons p ps ih =>
  cases k with
  | zero => simp [ptC]
  | succ k => rw [ptC_cons, show (k + 1) * 2 = k * 2 + 1 + 1 by omega]; simp only [List.take_succ_cons]; rw [ih, ptC_cons]
theorem ptC_drop (ps : List PtR) (k : Nat) : (ptC ps).drop (k * 2) = ptC (ps.drop k) := by
 induction ps generalizing k with
 | nil => simp [ptC]
 | cons p ps ih =>
  cases k with
  | zero => simp
  | succ k => rw [ptC_cons, show (k + 1) * 2 = k * 2 + 1 + 1 by omega]; simp only [List.drop_succ_cons]; rw [ih]
def YI (w0 wj : World) (B : Nat) (kd : Int) (v : Value) (l : List Lk) : Prop :=
 wj.cell? ⟨B, 0, none⟩ = some (.int .i64 kd) ∧ wj.cell? ⟨B, 1, none⟩ = some v ∧ wj.frozen? ⟨B, 1, none⟩ = false ∧ OwnL wj v l ∧ (∀ g, v.ownBlock = some g → B < g) ∧ Below w0.heap.size w0 wj ∧ w0.heap.size ≤ B
set_option maxRecDepth 100000 in
set_option maxHeartbeats 8000000 in
theorem bareM_walk (hb : Nat) (s : Int → Int) (a : Option Addr) (cap : Nat) (T : List Pt) (w : World) (hq : RdQ w a T) (hT : T.length ≤ 1000) (hl : ∀ q ∈ T, q.2.length ≤ 1000)
  (hF : ∀ q ∈ T, ∀ e ∈ q.2, ∀ v, AtL e v → ∀ w1, Below w.heap.size w w1 → Calls Tryz.prog 14 #[.int .i64 v, .pointer (some ⟨hb, 0, none⟩)] w1 fun e w' => e = .returned (.int .i64 (s v)) ∧ w1 = w') :
  Calls Tryz.prog 17 #[.slice a T.length cap, .func (.func 14) #[] #[.pointer (some ⟨hb, 0, none⟩)]] w (RetB w (bareQ s T)) := by
 have HF := Lib.hid hF; clear hF
 go_enter Tryz.func17, Tryz.ntmps17
 go_wp2_with fail
 go_loopg [5, 14] T.length (fun r vo iv wj => ∃ (i : Nat) (ps : List PtR), i + r = T.length ∧ iv = .int .i64 i ∧ ptQ ps = bareQ s (T.take i) ∧ ps.length = i ∧ PtsO wj vo ps ∧ Below w.heap.size w wj)
 case atStart => exact ⟨0, [], by omega, rfl, rfl, rfl, ⟨own_nil _ _ _, fun p hp => by simp at hp⟩, bl_refl w⟩
 case round =>
  obtain ⟨i, ps, hi, rfl, hpq, hpl, hI, hB⟩ := hrel
  obtain ⟨wo, rfl⟩ : ∃ wo : World, wo = wr := ⟨_, rfl⟩
  have Hi := Lib.hid hi; have Hpq := Lib.hid hpq; have Hpl := Lib.hid hpl; have HI := Lib.hid hI; have HB := Lib.hid hB
  by_cases hil : i < T.length
  ·
   have hqi : T[i]? = some T[i] := List.getElem?_eq_getElem hil; obtain ⟨bp, op, au, cu, rfl, p0, p1, hrq, hcu, hcm⟩ := hq.below hB i _ hqi; have hsm : T[i].2.length ≤ 1000 := hl _ (List.getElem_mem hil); have hst := bareQ_succ s T i hil; have HF2 := Lib.hid (HF.out _ (List.getElem_mem hil)); obtain ⟨⟨kd, lq⟩, hqe⟩ : ∃ q : Pt, T[i] = q := ⟨_, rfl⟩
   rw [hqe] at p0 p1 hrq hcu hsm hst HF2; simp only at p0 p1 hrq hcu hsm HF2; have Hst := Lib.hid hst; have iI : (i : Int) < (T.length : Int) := by omega
   have hbl := bl_alloc wo (.cells #[.int .i64 kd, .slice au lq.length cu] 49); have hbl2 := bl_trans hbl (bl_alloc _ (.cells #[.int .i64 kd, .slice none 0 0] 49)); have d0 : (wo.alloc (.cells #[.int .i64 kd, .slice au lq.length cu] 49)).cell? ⟨wo.heap.size, 0, none⟩ = some (.int .i64 kd) := by simp
   have d1 : ((wo.alloc (.cells #[.int .i64 kd, .slice au lq.length cu] 49)).alloc (.cells #[.int .i64 kd, .slice none 0 0] 49)).cell? ⟨wo.heap.size, 1, none⟩ = some (.slice au lq.length cu) := keep_cell (bl_alloc _ _) (by simp); have hsz : (wo.alloc (.cells #[.int .i64 kd, .slice au lq.length cu] 49)).heap.size = wo.heap.size + 1 := by simp
   have hY0 : YI wo ((wo.alloc (.cells #[.int .i64 kd, .slice au lq.length cu] 49)).alloc (.cells #[.int .i64 kd, .slice none 0 0] 49)) (wo.heap.size + 1) kd (.slice none 0 0) (([] : List Lk).map (bareE s)) := by
    refine ⟨?_, ?_, ?_, own_nil _ _ _, fun g hg => by simp [Value.ownBlock] at hg, hbl2, by omega⟩
    · rw [← hsz]; simp
    · rw [← hsz]; simp
    · rw [← hsz]; simp
   have HY0 := Lib.hid hY0; obtain ⟨gko, hgko⟩ : ∃ g, g = gk := ⟨_, rfl⟩
   have Hgko := Lib.hid hgko; clear hi hpq hpl hI hB hqe hst hgko hY0 hbl hbl2 hqi; go_upto_region 7 with (fail)
   generalize (wo.alloc (.cells #[.int .i64 kd, .slice au lq.length cu] 49)).alloc (.cells #[.int .i64 kd, .slice none 0 0] 49) = wb at *
   go_loopg [24] lq.length (fun r kv wj => ∃ (k : Nat) (v : Value), k + r = lq.length ∧ kv = .int .i64 k ∧ YI wo wj (wo.heap.size + 1) kd v ((lq.take k).map (bareE s)))
   case atStart => exact ⟨0, _, by omega, rfl, HY0.out⟩
   case round =>
    clear HY0; obtain ⟨k, v, hk, rfl, hY⟩ := hrel; have Hk := Lib.hid hk; obtain ⟨y0, y1, y2, y3, y4, y5, y6⟩ := hY; have Hbr := Lib.hid (bl_trans HB.out y5); by_cases hkl : k < lq.length
    ·
     obtain ⟨b1, o1, rfl, q0, q1, q2⟩ := (hrq.below y5).at k hkl; have hft : (lq.take (k + 1)).map (bareE s) = (lq.take k).map (bareE s) ++ [bareE s lq[k]] := by rw [List.take_succ_eq_append_getElem hkl, List.map_append]; rfl
     have hmem : lq[k] ∈ lq := List.getElem_mem hkl; obtain ⟨⟨x, y, z⟩, hxe⟩ : ∃ u : Lk, lq[k] = u := ⟨_, rfl⟩
     rw [hxe] at q0 q1 q2 hft hmem; simp only at q0 q1 q2; have Hfx := Lib.hid (HF2.out _ hmem x (.inl rfl)); have Hfy := Lib.hid (HF2.out _ hmem y (.inr rfl)); have iK : (k : Int) < (lq.length : Int) := by omega
     have sB : wo.heap.size + 1 < wr.heap.size := cell_lt y0; have hbx := bl_alloc wr (.cells #[.int .i64 x, .int .i64 y, .int .i64 z] 38); have Hft := Lib.hid hft; have Hy5 := Lib.hid y5; have Hy4 := Lib.hid y4; have Hy6 := Lib.hid y6; have Hy3 := Lib.hid y3; have Hbx := Lib.hid hbx; obtain ⟨ln, hln⟩ : ∃ ln, ln = (lq.take k).map (bareE s) := ⟨_, rfl⟩
     rw [← hln] at y3; have hll : ln.length = k := by rw [hln]; simp; omega
     have Hln := Lib.hid hln; have Hll := Lib.hid hll; have r0 := keep_cell hbx y0; have r1 := keep_cell hbx y1; have e0 : (wr.alloc (.cells #[.int .i64 x, .int .i64 y, .int .i64 z] 38)).cell? ⟨wr.heap.size, 0, none⟩ = some (.int .i64 x) := by simp
     have e1 : (wr.alloc (.cells #[.int .i64 x, .int .i64 y, .int .i64 z] 38)).cell? ⟨wr.heap.size, 1, none⟩ = some (.int .i64 y) := by simp
     have e2 : (wr.alloc (.cells #[.int .i64 x, .int .i64 y, .int .i64 z] 38)).cell? ⟨wr.heap.size, 2, none⟩ = some (.int .i64 z) := by simp
     have hown : OwnL (wr.alloc (.cells #[.int .i64 x, .int .i64 y, .int .i64 z] 38)) v ln := Own.alloc y3 _; have hfr := (hbx.frozen (p := ⟨wo.heap.size + 1, 1, none⟩) sB).trans y2; have hlt : ∀ g, v.ownBlock = some g → g < wr.heap.size := fun g hg => Own.lt y3 hg; have Hlt := Lib.hid hlt; have hws : (wr.alloc (.cells #[.int .i64 x, .int .i64 y, .int .i64 z] 38)).heap.size = wr.heap.size + 1 := by simp
     have Hws := Lib.hid hws; clear hk hft hxe y5 y4 y6 hbx hln hll y0 y1 y2 y3 hlt hws; go_upto_region 9 with (fail)
     generalize hwx : wr.alloc (.cells #[.int .i64 x, .int .i64 y, .int .i64 z] 38) = wx at *
     refine regionT (fun w' => w'.cell? ⟨wo.heap.size + 1, 1, none⟩ = some v ∧ w'.cell? ⟨wr.heap.size, 0, none⟩ = some (.int .i64 x) ∧ w'.cell? ⟨wr.heap.size, 1, none⟩ = some (.int .i64 y) ∧ w'.cell? ⟨wr.heap.size, 2, none⟩ = some (.int .i64 z)) 17 (by kernel_rfl) ?_; have hS : wx.drew.cell? ⟨wo.heap.size + 1, 1, none⟩ = some v ∧ wx.drew.cell? ⟨wr.heap.size, 0, none⟩ = some (.int .i64 x) ∧ wx.drew.cell? ⟨wr.heap.size, 1, none⟩ = some (.int .i64 y) ∧ wx.drew.cell? ⟨wr.heap.size, 2, none⟩ = some (.int .i64 z) := ⟨r1, e0, e1, e2⟩
     refine tkT 0 ?_ rfl hS ?_ ?_ (by kernel_rfl) (fun _ _ _ h => h) (by rfl); rotate_left; (· intro wS hSw; (try dsimp only at hSw); go_simp; try with_reducible rfl); simp only [Act.put, zT]; refine tkT 1 ?_ rfl hS ?_ ?_ (by kernel_rfl) (fun _ _ _ h => h) (by rfl); rotate_left; (· intro wS hSw; (try dsimp only at hSw); go_simp; try with_reducible rfl); simp only [Act.put, zT]; refine tkT 2 ?_ rfl hS ?_ ?_ (by kernel_rfl) (fun _ _ _ h => h) (by rfl); rotate_left; (· intro wS hSw; (try dsimp only at hSw); go_simp; try with_reducible rfl); simp only [Act.put, zT]; refine tkT 3 ?_ rfl hS ?_ ?_ (by kernel_rfl) (fun _ _ _ h => h) (by rfl); rotate_left; (· intro wS hSw; (try dsimp only at hSw); go_simp; try with_reducible rfl); simp only [Act.put, zT]; refine tkT 4 ?_ rfl hS ?_ ?_ (by kernel_rfl) (fun _ _ _ h => h) (by rfl); rotate_left; (· intro wS hSw; (try dsimp only at hSw); go_simp; try with_reducible rfl); simp only [Act.put, zT]; refine tkT 6 ?_ rfl hS ?_ ?_ (by kernel_rfl) (fun _ _ _ h => h) (by rfl); rotate_left; (· intro wS hSw; (try dsimp only at hSw); go_simp; try with_reducible rfl); simp only [Act.put, zT]; refine tkT 7 ?_ rfl hS ?_ ?_ (by kernel_rfl) (fun _ _ _ h => h) (by rfl); rotate_left; (· intro wS hSw; (try dsimp only at hSw); go_simp; try with_reducible rfl); simp only [Act.put, zT]; refine tkT 8 ?_ rfl hS ?_ ?_ (by kernel_rfl) (fun _ _ _ h => h) (by rfl); rotate_left; (· intro wS hSw; (try dsimp only at hSw); go_simp; try with_reducible rfl); simp only [Act.put, zT]
     refine tkT 10 ?_ rfl hS ?_ ?_ (by kernel_rfl) (fun _ _ _ h => h) (by rfl); rotate_left; (· intro wS hSw; (try dsimp only at hSw); go_simp; try with_reducible rfl); simp only [Act.put, zT]; refine tkT 11 ?_ rfl hS ?_ ?_ (by kernel_rfl) (fun _ _ _ h => h) (by rfl); rotate_left; (· intro wS hSw; (try dsimp only at hSw); go_simp; try with_reducible rfl); simp only [Act.put, zT]; refine tkT 12 ?_ rfl hS ?_ ?_ (by kernel_rfl) (fun _ _ _ h => h) (by rfl); rotate_left; (· intro wS hSw; (try dsimp only at hSw); go_simp; try with_reducible rfl); simp only [Act.put, zT]; refine oneT (i := 5) rfl (by kernel_rfl) (fun K hK => ?_); go_simp; refine (Hfx.out _ (bl_trans Hbr.out (Hbx.out.drew))).mono ?_; rintro e w1 ⟨rfl, rfl⟩; simp only; refine hK _ _ (fun _ => hS) ?_; clear hK K; refine oneT (i := 9) rfl (by kernel_rfl) (fun K hK => ?_); go_simp; refine (Hfy.out _ (bl_trans Hbr.out (Hbx.out.drew))).mono ?_; rintro e w1 ⟨rfl, rfl⟩; simp only; refine hK _ _ (fun _ => hS) ?_; clear hK K; refine tkT 13 ?_ rfl hS ?_ ?_ (by kernel_rfl) (fun _ _ _ h => h) (by rfl); rotate_left; (· intro wS hSw; (try dsimp only at hSw); go_simp; try with_reducible rfl); simp only [Act.put, zT]; refine oneT (i := 14) rfl (by kernel_rfl) (fun K hK => ?_); go_simp; have hB14 := bl_alloc wx.drew (.cells #[.int .i64 (s x), .int .i64 (s y), .int .i64 (min z 1)] 38); have hS14 := And.intro (keep_cell hB14 hS.1) (And.intro (keep_cell hB14 hS.2.1) (And.intro (keep_cell hB14 hS.2.2.1) (keep_cell hB14 hS.2.2.2)))
     refine hK _ _ (fun _ => hS14) ?_; clear hK K hS; have hS := hS14; refine oneT (i := 15) rfl (by kernel_rfl) (fun K hK => ?_); refine step_append_row rfl (.tmp 29) (.tmp 42) 22 rfl 38 (.agg #[.int .i64 0, .int .i64 0, .int .i64 0]) 3 24 Tryz.underlying22 link_info rfl v ln.length _ (by simp [Act.eval]) ((Own.alloc hown _).drew) ⟨wx.heap.size, 0, none⟩ 1 1 [.int .i64 (s x), .int .i64 (s y), .int .i64 (min z 1)] (by simp [Act.eval]) rfl (news3 _ _ _ _ _) (by intro u hu; simp only [List.mem_cons, List.not_mem_nil, or_false] at hu; rcases hu with rfl | rfl | rfl <;> rfl) (by omega) (by have := Hll.out; unfold maxLen; omega) (by have := Hll.out; omega) ?_; intro g3 c3 w3 hr3 hc3 hg3 hor3; have hs3 := hg3.size; simp at hs3; have hne1 : v.ownBlock ≠ some (wo.heap.size + 1) := fun e => by have := Hy4.out _ e; omega
     have hne2 : v.ownBlock ≠ some wr.heap.size := fun e => by have := Hlt.out _ e; omega
     have m1 := grown_cell hg3 hS.1 hne1; have m0 := grown_cell hg3 (keep_cell hB14 (show wx.drew.cell? _ = _ from r0)) hne1; have m2 := grown_frozen hg3 (by have := Hws.out; simp; omega) ((hB14.frozen (p := ⟨wo.heap.size + 1, 1, none⟩) (by have := Hws.out; show wo.heap.size + 1 < wx.heap.size; omega)).trans (show wx.drew.frozen? _ = _ from hfr)) hne1; have mS := And.intro m1 (And.intro (grown_cell hg3 hS.2.1 hne2) (And.intro (grown_cell hg3 hS.2.2.1 hne2) (grown_cell hg3 hS.2.2.2 hne2))); refine hK _ _ (fun _ => mS) ?_; clear hK K hS hS14; have hS := mS; refine tkT 16 ?_ rfl hS ?_ ?_ (by kernel_rfl) (fun _ _ _ h => h) (by rfl); rotate_left; (· intro wS hSw; (try dsimp only at hSw); go_simp; try with_reducible rfl); simp only [Act.put, zT]; refine oneT (i := 17) rfl (by kernel_rfl) (fun K hK => ?_); go_simp; refine hK _ _ (fun h => absurd h (by omega)) ?_; clear hK K hS mS; refine doneT (by kernel_rfl) ?_ _; have hgB : wo.heap.size + 1 < g3 := by
      rcases hor3 with h | h
      · exact Hy4.out _ h
      · have := Hws.out; simp at h; omega
     have hYn : YI wo (w3.setCell ⟨wo.heap.size + 1, 1, none⟩ (.slice (some ⟨g3, 0, none⟩) (ln.length + 1) c3)) (wo.heap.size + 1) kd (.slice (some ⟨g3, 0, none⟩) (ln.length + 1) c3) (ln ++ [bareE s (x, y, z)]) := by
      refine ⟨(World.cell?_setCell_other _ _ _ _ (by simp)).trans m0, World.cell?_setCell_same _ _ _ m1, by simpa using m2, ?_, fun g hg => by cases hg; exact hgB, ?_, by omega⟩
      ·
       refine ⟨by rw [lkCells_length], .inr ⟨g3, c3, by simp, by simpa using hc3, ?_⟩⟩; rw [lkCells_append]; exact hr3.other (by show g3 ≠ wo.heap.size + 1; omega) _
      ·
       have h1 : Below wo.heap.size wo wx := bl_trans Hy5.out Hbx.out; have h2 := (bl_trans h1 (bl_alloc wx (.cells #[.int .i64 (s x), .int .i64 (s y), .int .i64 (min z 1)] 38))).drew; have h3 := h2.grown hg3 (by have := Hws.out; simp; omega) (fun g hg => by have := Hy4.out _ hg; omega); exact h3.setCell (by simp) _
     have HYn := Lib.hid hYn; clear hYn hr3 hc3 hg3 hor3 hs3 m0 m1 m2 hB14 hown hfr r0 r1 e0 e1 e2 hwx; go_wp2_with fail; go_roundg (gk - 1)
     case measure => have := Hk.out; omega
     case rel => exact ⟨k + 1, _, by have := Hk.out; omega, by go_num, by rw [Hft.out, ← Hln.out]; exact HYn.out⟩
    ·
     have hkn : k = lq.length := by omega
     subst hkn; rw [List.take_length] at y3; obtain ⟨ln, hln⟩ : ∃ ln, ln = lq.map (bareE s) := ⟨_, rfl⟩
     rw [← hln] at y3; have hll : ln.length = lq.length := by rw [hln]; simp
     have hlb : sortL ln = bareL s lq := by rw [hln]; rfl
     obtain ⟨lb, hlb2⟩ : ∃ lb, lb = bareL s lq := ⟨_, rfl⟩
     rw [← hlb2] at hlb; obtain ⟨av, cv, rfl, hrl, hav, hcv, hlc⟩ := OwnL.read y3; have hsw := sorted_walk av cv ln wr hrl (by omega); rw [hlb] at hsw; have hyB : ∀ g, av = some g → wo.heap.size + 1 < g.block := fun g hg => y4 _ (hav g hg); have Hlb := Lib.hid hlb2; have Hln := Lib.hid hln; have hbl5 : lb.length ≤ 1000 := by rw [← hlb, sortL_length, hll]; exact hsm
     have sB : wo.heap.size + 1 < wr.heap.size := cell_lt y0; clear hk hln hlb hlb2 hll y3 y4 hav; go_wp2_with fail; refine hsw.mono ?_; rintro e w5 ⟨v5, rfl, ho5, hg5, hb5⟩; have z0 := keep_cell hb5 y0; have z1 := keep_cell hb5 y1; have z2 := (hb5.frozen (p := ⟨wo.heap.size + 1, 1, none⟩) sB).trans y2; have hg5B : ∀ g, v5.ownBlock = some g → g ≠ wo.heap.size + 1 := fun g hg e => by have := hg5 g hg; omega
     have hoS : OwnL (w5.setCell ⟨wo.heap.size + 1, 1, none⟩ v5) v5 lb := ho5.below fun g hg => Below.heap_setCell w5 _ v5 g (hg5B g hg); have hB5 : Below wo.heap.size wo (w5.setCell ⟨wo.heap.size + 1, 1, none⟩ v5) := (bl_trans y5 hb5).setCell (by simp) _; have f0 : (w5.setCell ⟨wo.heap.size + 1, 1, none⟩ v5).cell? ⟨wo.heap.size + 1, 0, none⟩ = some (.int .i64 kd) := (World.cell?_setCell_other _ _ _ _ (by simp)).trans z0; have f1 : (w5.setCell ⟨wo.heap.size + 1, 1, none⟩ v5).cell? ⟨wo.heap.size + 1, 1, none⟩ = some v5 := World.cell?_setCell_same _ _ _ z1; obtain ⟨a5, c5, rfl, hr5, ha5, hc5, hl5⟩ := OwnL.read hoS; have ha5s : ∀ ad, a5 = some ad → ad.block < (w5.setCell ⟨wo.heap.size + 1, 1, none⟩ (.slice a5 lb.length c5)).heap.size := fun ad had => Own.lt hoS (ha5 ad had); have HB5 := Lib.hid hB5; have Ha5 := Lib.hid ha5s; clear hsw hoS ho5 hg5 hg5B hb5 hrl y0 y1 y2 y5 y6 hyB hB5 ha5 ha5s; obtain ⟨ao, co, rfl, hca, hpc, hco, hno, hsp⟩ := HI.out.form; have hpsb : ps.length ≤ 1000 := by have := Hpl.out; omega
     have Hno := Lib.hid hno; have Hsp := Lib.hid hsp; have Hca := Lib.hid hca; clear hno hsp hca; go_wp2_with fail; generalize w5.setCell ⟨wo.heap.size + 1, 1, none⟩ (.slice a5 lb.length c5) = w6 at *
     obtain ⟨gki, hgki⟩ : ∃ g, g = gk := ⟨_, rfl⟩
     clear hgki; go_loopg [11] ps.length (fun r tv wj => ∃ t : Nat, t + r = ps.length ∧ tv = .int .i64 t ∧ (∀ j (h : j < ps.length), j < t → cmpLs ps[j].1.2 lb ≤ 0) ∧ Below w6.heap.size w6 wj)
     case atStart => exact ⟨0, by omega, rfl, fun j h hj => absurd hj (by omega), bl_refl _⟩
     case round =>
      obtain ⟨t, ht, rfl, hle, hb⟩ := hrel; have Ht := Lib.hid ht; have Hle := Lib.hid hle; have Hb := Lib.hid hb; have f0r := keep_cell hb f0; have f1r := keep_cell hb f1; have hwb : Below wo.heap.size wo wr := bl_trans HB5.out hb; by_cases htl : t < ps.length
      ·
       have hcp := ptC_get ps t htl; have hp1 := HI.out.2 _ (List.getElem_mem htl); obtain ⟨bo, oo, hao, u0⟩ := Hca.out _ _ hcp.1; obtain ⟨bo', oo', hao', u1⟩ := Hca.out _ _ hcp.2; rw [hao] at hao'; cases hao'; subst hao; obtain ⟨⟨pt, pa, pc⟩, hpe⟩ : ∃ p : PtR, ps[t] = p := ⟨_, rfl⟩
       rw [hpe] at u0 u1 hp1; unfold ptV at u1; unfold RowP at hp1; obtain ⟨pk, pl⟩ := pt; simp only at u0 u1 hp1; have u0r := keep_cell hwb u0; have u1r := keep_cell hwb u1; rw [show oo + (t * 2 + 1) = oo + t * 2 + 1 by omega] at u1r; have hpr := hp1.1.below hwb; have hr5r := hr5.below hb; have Hpe := Lib.hid hpe; have iT : (t : Int) < (ps.length : Int) := by omega
       have hpl : pl.length ≤ 9223372036854775807 := by have := hp1.2.1; have := hp1.2.2.1; unfold maxLen at this; omega
       have hlbl : lb.length ≤ 9223372036854775807 := by omega
       clear ht hle hb hcp hp1 hpe u0 u1; go_wp2_with fail; refine regionT (fun w' => w'.cell? ⟨bo, oo + t * 2, none⟩ = some (.int .i64 pk) ∧ w'.cell? ⟨bo, oo + t * 2 + 1, none⟩ = some (.slice pa pl.length pc) ∧ w'.cell? ⟨wo.heap.size + 1, 0, none⟩ = some (.int .i64 kd) ∧ w'.cell? ⟨wo.heap.size + 1, 1, none⟩ = some (.slice a5 lb.length c5)) 12 (by kernel_rfl) ?_; have hS : wr.drew.cell? ⟨bo, oo + t * 2, none⟩ = some (.int .i64 pk) ∧ wr.drew.cell? ⟨bo, oo + t * 2 + 1, none⟩ = some (.slice pa pl.length pc) ∧ wr.drew.cell? ⟨wo.heap.size + 1, 0, none⟩ = some (.int .i64 kd) ∧ wr.drew.cell? ⟨wo.heap.size + 1, 1, none⟩ = some (.slice a5 lb.length c5) := ⟨u0r, u1r, f0r, f1r⟩
       refine tkT 0 ?_ rfl hS ?_ ?_ (by kernel_rfl) (fun _ _ _ h => h) (by rfl); rotate_left; (· intro wS hSw; (try dsimp only at hSw); go_simp; try with_reducible rfl); simp only [Act.put, zT]; refine tkT 1 ?_ rfl hS ?_ ?_ (by kernel_rfl) (fun _ _ _ h => h) (by rfl); rotate_left; (· intro wS hSw; (try dsimp only at hSw); go_simp; try with_reducible rfl); simp only [Act.put, zT]; refine tkT 2 ?_ rfl hS ?_ ?_ (by kernel_rfl) (fun _ _ _ h => h) (by rfl); rotate_left; (· intro wS hSw; (try dsimp only at hSw); go_simp; try with_reducible rfl); simp only [Act.put, zT]; refine tkT 3 ?_ rfl hS ?_ ?_ (by kernel_rfl) (fun _ _ _ h => h) (by rfl); rotate_left; (· intro wS hSw; (try dsimp only at hSw); go_simp; try with_reducible rfl); simp only [Act.put, zT]; refine tkT 4 ?_ rfl hS ?_ ?_ (by kernel_rfl) (fun _ _ _ h => h) (by rfl); rotate_left; (· intro wS hSw; (try dsimp only at hSw); go_simp; try with_reducible rfl); simp only [Act.put, zT]; refine tkT 5 ?_ rfl hS ?_ ?_ (by kernel_rfl) (fun _ _ _ h => h) (by rfl); rotate_left; (· intro wS hSw; (try dsimp only at hSw); go_simp; try with_reducible rfl); simp only [Act.put, zT]; refine tkT 6 ?_ rfl hS ?_ ?_ (by kernel_rfl) (fun _ _ _ h => h) (by rfl); rotate_left; (· intro wS hSw; (try dsimp only at hSw); go_simp; try with_reducible rfl); simp only [Act.put, zT]; refine tkT 7 ?_ rfl hS ?_ ?_ (by kernel_rfl) (fun _ _ _ h => h) (by rfl); rotate_left; (· intro wS hSw; (try dsimp only at hSw); go_simp; try with_reducible rfl); simp only [Act.put, zT]
       refine tkT 8 ?_ rfl hS ?_ ?_ (by kernel_rfl) (fun _ _ _ h => h) (by rfl); rotate_left; (· intro wS hSw; (try dsimp only at hSw); go_simp; try with_reducible rfl); simp only [Act.put, zT]; refine tkT 9 ?_ rfl hS ?_ ?_ (by kernel_rfl) (fun _ _ _ h => h) (by rfl); rotate_left; (· intro wS hSw; (try dsimp only at hSw); go_simp; try with_reducible rfl); simp only [Act.put, zT]; refine oneT (i := 10) rfl (by kernel_rfl) (fun K hK => ?_); go_simp; have hc50 := aheadB_walk pa a5 pc c5 pk kd pl lb wr.drew hpr hr5r hpl hlbl; obtain ⟨tb, htb⟩ : ∃ tb, tb = decide (cmpLs pl lb ≤ 0) := ⟨_, rfl⟩
       rw [← htb] at hc50; have Htb := Lib.hid htb; clear htb; refine hc50.mono ?_; rintro e w7 ⟨rfl, hb7⟩; replace hb7 : Below wr.heap.size wr w7 := bl_trans (Below.refl wr.heap.size wr).drew hb7; have hS7 := And.intro (keep_cell hb7 hS.1) (And.intro (keep_cell hb7 hS.2.1) (And.intro (keep_cell hb7 hS.2.2.1) (keep_cell hb7 hS.2.2.2))); simp only; refine hK _ _ (fun _ => hS7) ?_; clear hK K hS hc50; have hS := hS7; refine tkT 11 ?_ rfl hS ?_ ?_ (by kernel_rfl) (fun _ _ _ h => h) (by rfl); rotate_left; (· intro wS hSw; (try dsimp only at hSw); go_simp; try with_reducible rfl); simp only [Act.put, zT]; refine doneT (by kernel_rfl) ?_ _; clear u0r u1r hpr hr5r; cases tb with
       | true =>
        have hnx : ∀ j (h : j < ps.length), j < t + 1 → cmpLs ps[j].1.2 lb ≤ 0 := fun j h hj => by
         by_cases e : j < t
         · exact Hle.out j h e
         ·
          obtain rfl : j = t := by omega
          have := of_decide_eq_true Htb.out.symm; rw [Hpe.out]; exact this
        have Hnx := Lib.hid hnx; have hBn := bl_trans Hb.out hb7; clear hnx hS hS7 hb7; go_wp2_with fail; go_roundg (gk - 1)
        case measure => have := Ht.out; omega
        case rel => exact ⟨t + 1, by have := Ht.out; omega, by go_num, Hnx.out, hBn⟩
       | false =>
        have hgt : ∀ h : t < ps.length, ¬ cmpLs ps[t].1.2 lb ≤ 0 := fun h hh => by
         rw [Hpe.out] at hh; have := of_decide_eq_false Htb.out.symm; exact this hh
        have hcW : CellsAt w7 (some ⟨bo, oo, none⟩) (ptC ps) := Hca.out.below (bl_trans hwb hb7); have hcut := fun w => run_cutG (P := Tryz.prog) 24 2 (by kernel_rfl) (fun w => by kernel_rfl) (some ⟨bo, oo, none⟩) ps.length co t (by omega) w; have hfrom := fun w => run_fromG (P := Tryz.prog) 24 2 (by kernel_rfl) (fun w => by kernel_rfl) (some ⟨bo, oo, none⟩) ps.length co t (by omega) w; have hfa : fromG (some (⟨bo, oo, none⟩ : Addr)) co t 2 = some ⟨bo, oo + t * 2, none⟩ := by
         unfold fromG; rw [if_neg (by omega)]; simp [Addr.add]
        rw [hfa] at hfrom; have hBW := bl_trans Hb.out hb7; have HcW := Lib.hid hcW; have HBW := Lib.hid hBW; have Hgt := Lib.hid hgt; have z0 := hS.2.2.1; have z1 := hS.2.2.2; clear hfa hcW hBW hgt hS hS7 hb7 hwb f0r f1r; go_wp2_with fail; refine regionT (fun w' => w'.cell? ⟨wo.heap.size + 1, 0, none⟩ = some (.int .i64 kd) ∧ w'.cell? ⟨wo.heap.size + 1, 1, none⟩ = some (.slice a5 lb.length c5)) 12 (by kernel_rfl) ?_; have hS : w7.drew.cell? ⟨wo.heap.size + 1, 0, none⟩ = some (.int .i64 kd) ∧ w7.drew.cell? ⟨wo.heap.size + 1, 1, none⟩ = some (.slice a5 lb.length c5) := ⟨z0, z1⟩
        refine tkT 0 ?_ rfl hS ?_ ?_ (by kernel_rfl) (fun _ _ _ h => h) (by rfl); rotate_left; (· intro wS hSw; (try dsimp only at hSw); go_simp; try with_reducible rfl); simp only [Act.put, zT]; refine tkT 1 ?_ rfl hS ?_ ?_ (by kernel_rfl) (fun _ _ _ h => h) (by rfl); rotate_left; (· intro wS hSw; (try dsimp only at hSw); go_simp; try with_reducible rfl); simp only [Act.put, zT]; refine tkT 2 ?_ rfl hS ?_ ?_ (by kernel_rfl) (fun _ _ _ h => h) (by rfl); rotate_left; (· intro wS hSw; (try dsimp only at hSw); go_simp; try with_reducible rfl); simp only [Act.put, zT]; refine tkT 3 ?_ rfl hS ?_ ?_ (by kernel_rfl) (fun _ _ _ h => h) (by rfl); rotate_left; (· intro wS hSw; (try dsimp only at hSw); go_simp; try with_reducible rfl); simp only [Act.put, zT]; refine tkT 4 ?_ rfl hS ?_ ?_ (by kernel_rfl) (fun _ _ _ h => h) (by rfl); rotate_left; (· intro wS hSw; (try dsimp only at hSw); go_simp; try with_reducible rfl); simp only [Act.put, zT]; refine tkT 6 ?_ rfl hS ?_ ?_ (by kernel_rfl) (fun _ _ _ h => h) (by rfl); rotate_left; (· intro wS hSw; (try dsimp only at hSw); go_simp; try with_reducible rfl); simp only [Act.put, zT]; refine tkT 7 ?_ rfl hS ?_ ?_ (by kernel_rfl) (fun _ _ _ h => h) (by rfl); rotate_left; (· intro wS hSw; (try dsimp only at hSw); go_simp; try with_reducible rfl); simp only [Act.put, zT]; refine tkT 8 ?_ rfl hS ?_ ?_ (by kernel_rfl) (fun _ _ _ h => h) (by rfl); rotate_left; (· intro wS hSw; (try dsimp only at hSw); go_simp; try with_reducible rfl); simp only [Act.put, zT]
        refine oneT (i := 5) rfl (by kernel_rfl) (fun K hK => ?_); go_simp; have hBA := bl_alloc w7.drew (.cells #[.int .i64 kd, .slice a5 lb.length c5] 49); have hSA := And.intro (keep_cell hBA hS.1) (keep_cell hBA hS.2); refine hK _ _ (fun _ => hSA) ?_; clear hK K hS; have hS := hSA; have hcA : CellsAt (w7.alloc (.cells #[.int .i64 kd, .slice a5 lb.length c5] 49)).drew (some ⟨bo, oo, none⟩) (ptC ps) := HcW.out.below (show Below w7.heap.size w7 _ from (bl_alloc w7 _).drew); have hol1 : ∀ j u, ((ptC ps).drop (t * 2))[j]? = some u → (w7.alloc (.cells #[.int .i64 kd, .slice a5 lb.length c5] 49)).drew.cell? ((⟨bo, oo + t * 2, none⟩ : Addr).add j) = some u := fun j u hj => by
         rw [List.getElem?_drop] at hj; obtain ⟨b', o', hb', hc'⟩ := hcA _ _ hj; cases hb'; rw [Addr.add_lit, show oo + t * 2 + j = oo + (t * 2 + j) by omega]; exact hc'
        have hlen1 : ((ptC ps).drop (t * 2)).length = (ps.length - t) * 2 := by rw [List.length_drop, ptC_len]; omega
        have hone1 : ∀ u ∈ (ptC ps).drop (t * 2), u.oneCell' = true := fun u hu => ptC_one ps u (List.mem_of_mem_drop hu); refine oneT (i := 9) rfl (by kernel_rfl) (fun K hK => ?_); refine step_append_full rfl (.tmp 69) (.tmp 72) 24 rfl 49 (.agg #[.int .i64 0, .slice none 0 0]) 2 32 Tryz.underlying24 info_part (by decide +kernel) (by omega) (some ⟨w7.heap.size, 0, none⟩) 1 1 [.int .i64 kd, .slice a5 lb.length c5] (by simp [Act.eval]) (by simp) rfl (fun b hb => by cases hb; exact news2 _ _ _ _) ⟨bo, oo + t * 2, none⟩ (ps.length - t) (co - t) _ (by simp [Act.eval]) hlen1 hol1 hone1 (by omega) (by unfold maxLen; omega) (by omega) ?_; intro g8 c8 w8 hr8 hc8 hg8 hs8; have hS8 := And.intro (grown_cell hg8 hS.1 (by simp)) (grown_cell hg8 hS.2 (by simp)); refine hK _ _ (fun _ => hS8) ?_; clear hK K hS hSA; have hS := hS8; have hB78 : Below w7.heap.size w7 w8 := (show Below w7.heap.size w7 (w7.alloc (.cells #[.int .i64 kd, .slice a5 lb.length c5] 49)).drew from (bl_alloc w7 _).drew).grown hg8 (by simp) (fun j hj => by cases hj); have hc8A : CellsAt w8 (some ⟨bo, oo, none⟩) (ptC ps) := HcW.out.below hB78; have hol2 : ∀ b, some (⟨bo, oo, none⟩ : Addr) = some b → ∀ j u, ((ptC ps).take (t * 2))[j]? = some u → w8.cell? (b.add j) = some u := fun b hb j u hj => by
         cases hb; have hjl := (List.getElem?_eq_some_iff.1 hj).1; rw [List.length_take] at hjl; rw [List.getElem?_take, if_pos (by omega)] at hj; obtain ⟨b', o', hb', hc'⟩ := hc8A _ _ hj; cases hb'; rw [Addr.add_lit]; exact hc'
        have hlen2 : ((ptC ps).take (t * 2)).length = t * 2 := by rw [List.length_take, ptC_len]; omega
        have hnew2 : ∀ j u, ([.int .i64 kd, .slice a5 lb.length c5] ++ (ptC ps).drop (t * 2))[j]? = some u → w8.cell? ((⟨g8, 0, none⟩ : Addr).add j) = some u := fun j u hj => by
         have hjl := (List.getElem?_eq_some_iff.1 hj).1; rw [Addr.add_lit, Nat.zero_add, hr8.cell? j hjl]; exact hj
        have hone2 : ∀ u ∈ [.int .i64 kd, .slice a5 lb.length c5] ++ (ptC ps).drop (t * 2), u.oneCell' = true := fun u hu => by
         rcases List.mem_append.1 hu with hu | hu
         · simp at hu; rcases hu with rfl | rfl <;> rfl
         · exact hone1 u hu
        refine oneT (i := 10) rfl (by kernel_rfl) (fun K hK => ?_); refine step_append_full rfl (.tmp 67) (.tmp 73) 24 rfl 49 (.agg #[.int .i64 0, .slice none 0 0]) 2 32 Tryz.underlying24 info_part (by decide +kernel) (by omega) (some ⟨bo, oo, none⟩) t t _ rfl (by simp) hlen2 hol2 ⟨g8, 0, none⟩ (1 + (ps.length - t)) c8 _ rfl (by rw [List.length_append, hlen1]; simp; omega) hnew2 hone2 (by omega) (by unfold maxLen; omega) (by omega) ?_; intro g9 c9 w9 hr9 hc9 hg9 hs9; have hS9 := And.intro (grown_cell hg9 hS.1 (by simp)) (grown_cell hg9 hS.2 (by simp)); refine hK _ _ (fun _ => hS9) ?_; clear hK K hS hS8; have hS := hS9; refine tkT 11 ?_ rfl hS ?_ ?_ (by kernel_rfl) (fun _ _ _ h => h) (by rfl); rotate_left; (· intro wS hSw; (try dsimp only at hSw); go_simp; try with_reducible rfl); simp only [Act.put, zT]; refine doneT (by kernel_rfl) ?_ _; have hB79 : Below w7.heap.size w7 w9 := hB78.grown hg9 hB78.size (fun j hj => by cases hj); have H69 := Lib.hid (bl_trans HBW.out hB79); have HW9 := Lib.hid (bl_trans HB5.out H69.out); have hgt := Hgt.out; clear hS hS9 hB79 hB78 hg9 hs9 hg8 hs8 hnew2 hol2 hlen2 hone2 hone1 hlen1 hol1 hcA hc8A hr8 hc8 hcut hfrom z0 z1 hBA; have hps9 : ∀ p ∈ (ps.take t ++ ((kd, lb), a5, c5) :: ps.drop t), RowP w9 p := fun p hp => by
         have hmm : p ∈ ps ∨ p = ((kd, lb), a5, c5) := by
          simp only [List.mem_append, List.mem_cons] at hp; rcases hp with hp | hp | hp
          · exact .inl (List.mem_of_mem_take hp)
          · exact .inr hp
          · exact .inl (List.mem_of_mem_drop hp)
         rcases hmm with hp | rfl
         · exact (HI.out.2 p hp).below HW9.out
         · exact ⟨hr5.below H69.out, hl5, hc5, fun ad had => Nat.lt_of_lt_of_le (Ha5.out ad had) H69.out.size⟩
        have hpl9 : ((ps.take t ++ ((kd, lb), a5, c5) :: ps.drop t)).length = ps.length + 1 := by simp <;> omega
        have hI9 : PtsO w9 (.slice (some ⟨g9, 0, none⟩) (t + (1 + (ps.length - t))) c9) ((ps.take t ++ ((kd, lb), a5, c5) :: ps.drop t)) := by
         refine ⟨⟨ptC_len _, .inr ⟨g9, c9, by rw [hpl9] <;> (congr 1 <;> omega), by omega, ?_⟩⟩, hps9⟩; rw [ptC_append, ptC_cons, ← ptC_take, ← ptC_drop]; exact hr9
        have hq9 : ptQ ((ps.take t ++ ((kd, lb), a5, c5) :: ps.drop t)) = bareQ s (T.take (i + 1)) := by
         rw [Hst.out]; have e : bareP s (kd, lq) = (kd, lb) := by unfold bareP; rw [← Hlb.out]
         rw [e, ← Hpq.out, insB_at (k := t) (by rw [ptQ_len]; omega) ?_ ?_]
         · unfold ptQ; rw [List.map_append, List.map_cons, List.map_take, List.map_drop]
         ·
          intro j h hj; rw [ptQ_len] at h; have := Hle.out j h hj; have e2 : (ptQ ps)[j]'(by rw [ptQ_len]; exact h) = ps[j].1 := by simp [ptQ]
          rw [e2]; exact this
         ·
          intro h hh; rw [ptQ_len] at h; have e2 : (ptQ ps)[t]'(by rw [ptQ_len]; exact h) = ps[t].1 := by simp [ptQ]
          rw [e2] at hh; have h3 : cmpLs ps[t].1.2 lb ≤ 0 := hh; have := hgt h; omega
        have HI9 := Lib.hid hI9; have Hq9 := Lib.hid hq9; have Hpl9 := Lib.hid hpl9; clear hI9 hq9 hpl9 hps9 hr9 hc9 hgt; go_wp2_with fail; go_roundg (gko - 1)
        case measure => have := Hi.out; have := Hgko.out; omega
        case rel => exact ⟨i + 1, (ps.take t ++ ((kd, lb), a5, c5) :: ps.drop t), by have := Hi.out; have := Hgko.out; omega, by go_num, Hq9.out, by rw [Hpl9.out, Hpl.out], HI9.out, bl_trans HB.out HW9.out⟩
      ·
       have htn : t = ps.length := by omega
       subst htn; have hgt : ∀ h : ps.length < ps.length, ¬ cmpLs ps[ps.length].1.2 lb ≤ 0 := fun h => absurd h (by omega); have Hgt := Lib.hid hgt; have hcut := fun w => run_cutG (P := Tryz.prog) 24 2 (by kernel_rfl) (fun w => by kernel_rfl) ao ps.length co ps.length (by omega) w; have hfrom := fun w => run_fromG (P := Tryz.prog) 24 2 (by kernel_rfl) (fun w => by kernel_rfl) ao ps.length co ps.length (by omega) w; obtain ⟨af, haf⟩ : ∃ af, af = fromG ao co ps.length 2 := ⟨_, rfl⟩
       rw [← haf, Nat.sub_self] at hfrom; clear ht hle hb hgt haf; go_wp2_with fail; refine regionT (fun w' => w'.cell? ⟨wo.heap.size + 1, 0, none⟩ = some (.int .i64 kd) ∧ w'.cell? ⟨wo.heap.size + 1, 1, none⟩ = some (.slice a5 lb.length c5)) 12 (by kernel_rfl) ?_; have hS : wr.drew.cell? ⟨wo.heap.size + 1, 0, none⟩ = some (.int .i64 kd) ∧ wr.drew.cell? ⟨wo.heap.size + 1, 1, none⟩ = some (.slice a5 lb.length c5) := ⟨f0r, f1r⟩
       refine tkT 0 ?_ rfl hS ?_ ?_ (by kernel_rfl) (fun _ _ _ h => h) (by rfl); rotate_left; (· intro wS hSw; (try dsimp only at hSw); go_simp; try with_reducible rfl); simp only [Act.put, zT]; refine tkT 1 ?_ rfl hS ?_ ?_ (by kernel_rfl) (fun _ _ _ h => h) (by rfl); rotate_left; (· intro wS hSw; (try dsimp only at hSw); go_simp; try with_reducible rfl); simp only [Act.put, zT]; refine tkT 2 ?_ rfl hS ?_ ?_ (by kernel_rfl) (fun _ _ _ h => h) (by rfl); rotate_left; (· intro wS hSw; (try dsimp only at hSw); go_simp; try with_reducible rfl); simp only [Act.put, zT]; refine tkT 3 ?_ rfl hS ?_ ?_ (by kernel_rfl) (fun _ _ _ h => h) (by rfl); rotate_left; (· intro wS hSw; (try dsimp only at hSw); go_simp; try with_reducible rfl); simp only [Act.put, zT]; refine tkT 4 ?_ rfl hS ?_ ?_ (by kernel_rfl) (fun _ _ _ h => h) (by rfl); rotate_left; (· intro wS hSw; (try dsimp only at hSw); go_simp; try with_reducible rfl); simp only [Act.put, zT]; refine tkU 5 rfl hS (by rfl) ?_ (by kernel_rfl) (fun _ _ _ h => h); simp only [Act.put, zT]; refine tkU 6 rfl hS (by rfl) ?_ (by kernel_rfl) (fun _ _ _ h => h); simp only [Act.put, zT]; refine tkU 7 rfl hS (by rfl) ?_ (by kernel_rfl) (fun _ _ _ h => h); simp only [Act.put, zT]; refine tkU 8 rfl hS (by rfl) ?_ (by kernel_rfl) (fun _ _ _ h => h); simp only [Act.put, zT]; refine tkU 9 rfl hS (by rfl) ?_ (by kernel_rfl) (fun _ _ _ h => h); simp only [Act.put, zT]; refine tkU 10 rfl hS (by rfl) ?_ (by kernel_rfl) (fun _ _ _ h => h); simp only [Act.put, zT]
       refine tkT 11 ?_ rfl hS ?_ ?_ (by kernel_rfl) (fun _ _ _ h => h) (by rfl); rotate_left; (· intro wS hSw; (try dsimp only at hSw); go_simp; try with_reducible rfl); simp only [Act.put, zT]; refine doneT (by kernel_rfl) ?_ _; go_wp2_with fail; refine regionT (fun w' => w'.cell? ⟨wo.heap.size + 1, 0, none⟩ = some (.int .i64 kd) ∧ w'.cell? ⟨wo.heap.size + 1, 1, none⟩ = some (.slice a5 lb.length c5)) 12 (by kernel_rfl) ?_; replace hS : wr.drew.drew.cell? ⟨wo.heap.size + 1, 0, none⟩ = some (.int .i64 kd) ∧ wr.drew.drew.cell? ⟨wo.heap.size + 1, 1, none⟩ = some (.slice a5 lb.length c5) := ⟨f0r, f1r⟩
       refine tkT 0 ?_ rfl hS ?_ ?_ (by kernel_rfl) (fun _ _ _ h => h) (by rfl); rotate_left; (· intro wS hSw; (try dsimp only at hSw); go_simp; try with_reducible rfl); simp only [Act.put, zT]; refine tkT 1 ?_ rfl hS ?_ ?_ (by kernel_rfl) (fun _ _ _ h => h) (by rfl); rotate_left; (· intro wS hSw; (try dsimp only at hSw); go_simp; try with_reducible rfl); simp only [Act.put, zT]; refine tkT 2 ?_ rfl hS ?_ ?_ (by kernel_rfl) (fun _ _ _ h => h) (by rfl); rotate_left; (· intro wS hSw; (try dsimp only at hSw); go_simp; try with_reducible rfl); simp only [Act.put, zT]; refine tkT 3 ?_ rfl hS ?_ ?_ (by kernel_rfl) (fun _ _ _ h => h) (by rfl); rotate_left; (· intro wS hSw; (try dsimp only at hSw); go_simp; try with_reducible rfl); simp only [Act.put, zT]; refine tkT 4 ?_ rfl hS ?_ ?_ (by kernel_rfl) (fun _ _ _ h => h) (by rfl); rotate_left; (· intro wS hSw; (try dsimp only at hSw); go_simp; try with_reducible rfl); simp only [Act.put, zT]; refine tkT 6 ?_ rfl hS ?_ ?_ (by kernel_rfl) (fun _ _ _ h => h) (by rfl); rotate_left; (· intro wS hSw; (try dsimp only at hSw); go_simp; try with_reducible rfl); simp only [Act.put, zT]; refine tkT 7 ?_ rfl hS ?_ ?_ (by kernel_rfl) (fun _ _ _ h => h) (by rfl); rotate_left; (· intro wS hSw; (try dsimp only at hSw); go_simp; try with_reducible rfl); simp only [Act.put, zT]; refine tkT 8 ?_ rfl hS ?_ ?_ (by kernel_rfl) (fun _ _ _ h => h) (by rfl); rotate_left; (· intro wS hSw; (try dsimp only at hSw); go_simp; try with_reducible rfl); simp only [Act.put, zT]
       refine oneT (i := 5) rfl (by kernel_rfl) (fun K hK => ?_); go_simp; have hBA := bl_alloc wr.drew.drew (.cells #[.int .i64 kd, .slice a5 lb.length c5] 49); have hSA := And.intro (keep_cell hBA hS.1) (keep_cell hBA hS.2); refine hK _ _ (fun _ => hSA) ?_; clear hK K hS; have hS := hSA; refine oneT (i := 9) rfl (by kernel_rfl) (fun K hK => ?_); refine step_append_idleG rfl (.tmp 69) (.tmp 72) 24 rfl 49 (.agg #[.int .i64 0, .slice none 0 0]) 2 32 Tryz.underlying24 info_part (some ⟨wr.heap.size, 0, none⟩) af 1 1 (co - ps.length) rfl rfl (Nat.le_refl _) ?_; refine hK _ _ (fun _ => hS) ?_; clear hK K; have hB78 : Below wr.heap.size wr (wr.drew.drew.alloc (.cells #[.int .i64 kd, .slice a5 lb.length c5] 49)) := (Below.refl wr.heap.size wr).drew.drew.trans (hBA.mono (Nat.le_refl _)); have hc8A : CellsAt (wr.drew.drew.alloc (.cells #[.int .i64 kd, .slice a5 lb.length c5] 49)) ao (ptC ps) := (Hca.out.below hwb).below hB78; have hol2 : ∀ b, ao = some b → ∀ j u, ((ptC ps).take (ps.length * 2))[j]? = some u → (wr.drew.drew.alloc (.cells #[.int .i64 kd, .slice a5 lb.length c5] 49)).cell? (b.add j) = some u := fun b hb j u hj => by
        have hjl := (List.getElem?_eq_some_iff.1 hj).1; rw [List.length_take] at hjl; rw [List.getElem?_take, if_pos (by omega)] at hj; obtain ⟨b', o', hb', hc'⟩ := hc8A _ _ hj; rw [hb] at hb'; cases hb'; rw [Addr.add_lit]; exact hc'
       have hlen2 : ((ptC ps).take (ps.length * 2)).length = ps.length * 2 := by rw [List.length_take, ptC_len]; omega
       refine oneT (i := 10) rfl (by kernel_rfl) (fun K hK => ?_); refine step_append_full rfl (.tmp 67) (.tmp 73) 24 rfl 49 (.agg #[.int .i64 0, .slice none 0 0]) 2 32 Tryz.underlying24 info_part (by decide +kernel) (by omega) ao ps.length ps.length _ rfl (fun h => ⟨(Hno.out h).1, (Hno.out h).1⟩) hlen2 hol2 ⟨wr.heap.size, 0, none⟩ 1 1 [.int .i64 kd, .slice a5 lb.length c5] rfl rfl (news2 wr.drew.drew _ _ _) (by intro u hu; simp at hu; rcases hu with rfl | rfl <;> rfl) (by omega) (by unfold maxLen; omega) (by omega) ?_; intro g9 c9 w9 hr9 hc9 hg9 hs9; have hS9 := And.intro (grown_cell hg9 hS.1 (by simp)) (grown_cell hg9 hS.2 (by simp)); refine hK _ _ (fun _ => hS9) ?_; clear hK K hS hSA; have hS := hS9; refine tkT 11 ?_ rfl hS ?_ ?_ (by kernel_rfl) (fun _ _ _ h => h) (by rfl); rotate_left; (· intro wS hSw; (try dsimp only at hSw); go_simp; try with_reducible rfl); simp only [Act.put, zT]; refine doneT (by kernel_rfl) ?_ _; have hB79 : Below wr.heap.size wr w9 := hB78.grown hg9 hB78.size (fun j hj => by cases hj); have H69 := Lib.hid (bl_trans Hb.out hB79); have HW9 := Lib.hid (bl_trans HB5.out H69.out); have hgt := Hgt.out; have hr9' : Row w9 g9 49 2 c9 ((ptC ps).take (ps.length * 2) ++ ([.int .i64 kd, .slice a5 lb.length c5] ++ (ptC ps).drop (ps.length * 2))) := by
        rw [List.drop_of_length_le (by rw [ptC_len]; omega), List.append_nil]; exact hr9
       clear hr9; have hr9 := hr9'; clear hS hS9 hB79 hB78 hg9 hs9 hol2 hlen2 hc8A hcut hfrom hBA hr9' f0r f1r; have hps9 : ∀ p ∈ (ps.take ps.length ++ ((kd, lb), a5, c5) :: ps.drop ps.length), RowP w9 p := fun p hp => by
        have hmm : p ∈ ps ∨ p = ((kd, lb), a5, c5) := by
         simp only [List.mem_append, List.mem_cons] at hp; rcases hp with hp | hp | hp
         · exact .inl (List.mem_of_mem_take hp)
         · exact .inr hp
         · exact .inl (List.mem_of_mem_drop hp)
        rcases hmm with hp | rfl
        · exact (HI.out.2 p hp).below HW9.out
        · exact ⟨hr5.below H69.out, hl5, hc5, fun ad had => Nat.lt_of_lt_of_le (Ha5.out ad had) H69.out.size⟩
       have hpl9 : ((ps.take ps.length ++ ((kd, lb), a5, c5) :: ps.drop ps.length)).length = ps.length + 1 := by simp <;> omega
       have hI9 : PtsO w9 (.slice (some ⟨g9, 0, none⟩) (ps.length + 1) c9) ((ps.take ps.length ++ ((kd, lb), a5, c5) :: ps.drop ps.length)) := by
        refine ⟨⟨ptC_len _, .inr ⟨g9, c9, by rw [hpl9] <;> (congr 1 <;> omega), by omega, ?_⟩⟩, hps9⟩; rw [ptC_append, ptC_cons, ← ptC_take, ← ptC_drop]; exact hr9
       have hq9 : ptQ ((ps.take ps.length ++ ((kd, lb), a5, c5) :: ps.drop ps.length)) = bareQ s (T.take (i + 1)) := by
        rw [Hst.out]; have e : bareP s (kd, lq) = (kd, lb) := by unfold bareP; rw [← Hlb.out]
        rw [e, ← Hpq.out, insB_at (k := ps.length) (by rw [ptQ_len]; omega) ?_ ?_]
        · unfold ptQ; rw [List.map_append, List.map_cons, List.map_take, List.map_drop]
        ·
         intro j h hj; rw [ptQ_len] at h; have := Hle.out j h hj; have e2 : (ptQ ps)[j]'(by rw [ptQ_len]; exact h) = ps[j].1 := by simp [ptQ]
         rw [e2]; exact this
        ·
         intro h hh; rw [ptQ_len] at h; have e2 : (ptQ ps)[ps.length]'(by rw [ptQ_len]; exact h) = ps[ps.length].1 := by simp [ptQ]
         rw [e2] at hh; have h3 : cmpLs ps[ps.length].1.2 lb ≤ 0 := hh; have := hgt h; omega
       have HI9 := Lib.hid hI9; have Hq9 := Lib.hid hq9; have Hpl9 := Lib.hid hpl9; clear hI9 hq9 hpl9 hps9 hr9 hc9 hgt; go_wp2_with fail; go_roundg (gko - 1)
       case measure => have := Hi.out; have := Hgko.out; omega
       case rel => exact ⟨i + 1, (ps.take ps.length ++ ((kd, lb), a5, c5) :: ps.drop ps.length), by have := Hi.out; have := Hgko.out; omega, by go_num, Hq9.out, by rw [Hpl9.out, Hpl.out], HI9.out, bl_trans HB.out HW9.out⟩
  ·
   have hin : i = T.length := by omega
   subst hin; rw [List.take_length] at hpq; clear hi hpl hI hB; go_wp2_with fail; go_ret; exact ⟨_, _, rfl, HI.out, hpq, HB.out⟩
set_option maxRecDepth 100000 in
set_option maxHeartbeats 8000000 in
theorem bareI_walk  (s : Int → Int) (a : Option Addr) (cap : Nat) (T : List Pt) (w : World) (hq : RdQ w a T) (hT : T.length ≤ 1000) (hl : ∀ q ∈ T, q.2.length ≤ 1000)
  (hF : ∀ q ∈ T, ∀ e ∈ q.2, ∀ v, AtL e v → ∀ w1, Below w.heap.size w w1 → Calls Tryz.prog 18 #[.int .i64 v] w1 fun e w' => e = .returned (.int .i64 (s v)) ∧ w1 = w') :
  Calls Tryz.prog 17 #[.slice a T.length cap, .func (.func 18) #[] #[]] w (RetB w (bareQ s T)) := by
 have HF := Lib.hid hF; clear hF
 go_enter Tryz.func17, Tryz.ntmps17
 go_wp2_with fail
 go_loopg [5, 14] T.length (fun r vo iv wj => ∃ (i : Nat) (ps : List PtR), i + r = T.length ∧ iv = .int .i64 i ∧ ptQ ps = bareQ s (T.take i) ∧ ps.length = i ∧ PtsO wj vo ps ∧ Below w.heap.size w wj)
 case atStart => exact ⟨0, [], by omega, rfl, rfl, rfl, ⟨own_nil _ _ _, fun p hp => by simp at hp⟩, bl_refl w⟩
 case round =>
  obtain ⟨i, ps, hi, rfl, hpq, hpl, hI, hB⟩ := hrel
  obtain ⟨wo, rfl⟩ : ∃ wo : World, wo = wr := ⟨_, rfl⟩
  have Hi := Lib.hid hi; have Hpq := Lib.hid hpq; have Hpl := Lib.hid hpl; have HI := Lib.hid hI; have HB := Lib.hid hB
  by_cases hil : i < T.length
  ·
   have hqi : T[i]? = some T[i] := List.getElem?_eq_getElem hil; obtain ⟨bp, op, au, cu, rfl, p0, p1, hrq, hcu, hcm⟩ := hq.below hB i _ hqi; have hsm : T[i].2.length ≤ 1000 := hl _ (List.getElem_mem hil); have hst := bareQ_succ s T i hil; have HF2 := Lib.hid (HF.out _ (List.getElem_mem hil)); obtain ⟨⟨kd, lq⟩, hqe⟩ : ∃ q : Pt, T[i] = q := ⟨_, rfl⟩
   rw [hqe] at p0 p1 hrq hcu hsm hst HF2; simp only at p0 p1 hrq hcu hsm HF2; have Hst := Lib.hid hst; have iI : (i : Int) < (T.length : Int) := by omega
   have hbl := bl_alloc wo (.cells #[.int .i64 kd, .slice au lq.length cu] 49); have hbl2 := bl_trans hbl (bl_alloc _ (.cells #[.int .i64 kd, .slice none 0 0] 49)); have d0 : (wo.alloc (.cells #[.int .i64 kd, .slice au lq.length cu] 49)).cell? ⟨wo.heap.size, 0, none⟩ = some (.int .i64 kd) := by simp
   have d1 : ((wo.alloc (.cells #[.int .i64 kd, .slice au lq.length cu] 49)).alloc (.cells #[.int .i64 kd, .slice none 0 0] 49)).cell? ⟨wo.heap.size, 1, none⟩ = some (.slice au lq.length cu) := keep_cell (bl_alloc _ _) (by simp); have hsz : (wo.alloc (.cells #[.int .i64 kd, .slice au lq.length cu] 49)).heap.size = wo.heap.size + 1 := by simp
   have hY0 : YI wo ((wo.alloc (.cells #[.int .i64 kd, .slice au lq.length cu] 49)).alloc (.cells #[.int .i64 kd, .slice none 0 0] 49)) (wo.heap.size + 1) kd (.slice none 0 0) (([] : List Lk).map (bareE s)) := by
    refine ⟨?_, ?_, ?_, own_nil _ _ _, fun g hg => by simp [Value.ownBlock] at hg, hbl2, by omega⟩
    · rw [← hsz]; simp
    · rw [← hsz]; simp
    · rw [← hsz]; simp
   have HY0 := Lib.hid hY0; obtain ⟨gko, hgko⟩ : ∃ g, g = gk := ⟨_, rfl⟩
   have Hgko := Lib.hid hgko; clear hi hpq hpl hI hB hqe hst hgko hY0 hbl hbl2 hqi; go_upto_region 7 with (fail)
   generalize (wo.alloc (.cells #[.int .i64 kd, .slice au lq.length cu] 49)).alloc (.cells #[.int .i64 kd, .slice none 0 0] 49) = wb at *
   go_loopg [24] lq.length (fun r kv wj => ∃ (k : Nat) (v : Value), k + r = lq.length ∧ kv = .int .i64 k ∧ YI wo wj (wo.heap.size + 1) kd v ((lq.take k).map (bareE s)))
   case atStart => exact ⟨0, _, by omega, rfl, HY0.out⟩
   case round =>
    clear HY0; obtain ⟨k, v, hk, rfl, hY⟩ := hrel; have Hk := Lib.hid hk; obtain ⟨y0, y1, y2, y3, y4, y5, y6⟩ := hY; have Hbr := Lib.hid (bl_trans HB.out y5); by_cases hkl : k < lq.length
    ·
     obtain ⟨b1, o1, rfl, q0, q1, q2⟩ := (hrq.below y5).at k hkl; have hft : (lq.take (k + 1)).map (bareE s) = (lq.take k).map (bareE s) ++ [bareE s lq[k]] := by rw [List.take_succ_eq_append_getElem hkl, List.map_append]; rfl
     have hmem : lq[k] ∈ lq := List.getElem_mem hkl; obtain ⟨⟨x, y, z⟩, hxe⟩ : ∃ u : Lk, lq[k] = u := ⟨_, rfl⟩
     rw [hxe] at q0 q1 q2 hft hmem; simp only at q0 q1 q2; have Hfx := Lib.hid (HF2.out _ hmem x (.inl rfl)); have Hfy := Lib.hid (HF2.out _ hmem y (.inr rfl)); have iK : (k : Int) < (lq.length : Int) := by omega
     have sB : wo.heap.size + 1 < wr.heap.size := cell_lt y0; have hbx := bl_alloc wr (.cells #[.int .i64 x, .int .i64 y, .int .i64 z] 38); have Hft := Lib.hid hft; have Hy5 := Lib.hid y5; have Hy4 := Lib.hid y4; have Hy6 := Lib.hid y6; have Hy3 := Lib.hid y3; have Hbx := Lib.hid hbx; obtain ⟨ln, hln⟩ : ∃ ln, ln = (lq.take k).map (bareE s) := ⟨_, rfl⟩
     rw [← hln] at y3; have hll : ln.length = k := by rw [hln]; simp; omega
     have Hln := Lib.hid hln; have Hll := Lib.hid hll; have r0 := keep_cell hbx y0; have r1 := keep_cell hbx y1; have e0 : (wr.alloc (.cells #[.int .i64 x, .int .i64 y, .int .i64 z] 38)).cell? ⟨wr.heap.size, 0, none⟩ = some (.int .i64 x) := by simp
     have e1 : (wr.alloc (.cells #[.int .i64 x, .int .i64 y, .int .i64 z] 38)).cell? ⟨wr.heap.size, 1, none⟩ = some (.int .i64 y) := by simp
     have e2 : (wr.alloc (.cells #[.int .i64 x, .int .i64 y, .int .i64 z] 38)).cell? ⟨wr.heap.size, 2, none⟩ = some (.int .i64 z) := by simp
     have hown : OwnL (wr.alloc (.cells #[.int .i64 x, .int .i64 y, .int .i64 z] 38)) v ln := Own.alloc y3 _; have hfr := (hbx.frozen (p := ⟨wo.heap.size + 1, 1, none⟩) sB).trans y2; have hlt : ∀ g, v.ownBlock = some g → g < wr.heap.size := fun g hg => Own.lt y3 hg; have Hlt := Lib.hid hlt; have hws : (wr.alloc (.cells #[.int .i64 x, .int .i64 y, .int .i64 z] 38)).heap.size = wr.heap.size + 1 := by simp
     have Hws := Lib.hid hws; clear hk hft hxe y5 y4 y6 hbx hln hll y0 y1 y2 y3 hlt hws; go_upto_region 9 with (fail)
     generalize hwx : wr.alloc (.cells #[.int .i64 x, .int .i64 y, .int .i64 z] 38) = wx at *
     refine regionT (fun w' => w'.cell? ⟨wo.heap.size + 1, 1, none⟩ = some v ∧ w'.cell? ⟨wr.heap.size, 0, none⟩ = some (.int .i64 x) ∧ w'.cell? ⟨wr.heap.size, 1, none⟩ = some (.int .i64 y) ∧ w'.cell? ⟨wr.heap.size, 2, none⟩ = some (.int .i64 z)) 17 (by kernel_rfl) ?_; have hS : wx.drew.cell? ⟨wo.heap.size + 1, 1, none⟩ = some v ∧ wx.drew.cell? ⟨wr.heap.size, 0, none⟩ = some (.int .i64 x) ∧ wx.drew.cell? ⟨wr.heap.size, 1, none⟩ = some (.int .i64 y) ∧ wx.drew.cell? ⟨wr.heap.size, 2, none⟩ = some (.int .i64 z) := ⟨r1, e0, e1, e2⟩
     refine tkT 0 ?_ rfl hS ?_ ?_ (by kernel_rfl) (fun _ _ _ h => h) (by rfl); rotate_left; (· intro wS hSw; (try dsimp only at hSw); go_simp; try with_reducible rfl); simp only [Act.put, zT]; refine tkT 1 ?_ rfl hS ?_ ?_ (by kernel_rfl) (fun _ _ _ h => h) (by rfl); rotate_left; (· intro wS hSw; (try dsimp only at hSw); go_simp; try with_reducible rfl); simp only [Act.put, zT]; refine tkT 2 ?_ rfl hS ?_ ?_ (by kernel_rfl) (fun _ _ _ h => h) (by rfl); rotate_left; (· intro wS hSw; (try dsimp only at hSw); go_simp; try with_reducible rfl); simp only [Act.put, zT]; refine tkT 3 ?_ rfl hS ?_ ?_ (by kernel_rfl) (fun _ _ _ h => h) (by rfl); rotate_left; (· intro wS hSw; (try dsimp only at hSw); go_simp; try with_reducible rfl); simp only [Act.put, zT]; refine tkT 4 ?_ rfl hS ?_ ?_ (by kernel_rfl) (fun _ _ _ h => h) (by rfl); rotate_left; (· intro wS hSw; (try dsimp only at hSw); go_simp; try with_reducible rfl); simp only [Act.put, zT]; refine tkT 6 ?_ rfl hS ?_ ?_ (by kernel_rfl) (fun _ _ _ h => h) (by rfl); rotate_left; (· intro wS hSw; (try dsimp only at hSw); go_simp; try with_reducible rfl); simp only [Act.put, zT]; refine tkT 7 ?_ rfl hS ?_ ?_ (by kernel_rfl) (fun _ _ _ h => h) (by rfl); rotate_left; (· intro wS hSw; (try dsimp only at hSw); go_simp; try with_reducible rfl); simp only [Act.put, zT]; refine tkT 8 ?_ rfl hS ?_ ?_ (by kernel_rfl) (fun _ _ _ h => h) (by rfl); rotate_left; (· intro wS hSw; (try dsimp only at hSw); go_simp; try with_reducible rfl); simp only [Act.put, zT]
     refine tkT 10 ?_ rfl hS ?_ ?_ (by kernel_rfl) (fun _ _ _ h => h) (by rfl); rotate_left; (· intro wS hSw; (try dsimp only at hSw); go_simp; try with_reducible rfl); simp only [Act.put, zT]; refine tkT 11 ?_ rfl hS ?_ ?_ (by kernel_rfl) (fun _ _ _ h => h) (by rfl); rotate_left; (· intro wS hSw; (try dsimp only at hSw); go_simp; try with_reducible rfl); simp only [Act.put, zT]; refine tkT 12 ?_ rfl hS ?_ ?_ (by kernel_rfl) (fun _ _ _ h => h) (by rfl); rotate_left; (· intro wS hSw; (try dsimp only at hSw); go_simp; try with_reducible rfl); simp only [Act.put, zT]; refine oneT (i := 5) rfl (by kernel_rfl) (fun K hK => ?_); go_simp; refine (Hfx.out _ (bl_trans Hbr.out (Hbx.out.drew))).mono ?_; rintro e w1 ⟨rfl, rfl⟩; simp only; refine hK _ _ (fun _ => hS) ?_; clear hK K; refine oneT (i := 9) rfl (by kernel_rfl) (fun K hK => ?_); go_simp; refine (Hfy.out _ (bl_trans Hbr.out (Hbx.out.drew))).mono ?_; rintro e w1 ⟨rfl, rfl⟩; simp only; refine hK _ _ (fun _ => hS) ?_; clear hK K; refine tkT 13 ?_ rfl hS ?_ ?_ (by kernel_rfl) (fun _ _ _ h => h) (by rfl); rotate_left; (· intro wS hSw; (try dsimp only at hSw); go_simp; try with_reducible rfl); simp only [Act.put, zT]; refine oneT (i := 14) rfl (by kernel_rfl) (fun K hK => ?_); go_simp; have hB14 := bl_alloc wx.drew (.cells #[.int .i64 (s x), .int .i64 (s y), .int .i64 (min z 1)] 38); have hS14 := And.intro (keep_cell hB14 hS.1) (And.intro (keep_cell hB14 hS.2.1) (And.intro (keep_cell hB14 hS.2.2.1) (keep_cell hB14 hS.2.2.2)))
     refine hK _ _ (fun _ => hS14) ?_; clear hK K hS; have hS := hS14; refine oneT (i := 15) rfl (by kernel_rfl) (fun K hK => ?_); refine step_append_row rfl (.tmp 29) (.tmp 42) 22 rfl 38 (.agg #[.int .i64 0, .int .i64 0, .int .i64 0]) 3 24 Tryz.underlying22 link_info rfl v ln.length _ (by simp [Act.eval]) ((Own.alloc hown _).drew) ⟨wx.heap.size, 0, none⟩ 1 1 [.int .i64 (s x), .int .i64 (s y), .int .i64 (min z 1)] (by simp [Act.eval]) rfl (news3 _ _ _ _ _) (by intro u hu; simp only [List.mem_cons, List.not_mem_nil, or_false] at hu; rcases hu with rfl | rfl | rfl <;> rfl) (by omega) (by have := Hll.out; unfold maxLen; omega) (by have := Hll.out; omega) ?_; intro g3 c3 w3 hr3 hc3 hg3 hor3; have hs3 := hg3.size; simp at hs3; have hne1 : v.ownBlock ≠ some (wo.heap.size + 1) := fun e => by have := Hy4.out _ e; omega
     have hne2 : v.ownBlock ≠ some wr.heap.size := fun e => by have := Hlt.out _ e; omega
     have m1 := grown_cell hg3 hS.1 hne1; have m0 := grown_cell hg3 (keep_cell hB14 (show wx.drew.cell? _ = _ from r0)) hne1; have m2 := grown_frozen hg3 (by have := Hws.out; simp; omega) ((hB14.frozen (p := ⟨wo.heap.size + 1, 1, none⟩) (by have := Hws.out; show wo.heap.size + 1 < wx.heap.size; omega)).trans (show wx.drew.frozen? _ = _ from hfr)) hne1; have mS := And.intro m1 (And.intro (grown_cell hg3 hS.2.1 hne2) (And.intro (grown_cell hg3 hS.2.2.1 hne2) (grown_cell hg3 hS.2.2.2 hne2))); refine hK _ _ (fun _ => mS) ?_; clear hK K hS hS14; have hS := mS; refine tkT 16 ?_ rfl hS ?_ ?_ (by kernel_rfl) (fun _ _ _ h => h) (by rfl); rotate_left; (· intro wS hSw; (try dsimp only at hSw); go_simp; try with_reducible rfl); simp only [Act.put, zT]; refine oneT (i := 17) rfl (by kernel_rfl) (fun K hK => ?_); go_simp; refine hK _ _ (fun h => absurd h (by omega)) ?_; clear hK K hS mS; refine doneT (by kernel_rfl) ?_ _; have hgB : wo.heap.size + 1 < g3 := by
      rcases hor3 with h | h
      · exact Hy4.out _ h
      · have := Hws.out; simp at h; omega
     have hYn : YI wo (w3.setCell ⟨wo.heap.size + 1, 1, none⟩ (.slice (some ⟨g3, 0, none⟩) (ln.length + 1) c3)) (wo.heap.size + 1) kd (.slice (some ⟨g3, 0, none⟩) (ln.length + 1) c3) (ln ++ [bareE s (x, y, z)]) := by
      refine ⟨(World.cell?_setCell_other _ _ _ _ (by simp)).trans m0, World.cell?_setCell_same _ _ _ m1, by simpa using m2, ?_, fun g hg => by cases hg; exact hgB, ?_, by omega⟩
      ·
       refine ⟨by rw [lkCells_length], .inr ⟨g3, c3, by simp, by simpa using hc3, ?_⟩⟩; rw [lkCells_append]; exact hr3.other (by show g3 ≠ wo.heap.size + 1; omega) _
      ·
       have h1 : Below wo.heap.size wo wx := bl_trans Hy5.out Hbx.out; have h2 := (bl_trans h1 (bl_alloc wx (.cells #[.int .i64 (s x), .int .i64 (s y), .int .i64 (min z 1)] 38))).drew; have h3 := h2.grown hg3 (by have := Hws.out; simp; omega) (fun g hg => by have := Hy4.out _ hg; omega); exact h3.setCell (by simp) _
     have HYn := Lib.hid hYn; clear hYn hr3 hc3 hg3 hor3 hs3 m0 m1 m2 hB14 hown hfr r0 r1 e0 e1 e2 hwx; go_wp2_with fail; go_roundg (gk - 1)
     case measure => have := Hk.out; omega
     case rel => exact ⟨k + 1, _, by have := Hk.out; omega, by go_num, by rw [Hft.out, ← Hln.out]; exact HYn.out⟩
    ·
     have hkn : k = lq.length := by omega
     subst hkn; rw [List.take_length] at y3; obtain ⟨ln, hln⟩ : ∃ ln, ln = lq.map (bareE s) := ⟨_, rfl⟩
     rw [← hln] at y3; have hll : ln.length = lq.length := by rw [hln]; simp
     have hlb : sortL ln = bareL s lq := by rw [hln]; rfl
     obtain ⟨lb, hlb2⟩ : ∃ lb, lb = bareL s lq := ⟨_, rfl⟩
     rw [← hlb2] at hlb; obtain ⟨av, cv, rfl, hrl, hav, hcv, hlc⟩ := OwnL.read y3; have hsw := sorted_walk av cv ln wr hrl (by omega); rw [hlb] at hsw; have hyB : ∀ g, av = some g → wo.heap.size + 1 < g.block := fun g hg => y4 _ (hav g hg); have Hlb := Lib.hid hlb2; have Hln := Lib.hid hln; have hbl5 : lb.length ≤ 1000 := by rw [← hlb, sortL_length, hll]; exact hsm
     have sB : wo.heap.size + 1 < wr.heap.size := cell_lt y0; clear hk hln hlb hlb2 hll y3 y4 hav; go_wp2_with fail; refine hsw.mono ?_; rintro e w5 ⟨v5, rfl, ho5, hg5, hb5⟩; have z0 := keep_cell hb5 y0; have z1 := keep_cell hb5 y1; have z2 := (hb5.frozen (p := ⟨wo.heap.size + 1, 1, none⟩) sB).trans y2; have hg5B : ∀ g, v5.ownBlock = some g → g ≠ wo.heap.size + 1 := fun g hg e => by have := hg5 g hg; omega
     have hoS : OwnL (w5.setCell ⟨wo.heap.size + 1, 1, none⟩ v5) v5 lb := ho5.below fun g hg => Below.heap_setCell w5 _ v5 g (hg5B g hg); have hB5 : Below wo.heap.size wo (w5.setCell ⟨wo.heap.size + 1, 1, none⟩ v5) := (bl_trans y5 hb5).setCell (by simp) _; have f0 : (w5.setCell ⟨wo.heap.size + 1, 1, none⟩ v5).cell? ⟨wo.heap.size + 1, 0, none⟩ = some (.int .i64 kd) := (World.cell?_setCell_other _ _ _ _ (by simp)).trans z0; have f1 : (w5.setCell ⟨wo.heap.size + 1, 1, none⟩ v5).cell? ⟨wo.heap.size + 1, 1, none⟩ = some v5 := World.cell?_setCell_same _ _ _ z1; obtain ⟨a5, c5, rfl, hr5, ha5, hc5, hl5⟩ := OwnL.read hoS; have ha5s : ∀ ad, a5 = some ad → ad.block < (w5.setCell ⟨wo.heap.size + 1, 1, none⟩ (.slice a5 lb.length c5)).heap.size := fun ad had => Own.lt hoS (ha5 ad had); have HB5 := Lib.hid hB5; have Ha5 := Lib.hid ha5s; clear hsw hoS ho5 hg5 hg5B hb5 hrl y0 y1 y2 y5 y6 hyB hB5 ha5 ha5s; obtain ⟨ao, co, rfl, hca, hpc, hco, hno, hsp⟩ := HI.out.form; have hpsb : ps.length ≤ 1000 := by have := Hpl.out; omega
     have Hno := Lib.hid hno; have Hsp := Lib.hid hsp; have Hca := Lib.hid hca; clear hno hsp hca; go_wp2_with fail; generalize w5.setCell ⟨wo.heap.size + 1, 1, none⟩ (.slice a5 lb.length c5) = w6 at *
     obtain ⟨gki, hgki⟩ : ∃ g, g = gk := ⟨_, rfl⟩
     clear hgki; go_loopg [11] ps.length (fun r tv wj => ∃ t : Nat, t + r = ps.length ∧ tv = .int .i64 t ∧ (∀ j (h : j < ps.length), j < t → cmpLs ps[j].1.2 lb ≤ 0) ∧ Below w6.heap.size w6 wj)
     case atStart => exact ⟨0, by omega, rfl, fun j h hj => absurd hj (by omega), bl_refl _⟩
     case round =>
      obtain ⟨t, ht, rfl, hle, hb⟩ := hrel; have Ht := Lib.hid ht; have Hle := Lib.hid hle; have Hb := Lib.hid hb; have f0r := keep_cell hb f0; have f1r := keep_cell hb f1; have hwb : Below wo.heap.size wo wr := bl_trans HB5.out hb; by_cases htl : t < ps.length
      ·
       have hcp := ptC_get ps t htl; have hp1 := HI.out.2 _ (List.getElem_mem htl); obtain ⟨bo, oo, hao, u0⟩ := Hca.out _ _ hcp.1; obtain ⟨bo', oo', hao', u1⟩ := Hca.out _ _ hcp.2; rw [hao] at hao'; cases hao'; subst hao; obtain ⟨⟨pt, pa, pc⟩, hpe⟩ : ∃ p : PtR, ps[t] = p := ⟨_, rfl⟩
       rw [hpe] at u0 u1 hp1; unfold ptV at u1; unfold RowP at hp1; obtain ⟨pk, pl⟩ := pt; simp only at u0 u1 hp1; have u0r := keep_cell hwb u0; have u1r := keep_cell hwb u1; rw [show oo + (t * 2 + 1) = oo + t * 2 + 1 by omega] at u1r; have hpr := hp1.1.below hwb; have hr5r := hr5.below hb; have Hpe := Lib.hid hpe; have iT : (t : Int) < (ps.length : Int) := by omega
       have hpl : pl.length ≤ 9223372036854775807 := by have := hp1.2.1; have := hp1.2.2.1; unfold maxLen at this; omega
       have hlbl : lb.length ≤ 9223372036854775807 := by omega
       clear ht hle hb hcp hp1 hpe u0 u1; go_wp2_with fail; refine regionT (fun w' => w'.cell? ⟨bo, oo + t * 2, none⟩ = some (.int .i64 pk) ∧ w'.cell? ⟨bo, oo + t * 2 + 1, none⟩ = some (.slice pa pl.length pc) ∧ w'.cell? ⟨wo.heap.size + 1, 0, none⟩ = some (.int .i64 kd) ∧ w'.cell? ⟨wo.heap.size + 1, 1, none⟩ = some (.slice a5 lb.length c5)) 12 (by kernel_rfl) ?_; have hS : wr.drew.cell? ⟨bo, oo + t * 2, none⟩ = some (.int .i64 pk) ∧ wr.drew.cell? ⟨bo, oo + t * 2 + 1, none⟩ = some (.slice pa pl.length pc) ∧ wr.drew.cell? ⟨wo.heap.size + 1, 0, none⟩ = some (.int .i64 kd) ∧ wr.drew.cell? ⟨wo.heap.size + 1, 1, none⟩ = some (.slice a5 lb.length c5) := ⟨u0r, u1r, f0r, f1r⟩
       refine tkT 0 ?_ rfl hS ?_ ?_ (by kernel_rfl) (fun _ _ _ h => h) (by rfl); rotate_left; (· intro wS hSw; (try dsimp only at hSw); go_simp; try with_reducible rfl); simp only [Act.put, zT]; refine tkT 1 ?_ rfl hS ?_ ?_ (by kernel_rfl) (fun _ _ _ h => h) (by rfl); rotate_left; (· intro wS hSw; (try dsimp only at hSw); go_simp; try with_reducible rfl); simp only [Act.put, zT]; refine tkT 2 ?_ rfl hS ?_ ?_ (by kernel_rfl) (fun _ _ _ h => h) (by rfl); rotate_left; (· intro wS hSw; (try dsimp only at hSw); go_simp; try with_reducible rfl); simp only [Act.put, zT]; refine tkT 3 ?_ rfl hS ?_ ?_ (by kernel_rfl) (fun _ _ _ h => h) (by rfl); rotate_left; (· intro wS hSw; (try dsimp only at hSw); go_simp; try with_reducible rfl); simp only [Act.put, zT]; refine tkT 4 ?_ rfl hS ?_ ?_ (by kernel_rfl) (fun _ _ _ h => h) (by rfl); rotate_left; (· intro wS hSw; (try dsimp only at hSw); go_simp; try with_reducible rfl); simp only [Act.put, zT]; refine tkT 5 ?_ rfl hS ?_ ?_ (by kernel_rfl) (fun _ _ _ h => h) (by rfl); rotate_left; (· intro wS hSw; (try dsimp only at hSw); go_simp; try with_reducible rfl); simp only [Act.put, zT]; refine tkT 6 ?_ rfl hS ?_ ?_ (by kernel_rfl) (fun _ _ _ h => h) (by rfl); rotate_left; (· intro wS hSw; (try dsimp only at hSw); go_simp; try with_reducible rfl); simp only [Act.put, zT]; refine tkT 7 ?_ rfl hS ?_ ?_ (by kernel_rfl) (fun _ _ _ h => h) (by rfl); rotate_left; (· intro wS hSw; (try dsimp only at hSw); go_simp; try with_reducible rfl); simp only [Act.put, zT]
       refine tkT 8 ?_ rfl hS ?_ ?_ (by kernel_rfl) (fun _ _ _ h => h) (by rfl); rotate_left; (· intro wS hSw; (try dsimp only at hSw); go_simp; try with_reducible rfl); simp only [Act.put, zT]; refine tkT 9 ?_ rfl hS ?_ ?_ (by kernel_rfl) (fun _ _ _ h => h) (by rfl); rotate_left; (· intro wS hSw; (try dsimp only at hSw); go_simp; try with_reducible rfl); simp only [Act.put, zT]; refine oneT (i := 10) rfl (by kernel_rfl) (fun K hK => ?_); go_simp; have hc50 := aheadB_walk pa a5 pc c5 pk kd pl lb wr.drew hpr hr5r hpl hlbl; obtain ⟨tb, htb⟩ : ∃ tb, tb = decide (cmpLs pl lb ≤ 0) := ⟨_, rfl⟩
       rw [← htb] at hc50; have Htb := Lib.hid htb; clear htb; refine hc50.mono ?_; rintro e w7 ⟨rfl, hb7⟩; replace hb7 : Below wr.heap.size wr w7 := bl_trans (Below.refl wr.heap.size wr).drew hb7; have hS7 := And.intro (keep_cell hb7 hS.1) (And.intro (keep_cell hb7 hS.2.1) (And.intro (keep_cell hb7 hS.2.2.1) (keep_cell hb7 hS.2.2.2))); simp only; refine hK _ _ (fun _ => hS7) ?_; clear hK K hS hc50; have hS := hS7; refine tkT 11 ?_ rfl hS ?_ ?_ (by kernel_rfl) (fun _ _ _ h => h) (by rfl); rotate_left; (· intro wS hSw; (try dsimp only at hSw); go_simp; try with_reducible rfl); simp only [Act.put, zT]; refine doneT (by kernel_rfl) ?_ _; clear u0r u1r hpr hr5r; cases tb with
       | true =>
        have hnx : ∀ j (h : j < ps.length), j < t + 1 → cmpLs ps[j].1.2 lb ≤ 0 := fun j h hj => by
         by_cases e : j < t
         · exact Hle.out j h e
         ·
          obtain rfl : j = t := by omega
          have := of_decide_eq_true Htb.out.symm; rw [Hpe.out]; exact this
        have Hnx := Lib.hid hnx; have hBn := bl_trans Hb.out hb7; clear hnx hS hS7 hb7; go_wp2_with fail; go_roundg (gk - 1)
        case measure => have := Ht.out; omega
        case rel => exact ⟨t + 1, by have := Ht.out; omega, by go_num, Hnx.out, hBn⟩
       | false =>
        have hgt : ∀ h : t < ps.length, ¬ cmpLs ps[t].1.2 lb ≤ 0 := fun h hh => by
         rw [Hpe.out] at hh; have := of_decide_eq_false Htb.out.symm; exact this hh
        have hcW : CellsAt w7 (some ⟨bo, oo, none⟩) (ptC ps) := Hca.out.below (bl_trans hwb hb7); have hcut := fun w => run_cutG (P := Tryz.prog) 24 2 (by kernel_rfl) (fun w => by kernel_rfl) (some ⟨bo, oo, none⟩) ps.length co t (by omega) w; have hfrom := fun w => run_fromG (P := Tryz.prog) 24 2 (by kernel_rfl) (fun w => by kernel_rfl) (some ⟨bo, oo, none⟩) ps.length co t (by omega) w; have hfa : fromG (some (⟨bo, oo, none⟩ : Addr)) co t 2 = some ⟨bo, oo + t * 2, none⟩ := by
         unfold fromG; rw [if_neg (by omega)]; simp [Addr.add]
        rw [hfa] at hfrom; have hBW := bl_trans Hb.out hb7; have HcW := Lib.hid hcW; have HBW := Lib.hid hBW; have Hgt := Lib.hid hgt; have z0 := hS.2.2.1; have z1 := hS.2.2.2; clear hfa hcW hBW hgt hS hS7 hb7 hwb f0r f1r; go_wp2_with fail; refine regionT (fun w' => w'.cell? ⟨wo.heap.size + 1, 0, none⟩ = some (.int .i64 kd) ∧ w'.cell? ⟨wo.heap.size + 1, 1, none⟩ = some (.slice a5 lb.length c5)) 12 (by kernel_rfl) ?_; have hS : w7.drew.cell? ⟨wo.heap.size + 1, 0, none⟩ = some (.int .i64 kd) ∧ w7.drew.cell? ⟨wo.heap.size + 1, 1, none⟩ = some (.slice a5 lb.length c5) := ⟨z0, z1⟩
        refine tkT 0 ?_ rfl hS ?_ ?_ (by kernel_rfl) (fun _ _ _ h => h) (by rfl); rotate_left; (· intro wS hSw; (try dsimp only at hSw); go_simp; try with_reducible rfl); simp only [Act.put, zT]; refine tkT 1 ?_ rfl hS ?_ ?_ (by kernel_rfl) (fun _ _ _ h => h) (by rfl); rotate_left; (· intro wS hSw; (try dsimp only at hSw); go_simp; try with_reducible rfl); simp only [Act.put, zT]; refine tkT 2 ?_ rfl hS ?_ ?_ (by kernel_rfl) (fun _ _ _ h => h) (by rfl); rotate_left; (· intro wS hSw; (try dsimp only at hSw); go_simp; try with_reducible rfl); simp only [Act.put, zT]; refine tkT 3 ?_ rfl hS ?_ ?_ (by kernel_rfl) (fun _ _ _ h => h) (by rfl); rotate_left; (· intro wS hSw; (try dsimp only at hSw); go_simp; try with_reducible rfl); simp only [Act.put, zT]; refine tkT 4 ?_ rfl hS ?_ ?_ (by kernel_rfl) (fun _ _ _ h => h) (by rfl); rotate_left; (· intro wS hSw; (try dsimp only at hSw); go_simp; try with_reducible rfl); simp only [Act.put, zT]; refine tkT 6 ?_ rfl hS ?_ ?_ (by kernel_rfl) (fun _ _ _ h => h) (by rfl); rotate_left; (· intro wS hSw; (try dsimp only at hSw); go_simp; try with_reducible rfl); simp only [Act.put, zT]; refine tkT 7 ?_ rfl hS ?_ ?_ (by kernel_rfl) (fun _ _ _ h => h) (by rfl); rotate_left; (· intro wS hSw; (try dsimp only at hSw); go_simp; try with_reducible rfl); simp only [Act.put, zT]; refine tkT 8 ?_ rfl hS ?_ ?_ (by kernel_rfl) (fun _ _ _ h => h) (by rfl); rotate_left; (· intro wS hSw; (try dsimp only at hSw); go_simp; try with_reducible rfl); simp only [Act.put, zT]
        refine oneT (i := 5) rfl (by kernel_rfl) (fun K hK => ?_); go_simp; have hBA := bl_alloc w7.drew (.cells #[.int .i64 kd, .slice a5 lb.length c5] 49); have hSA := And.intro (keep_cell hBA hS.1) (keep_cell hBA hS.2); refine hK _ _ (fun _ => hSA) ?_; clear hK K hS; have hS := hSA; have hcA : CellsAt (w7.alloc (.cells #[.int .i64 kd, .slice a5 lb.length c5] 49)).drew (some ⟨bo, oo, none⟩) (ptC ps) := HcW.out.below (show Below w7.heap.size w7 _ from (bl_alloc w7 _).drew); have hol1 : ∀ j u, ((ptC ps).drop (t * 2))[j]? = some u → (w7.alloc (.cells #[.int .i64 kd, .slice a5 lb.length c5] 49)).drew.cell? ((⟨bo, oo + t * 2, none⟩ : Addr).add j) = some u := fun j u hj => by
         rw [List.getElem?_drop] at hj; obtain ⟨b', o', hb', hc'⟩ := hcA _ _ hj; cases hb'; rw [Addr.add_lit, show oo + t * 2 + j = oo + (t * 2 + j) by omega]; exact hc'
        have hlen1 : ((ptC ps).drop (t * 2)).length = (ps.length - t) * 2 := by rw [List.length_drop, ptC_len]; omega
        have hone1 : ∀ u ∈ (ptC ps).drop (t * 2), u.oneCell' = true := fun u hu => ptC_one ps u (List.mem_of_mem_drop hu); refine oneT (i := 9) rfl (by kernel_rfl) (fun K hK => ?_); refine step_append_full rfl (.tmp 69) (.tmp 72) 24 rfl 49 (.agg #[.int .i64 0, .slice none 0 0]) 2 32 Tryz.underlying24 info_part (by decide +kernel) (by omega) (some ⟨w7.heap.size, 0, none⟩) 1 1 [.int .i64 kd, .slice a5 lb.length c5] (by simp [Act.eval]) (by simp) rfl (fun b hb => by cases hb; exact news2 _ _ _ _) ⟨bo, oo + t * 2, none⟩ (ps.length - t) (co - t) _ (by simp [Act.eval]) hlen1 hol1 hone1 (by omega) (by unfold maxLen; omega) (by omega) ?_; intro g8 c8 w8 hr8 hc8 hg8 hs8; have hS8 := And.intro (grown_cell hg8 hS.1 (by simp)) (grown_cell hg8 hS.2 (by simp)); refine hK _ _ (fun _ => hS8) ?_; clear hK K hS hSA; have hS := hS8; have hB78 : Below w7.heap.size w7 w8 := (show Below w7.heap.size w7 (w7.alloc (.cells #[.int .i64 kd, .slice a5 lb.length c5] 49)).drew from (bl_alloc w7 _).drew).grown hg8 (by simp) (fun j hj => by cases hj); have hc8A : CellsAt w8 (some ⟨bo, oo, none⟩) (ptC ps) := HcW.out.below hB78; have hol2 : ∀ b, some (⟨bo, oo, none⟩ : Addr) = some b → ∀ j u, ((ptC ps).take (t * 2))[j]? = some u → w8.cell? (b.add j) = some u := fun b hb j u hj => by
         cases hb; have hjl := (List.getElem?_eq_some_iff.1 hj).1; rw [List.length_take] at hjl; rw [List.getElem?_take, if_pos (by omega)] at hj; obtain ⟨b', o', hb', hc'⟩ := hc8A _ _ hj; cases hb'; rw [Addr.add_lit]; exact hc'
        have hlen2 : ((ptC ps).take (t * 2)).length = t * 2 := by rw [List.length_take, ptC_len]; omega
        have hnew2 : ∀ j u, ([.int .i64 kd, .slice a5 lb.length c5] ++ (ptC ps).drop (t * 2))[j]? = some u → w8.cell? ((⟨g8, 0, none⟩ : Addr).add j) = some u := fun j u hj => by
         have hjl := (List.getElem?_eq_some_iff.1 hj).1; rw [Addr.add_lit, Nat.zero_add, hr8.cell? j hjl]; exact hj
        have hone2 : ∀ u ∈ [.int .i64 kd, .slice a5 lb.length c5] ++ (ptC ps).drop (t * 2), u.oneCell' = true := fun u hu => by
         rcases List.mem_append.1 hu with hu | hu
         · simp at hu; rcases hu with rfl | rfl <;> rfl
         · exact hone1 u hu
        refine oneT (i := 10) rfl (by kernel_rfl) (fun K hK => ?_); refine step_append_full rfl (.tmp 67) (.tmp 73) 24 rfl 49 (.agg #[.int .i64 0, .slice none 0 0]) 2 32 Tryz.underlying24 info_part (by decide +kernel) (by omega) (some ⟨bo, oo, none⟩) t t _ rfl (by simp) hlen2 hol2 ⟨g8, 0, none⟩ (1 + (ps.length - t)) c8 _ rfl (by rw [List.length_append, hlen1]; simp; omega) hnew2 hone2 (by omega) (by unfold maxLen; omega) (by omega) ?_; intro g9 c9 w9 hr9 hc9 hg9 hs9; have hS9 := And.intro (grown_cell hg9 hS.1 (by simp)) (grown_cell hg9 hS.2 (by simp)); refine hK _ _ (fun _ => hS9) ?_; clear hK K hS hS8; have hS := hS9; refine tkT 11 ?_ rfl hS ?_ ?_ (by kernel_rfl) (fun _ _ _ h => h) (by rfl); rotate_left; (· intro wS hSw; (try dsimp only at hSw); go_simp; try with_reducible rfl); simp only [Act.put, zT]; refine doneT (by kernel_rfl) ?_ _; have hB79 : Below w7.heap.size w7 w9 := hB78.grown hg9 hB78.size (fun j hj => by cases hj); have H69 := Lib.hid (bl_trans HBW.out hB79); have HW9 := Lib.hid (bl_trans HB5.out H69.out); have hgt := Hgt.out; clear hS hS9 hB79 hB78 hg9 hs9 hg8 hs8 hnew2 hol2 hlen2 hone2 hone1 hlen1 hol1 hcA hc8A hr8 hc8 hcut hfrom z0 z1 hBA; have hps9 : ∀ p ∈ (ps.take t ++ ((kd, lb), a5, c5) :: ps.drop t), RowP w9 p := fun p hp => by
         have hmm : p ∈ ps ∨ p = ((kd, lb), a5, c5) := by
          simp only [List.mem_append, List.mem_cons] at hp; rcases hp with hp | hp | hp
          · exact .inl (List.mem_of_mem_take hp)
          · exact .inr hp
          · exact .inl (List.mem_of_mem_drop hp)
         rcases hmm with hp | rfl
         · exact (HI.out.2 p hp).below HW9.out
         · exact ⟨hr5.below H69.out, hl5, hc5, fun ad had => Nat.lt_of_lt_of_le (Ha5.out ad had) H69.out.size⟩
        have hpl9 : ((ps.take t ++ ((kd, lb), a5, c5) :: ps.drop t)).length = ps.length + 1 := by simp <;> omega
        have hI9 : PtsO w9 (.slice (some ⟨g9, 0, none⟩) (t + (1 + (ps.length - t))) c9) ((ps.take t ++ ((kd, lb), a5, c5) :: ps.drop t)) := by
         refine ⟨⟨ptC_len _, .inr ⟨g9, c9, by rw [hpl9] <;> (congr 1 <;> omega), by omega, ?_⟩⟩, hps9⟩; rw [ptC_append, ptC_cons, ← ptC_take, ← ptC_drop]; exact hr9
        have hq9 : ptQ ((ps.take t ++ ((kd, lb), a5, c5) :: ps.drop t)) = bareQ s (T.take (i + 1)) := by
         rw [Hst.out]; have e : bareP s (kd, lq) = (kd, lb) := by unfold bareP; rw [← Hlb.out]
         rw [e, ← Hpq.out, insB_at (k := t) (by rw [ptQ_len]; omega) ?_ ?_]
         · unfold ptQ; rw [List.map_append, List.map_cons, List.map_take, List.map_drop]
         ·
          intro j h hj; rw [ptQ_len] at h; have := Hle.out j h hj; have e2 : (ptQ ps)[j]'(by rw [ptQ_len]; exact h) = ps[j].1 := by simp [ptQ]
          rw [e2]; exact this
         ·
          intro h hh; rw [ptQ_len] at h; have e2 : (ptQ ps)[t]'(by rw [ptQ_len]; exact h) = ps[t].1 := by simp [ptQ]
          rw [e2] at hh; have h3 : cmpLs ps[t].1.2 lb ≤ 0 := hh; have := hgt h; omega
        have HI9 := Lib.hid hI9; have Hq9 := Lib.hid hq9; have Hpl9 := Lib.hid hpl9; clear hI9 hq9 hpl9 hps9 hr9 hc9 hgt; go_wp2_with fail; go_roundg (gko - 1)
        case measure => have := Hi.out; have := Hgko.out; omega
        case rel => exact ⟨i + 1, (ps.take t ++ ((kd, lb), a5, c5) :: ps.drop t), by have := Hi.out; have := Hgko.out; omega, by go_num, Hq9.out, by rw [Hpl9.out, Hpl.out], HI9.out, bl_trans HB.out HW9.out⟩
      ·
       have htn : t = ps.length := by omega
       subst htn; have hgt : ∀ h : ps.length < ps.length, ¬ cmpLs ps[ps.length].1.2 lb ≤ 0 := fun h => absurd h (by omega); have Hgt := Lib.hid hgt; have hcut := fun w => run_cutG (P := Tryz.prog) 24 2 (by kernel_rfl) (fun w => by kernel_rfl) ao ps.length co ps.length (by omega) w; have hfrom := fun w => run_fromG (P := Tryz.prog) 24 2 (by kernel_rfl) (fun w => by kernel_rfl) ao ps.length co ps.length (by omega) w; obtain ⟨af, haf⟩ : ∃ af, af = fromG ao co ps.length 2 := ⟨_, rfl⟩
       rw [← haf, Nat.sub_self] at hfrom; clear ht hle hb hgt haf; go_wp2_with fail; refine regionT (fun w' => w'.cell? ⟨wo.heap.size + 1, 0, none⟩ = some (.int .i64 kd) ∧ w'.cell? ⟨wo.heap.size + 1, 1, none⟩ = some (.slice a5 lb.length c5)) 12 (by kernel_rfl) ?_; have hS : wr.drew.cell? ⟨wo.heap.size + 1, 0, none⟩ = some (.int .i64 kd) ∧ wr.drew.cell? ⟨wo.heap.size + 1, 1, none⟩ = some (.slice a5 lb.length c5) := ⟨f0r, f1r⟩
       refine tkT 0 ?_ rfl hS ?_ ?_ (by kernel_rfl) (fun _ _ _ h => h) (by rfl); rotate_left; (· intro wS hSw; (try dsimp only at hSw); go_simp; try with_reducible rfl); simp only [Act.put, zT]; refine tkT 1 ?_ rfl hS ?_ ?_ (by kernel_rfl) (fun _ _ _ h => h) (by rfl); rotate_left; (· intro wS hSw; (try dsimp only at hSw); go_simp; try with_reducible rfl); simp only [Act.put, zT]; refine tkT 2 ?_ rfl hS ?_ ?_ (by kernel_rfl) (fun _ _ _ h => h) (by rfl); rotate_left; (· intro wS hSw; (try dsimp only at hSw); go_simp; try with_reducible rfl); simp only [Act.put, zT]; refine tkT 3 ?_ rfl hS ?_ ?_ (by kernel_rfl) (fun _ _ _ h => h) (by rfl); rotate_left; (· intro wS hSw; (try dsimp only at hSw); go_simp; try with_reducible rfl); simp only [Act.put, zT]; refine tkT 4 ?_ rfl hS ?_ ?_ (by kernel_rfl) (fun _ _ _ h => h) (by rfl); rotate_left; (· intro wS hSw; (try dsimp only at hSw); go_simp; try with_reducible rfl); simp only [Act.put, zT]; refine tkU 5 rfl hS (by rfl) ?_ (by kernel_rfl) (fun _ _ _ h => h); simp only [Act.put, zT]; refine tkU 6 rfl hS (by rfl) ?_ (by kernel_rfl) (fun _ _ _ h => h); simp only [Act.put, zT]; refine tkU 7 rfl hS (by rfl) ?_ (by kernel_rfl) (fun _ _ _ h => h); simp only [Act.put, zT]; refine tkU 8 rfl hS (by rfl) ?_ (by kernel_rfl) (fun _ _ _ h => h); simp only [Act.put, zT]; refine tkU 9 rfl hS (by rfl) ?_ (by kernel_rfl) (fun _ _ _ h => h); simp only [Act.put, zT]; refine tkU 10 rfl hS (by rfl) ?_ (by kernel_rfl) (fun _ _ _ h => h); simp only [Act.put, zT]
       refine tkT 11 ?_ rfl hS ?_ ?_ (by kernel_rfl) (fun _ _ _ h => h) (by rfl); rotate_left; (· intro wS hSw; (try dsimp only at hSw); go_simp; try with_reducible rfl); simp only [Act.put, zT]; refine doneT (by kernel_rfl) ?_ _; go_wp2_with fail; refine regionT (fun w' => w'.cell? ⟨wo.heap.size + 1, 0, none⟩ = some (.int .i64 kd) ∧ w'.cell? ⟨wo.heap.size + 1, 1, none⟩ = some (.slice a5 lb.length c5)) 12 (by kernel_rfl) ?_; replace hS : wr.drew.drew.cell? ⟨wo.heap.size + 1, 0, none⟩ = some (.int .i64 kd) ∧ wr.drew.drew.cell? ⟨wo.heap.size + 1, 1, none⟩ = some (.slice a5 lb.length c5) := ⟨f0r, f1r⟩
       refine tkT 0 ?_ rfl hS ?_ ?_ (by kernel_rfl) (fun _ _ _ h => h) (by rfl); rotate_left; (· intro wS hSw; (try dsimp only at hSw); go_simp; try with_reducible rfl); simp only [Act.put, zT]; refine tkT 1 ?_ rfl hS ?_ ?_ (by kernel_rfl) (fun _ _ _ h => h) (by rfl); rotate_left; (· intro wS hSw; (try dsimp only at hSw); go_simp; try with_reducible rfl); simp only [Act.put, zT]; refine tkT 2 ?_ rfl hS ?_ ?_ (by kernel_rfl) (fun _ _ _ h => h) (by rfl); rotate_left; (· intro wS hSw; (try dsimp only at hSw); go_simp; try with_reducible rfl); simp only [Act.put, zT]; refine tkT 3 ?_ rfl hS ?_ ?_ (by kernel_rfl) (fun _ _ _ h => h) (by rfl); rotate_left; (· intro wS hSw; (try dsimp only at hSw); go_simp; try with_reducible rfl); simp only [Act.put, zT]; refine tkT 4 ?_ rfl hS ?_ ?_ (by kernel_rfl) (fun _ _ _ h => h) (by rfl); rotate_left; (· intro wS hSw; (try dsimp only at hSw); go_simp; try with_reducible rfl); simp only [Act.put, zT]; refine tkT 6 ?_ rfl hS ?_ ?_ (by kernel_rfl) (fun _ _ _ h => h) (by rfl); rotate_left; (· intro wS hSw; (try dsimp only at hSw); go_simp; try with_reducible rfl); simp only [Act.put, zT]; refine tkT 7 ?_ rfl hS ?_ ?_ (by kernel_rfl) (fun _ _ _ h => h) (by rfl); rotate_left; (· intro wS hSw; (try dsimp only at hSw); go_simp; try with_reducible rfl); simp only [Act.put, zT]; refine tkT 8 ?_ rfl hS ?_ ?_ (by kernel_rfl) (fun _ _ _ h => h) (by rfl); rotate_left; (· intro wS hSw; (try dsimp only at hSw); go_simp; try with_reducible rfl); simp only [Act.put, zT]
       refine oneT (i := 5) rfl (by kernel_rfl) (fun K hK => ?_); go_simp; have hBA := bl_alloc wr.drew.drew (.cells #[.int .i64 kd, .slice a5 lb.length c5] 49); have hSA := And.intro (keep_cell hBA hS.1) (keep_cell hBA hS.2); refine hK _ _ (fun _ => hSA) ?_; clear hK K hS; have hS := hSA; refine oneT (i := 9) rfl (by kernel_rfl) (fun K hK => ?_); refine step_append_idleG rfl (.tmp 69) (.tmp 72) 24 rfl 49 (.agg #[.int .i64 0, .slice none 0 0]) 2 32 Tryz.underlying24 info_part (some ⟨wr.heap.size, 0, none⟩) af 1 1 (co - ps.length) rfl rfl (Nat.le_refl _) ?_; refine hK _ _ (fun _ => hS) ?_; clear hK K; have hB78 : Below wr.heap.size wr (wr.drew.drew.alloc (.cells #[.int .i64 kd, .slice a5 lb.length c5] 49)) := (Below.refl wr.heap.size wr).drew.drew.trans (hBA.mono (Nat.le_refl _)); have hc8A : CellsAt (wr.drew.drew.alloc (.cells #[.int .i64 kd, .slice a5 lb.length c5] 49)) ao (ptC ps) := (Hca.out.below hwb).below hB78; have hol2 : ∀ b, ao = some b → ∀ j u, ((ptC ps).take (ps.length * 2))[j]? = some u → (wr.drew.drew.alloc (.cells #[.int .i64 kd, .slice a5 lb.length c5] 49)).cell? (b.add j) = some u := fun b hb j u hj => by
        have hjl := (List.getElem?_eq_some_iff.1 hj).1; rw [List.length_take] at hjl; rw [List.getElem?_take, if_pos (by omega)] at hj; obtain ⟨b', o', hb', hc'⟩ := hc8A _ _ hj; rw [hb] at hb'; cases hb'; rw [Addr.add_lit]; exact hc'
       have hlen2 : ((ptC ps).take (ps.length * 2)).length = ps.length * 2 := by rw [List.length_take, ptC_len]; omega
       refine oneT (i := 10) rfl (by kernel_rfl) (fun K hK => ?_); refine step_append_full rfl (.tmp 67) (.tmp 73) 24 rfl 49 (.agg #[.int .i64 0, .slice none 0 0]) 2 32 Tryz.underlying24 info_part (by decide +kernel) (by omega) ao ps.length ps.length _ rfl (fun h => ⟨(Hno.out h).1, (Hno.out h).1⟩) hlen2 hol2 ⟨wr.heap.size, 0, none⟩ 1 1 [.int .i64 kd, .slice a5 lb.length c5] rfl rfl (news2 wr.drew.drew _ _ _) (by intro u hu; simp at hu; rcases hu with rfl | rfl <;> rfl) (by omega) (by unfold maxLen; omega) (by omega) ?_; intro g9 c9 w9 hr9 hc9 hg9 hs9; have hS9 := And.intro (grown_cell hg9 hS.1 (by simp)) (grown_cell hg9 hS.2 (by simp)); refine hK _ _ (fun _ => hS9) ?_; clear hK K hS hSA; have hS := hS9; refine tkT 11 ?_ rfl hS ?_ ?_ (by kernel_rfl) (fun _ _ _ h => h) (by rfl); rotate_left; (· intro wS hSw; (try dsimp only at hSw); go_simp; try with_reducible rfl); simp only [Act.put, zT]; refine doneT (by kernel_rfl) ?_ _; have hB79 : Below wr.heap.size wr w9 := hB78.grown hg9 hB78.size (fun j hj => by cases hj); have H69 := Lib.hid (bl_trans Hb.out hB79); have HW9 := Lib.hid (bl_trans HB5.out H69.out); have hgt := Hgt.out; have hr9' : Row w9 g9 49 2 c9 ((ptC ps).take (ps.length * 2) ++ ([.int .i64 kd, .slice a5 lb.length c5] ++ (ptC ps).drop (ps.length * 2))) := by
        rw [List.drop_of_length_le (by rw [ptC_len]; omega), List.append_nil]; exact hr9
       clear hr9; have hr9 := hr9'; clear hS hS9 hB79 hB78 hg9 hs9 hol2 hlen2 hc8A hcut hfrom hBA hr9' f0r f1r; have hps9 : ∀ p ∈ (ps.take ps.length ++ ((kd, lb), a5, c5) :: ps.drop ps.length), RowP w9 p := fun p hp => by
        have hmm : p ∈ ps ∨ p = ((kd, lb), a5, c5) := by
         simp only [List.mem_append, List.mem_cons] at hp; rcases hp with hp | hp | hp
         · exact .inl (List.mem_of_mem_take hp)
         · exact .inr hp
         · exact .inl (List.mem_of_mem_drop hp)
        rcases hmm with hp | rfl
        · exact (HI.out.2 p hp).below HW9.out
        · exact ⟨hr5.below H69.out, hl5, hc5, fun ad had => Nat.lt_of_lt_of_le (Ha5.out ad had) H69.out.size⟩
       have hpl9 : ((ps.take ps.length ++ ((kd, lb), a5, c5) :: ps.drop ps.length)).length = ps.length + 1 := by simp <;> omega
       have hI9 : PtsO w9 (.slice (some ⟨g9, 0, none⟩) (ps.length + 1) c9) ((ps.take ps.length ++ ((kd, lb), a5, c5) :: ps.drop ps.length)) := by
        refine ⟨⟨ptC_len _, .inr ⟨g9, c9, by rw [hpl9] <;> (congr 1 <;> omega), by omega, ?_⟩⟩, hps9⟩; rw [ptC_append, ptC_cons, ← ptC_take, ← ptC_drop]; exact hr9
       have hq9 : ptQ ((ps.take ps.length ++ ((kd, lb), a5, c5) :: ps.drop ps.length)) = bareQ s (T.take (i + 1)) := by
        rw [Hst.out]; have e : bareP s (kd, lq) = (kd, lb) := by unfold bareP; rw [← Hlb.out]
        rw [e, ← Hpq.out, insB_at (k := ps.length) (by rw [ptQ_len]; omega) ?_ ?_]
        · unfold ptQ; rw [List.map_append, List.map_cons, List.map_take, List.map_drop]
        ·
         intro j h hj; rw [ptQ_len] at h; have := Hle.out j h hj; have e2 : (ptQ ps)[j]'(by rw [ptQ_len]; exact h) = ps[j].1 := by simp [ptQ]
         rw [e2]; exact this
        ·
         intro h hh; rw [ptQ_len] at h; have e2 : (ptQ ps)[ps.length]'(by rw [ptQ_len]; exact h) = ps[ps.length].1 := by simp [ptQ]
         rw [e2] at hh; have h3 : cmpLs ps[ps.length].1.2 lb ≤ 0 := hh; have := hgt h; omega
       have HI9 := Lib.hid hI9; have Hq9 := Lib.hid hq9; have Hpl9 := Lib.hid hpl9; clear hI9 hq9 hpl9 hps9 hr9 hc9 hgt; go_wp2_with fail; go_roundg (gko - 1)
       case measure => have := Hi.out; have := Hgko.out; omega
       case rel => exact ⟨i + 1, (ps.take ps.length ++ ((kd, lb), a5, c5) :: ps.drop ps.length), by have := Hi.out; have := Hgko.out; omega, by go_num, Hq9.out, by rw [Hpl9.out, Hpl.out], HI9.out, bl_trans HB.out HW9.out⟩
  ·
   have hin : i = T.length := by omega
   subst hin; rw [List.take_length] at hpq; clear hi hpl hI hB; go_wp2_with fail; go_ret; exact ⟨_, _, rfl, HI.out, hpq, HB.out⟩
end Go.Proofs.YtagcbnpahgfgmaaGreat
namespace Go.Proofs.YtagcbnpahgfgmaaGreat
open Go Go.RowKit Go.Maps
theorem name_walk (cb B c : Nat) (F : Int → Option Int) (v z : Int) (w : World) (hc : w.cell? ⟨cb, 0, none⟩ = some (.map (some B))) (hm : MZ w B c F) (hv : WfZ v) (hF : F v = some z) :
  Calls Tryz.prog 14 #[.int .i64 v, .pointer (some ⟨cb, 0, none⟩)] w fun e w' => e = .returned (.int .i64 z) ∧ w = w' := by
 have hl := hm.look hv
 rw [hF] at hl
 simp only [Option.getD_some] at hl
 clear hm hF
 go_enter Tryz.func14, Tryz.ntmps14
 go_wp2_with fail
 go_ret
 exact ⟨rfl, rfl⟩
theorem ident_walk (v : Int) (w : World) :
  Calls Tryz.prog 18 #[.int .i64 v] w fun e w' => e = .returned (.int .i64 v) ∧ w = w' := by
 go_enter Tryz.func18, Tryz.ntmps18
 go_wp2_with fail
 go_ret
 exact ⟨rfl, rfl⟩
end Go.Proofs.YtagcbnpahgfgmaaGreat
namespace Go.Proofs.YtagcbnpahgfgmaaGreat
theorem at_one {α : Type} {l : List α} (hn : l.Nodup) {i j : Nat} {x : α} (hi : l[i]? = some x) (hj : l[j]? = some x) : i = j :=
 (List.getElem?_inj (List.getElem?_eq_some_iff.1 hi).1 hn).1 (hi.trans hj.symm)
open Classical in
noncomputable def mapT (vs zs : List Int) (x : Int) : Int := if h : ∃ j : Nat, vs[j]? = some x then (zs[h.choose]?).getD 0 else x
theorem mapT_at {vs zs : List Int} (hn : vs.Nodup) {j : Nat} {x y : Int} (hx : vs[j]? = some x) (hy : zs[j]? = some y) : mapT vs zs x = y := by
 have h : ∃ j : Nat, vs[j]? = some x := ⟨j, hx⟩
 unfold mapT
 rw [dif_pos h, at_one hn h.choose_spec hx, hy]; rfl
theorem mapT_out {vs zs : List Int} {x : Int} (hx : x ∉ vs) : mapT vs zs x = x := by
 unfold mapT
 rw [dif_neg (fun ⟨j, hj⟩ => hx (List.mem_of_getElem? hj))]
theorem mapT_back {vs zs : List Int} (hn : vs.Nodup) (hp : zs.Perm vs) (x : Int) : mapT zs vs (mapT vs zs x) = x := by
 by_cases hx : x ∈ vs
 ·
  obtain ⟨j, hj, rfl⟩ := List.getElem_of_mem hx
  have hl := hp.length_eq
  have h1 : vs[j]? = some vs[j] := List.getElem?_eq_getElem hj
  have h2 : zs[j]? = some (zs[j]'(by omega)) := List.getElem?_eq_getElem (by omega)
  rw [mapT_at hn h1 h2]
  exact mapT_at (hp.nodup_iff.2 hn) h2 h1
 · rw [mapT_out hx, mapT_out (fun h => hx (hp.mem_iff.1 h))]
theorem call_of {ls : List Lk} {zs : List Int} (hp : zs.Perm (vertsL ls)) : CallL ls (mapT (vertsL ls) zs) (mapT zs (vertsL ls)) := by
 have hn := verts_nodup ls
 refine ⟨mapT_back hn hp, mapT_back (hp.nodup_iff.2 hn) hp.symm, fun v hv => ?_⟩
 obtain ⟨j, hj, rfl⟩ := List.getElem_of_mem hv
 have hl := hp.length_eq
 have h1 : (vertsL ls)[j]? = some (vertsL ls)[j] := List.getElem?_eq_getElem hj
 have h2 : zs[j]? = some (zs[j]'(by omega)) := List.getElem?_eq_getElem (by omega)
 rw [mapT_at hn h1 h2]
 exact hp.mem_iff.1 (List.getElem_mem _)
def AsgF (vs zs : List Int) (F : Int → Option Int) : Prop := ∀ (j : Nat) x y, vs[j]? = some x → zs[j]? = some y → F x = some y
theorem AsgF.snoc {vs zs : List Int} {F : Int → Option Int} (hn : vs.Nodup) (h : AsgF vs zs F) {x y : Int} (hx : vs[zs.length]? = some x) : AsgF vs (zs ++ [y]) (fun j => if j = x then some y else F j) := by
 intro j a b ha hb
 have hj := (List.getElem?_eq_some_iff.1 hb).1
 simp only [List.length_append, List.length_cons, List.length_nil] at hj
 by_cases e : j = zs.length
 ·
  subst e
  rw [ha] at hx
  cases hx
  simp at hb
  simp [hb]
 ·
  rw [List.getElem?_append_left (by omega)] at hb
  have hax : a ≠ x := fun e2 => e (at_one hn (e2 ▸ ha) hx)
  simp only [if_neg hax]
  exact h j a b ha hb
theorem AsgF.done {ls : List Lk} {zs : List Int} {F : Int → Option Int} (h : AsgF (vertsL ls) zs F) (hp : zs.Perm (vertsL ls)) {v : Int} (hv : v ∈ vertsL ls) : F v = some (mapT (vertsL ls) zs v) := by
 obtain ⟨j, hj, rfl⟩ := List.getElem_of_mem hv
 have hl := hp.length_eq
 have h1 : (vertsL ls)[j]? = some (vertsL ls)[j] := List.getElem?_eq_getElem hj
 have h2 : zs[j]? = some (zs[j]'(by omega)) := List.getElem?_eq_getElem (by omega)
 rw [mapT_at (verts_nodup ls) h1 h2]
 exact h j _ _ h1 h2
theorem perm_free {zs fs vs : List Int} (h : (zs ++ fs).Perm vs) {t : Nat} (ht : t < fs.length) : ((zs ++ [fs[t]]) ++ fs.eraseIdx t).Perm vs := by
 refine List.Perm.trans ?_ h
 rw [List.append_assoc]
 exact (perm_cons_eraseIdx' ht).symm.append_left zs
theorem tree_verts {ls : List Lk} (h2 : twoL ls = true) (hv : ∀ k ∈ ls, k.2.2 = 0) (h3 : 3 ≤ ls.length) {T : List Pt} (hT : TreeTo kindL ls T) {q : Pt} (hq : q ∈ T) {e : Lk} (he : e ∈ q.2) {v : Int} (hev : AtL e v) : v ∈ vertsL ls := by
 obtain ⟨q1, _, _⟩ := hT.qd h2 hv h3
 obtain ⟨D, hD, e1⟩ := q1.eq
 have : q.2 ∈ D.map fun d => d.1 := by rw [e1]; exact List.mem_map_of_mem hq
 obtain ⟨d, hd, hde⟩ := List.mem_map.1 this
 have hde2 : d.1 = q.2 := hde
 obtain ⟨⟨k, _, hk⟩, _⟩ := ((hD.part d hd).ends e (by rw [hde2]; exact he) v).2 hev
 exact AtL.vert k.2 hk
end Go.Proofs.YtagcbnpahgfgmaaGreat
