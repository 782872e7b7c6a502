/- Facts that the claim rests on, part 6. -/
import Derived.Test.YtagjdkkfmfombaaGreatKB04
namespace Go.Proofs.YtagjdkkfmfombaaGreat
open Go Go.RowKit
set_option maxRecDepth 100000 in
set_option maxHeartbeats 4000000 in
theorem cuts_walk (G n : Nat) (bs : Nat → List Nat) (gone : Int) (w : World) (hG : RdG w G n bs) (hsy : ∀ a b, b ∈ bs a → a ∈ bs b) (hbs : ∀ v, v < n → ∀ x ∈ bs v, x < n)
  (hn : n ≤ 100000) (hlen : ∀ v, v < n → (bs v).length ≤ 100000) (hsum : restS n bs (fun _ => 0) ≤ 100000000) (hg : -1 ≤ gone) (hgn : gone < n) :
  Calls Tryz.prog 183 #[.slice (some ⟨G, 0, none⟩) n n, .int .i64 gone] w (RetCutsK w n bs gone) := by
 obtain ⟨left, hleft⟩ : ∃ l : Nat, l = ((List.range n).filter (presB gone)).length := ⟨_, rfl⟩
 have hleft2 := left_len n gone hg hgn
 rw [← hleft] at hleft2
 obtain ⟨root, hroot⟩ : ∃ r : Nat, r = if gone = 0 then 1 else 0 := ⟨_, rfl⟩
 have Hleft := Lib.hid hleft; have Hleft2 := Lib.hid hleft2; have Hroot := Lib.hid hroot; have Hsy := Lib.hid hsy; have Hbs := Lib.hid hbs; have Hlen := Lib.hid hlen; have Hsum := Lib.hid hsum
 clear hleft hleft2 hroot hsy hbs hlen hsum
 have hmi := run_make_row' (P := Tryz.prog) 25 3 (.int .i64 0) 8 Tryz.underlying25 int_info rfl .i64 .i64 n (by omega) (by omega)
 have hmb := run_make_row' (P := Tryz.prog) 88 4 (.bool false) 1 Tryz.underlying88 bool_info rfl .i64 .i64 n (by omega) (by omega)
 go_enter Tryz.func183, Tryz.ntmps183
 go_upto_if 26 with (fail)
 obtain ⟨w0, hw0⟩ : ∃ w0, w0 = w.alloc (.cells (madeCells #[.bool false] n) 4) := ⟨_, rfl⟩
 rw [← hw0]
 have hb0 : Below w.heap.size w w0 := by rw [hw0]; exact bl_alloc _ _
 have hrc0 : Row w0 w.heap.size 4 1 n (rowB n fun _ => false) := by
  have := row_made w (.bool false) n 4 (by unfold maxLen; omega)
  rw [rowB_zero] at this
  rw [hw0]; exact this
 have hz0 : w0.heap.size = w.heap.size + 1 := by rw [hw0]; simp
 have Hz0 := Lib.hid hz0; clear hw0 hz0
 go_cut [8, 9] (fun r l wx => r = .int .i64 (root : Int) ∧ l = .int .i64 (left : Int) ∧ w0 = wx)
 case first =>
  by_cases h0 : 0 ≤ gone
  ·
   by_cases h1 : gone = 0
   ·
    subst h1; have e1 : root = 1 := by rw [Hroot.out]; simp
    have e2 : (left : Int) = (n : Int) - 1 := by rw [Hleft2.out]; simp
    go_wp2_with fail; go_meet
    exact ⟨by rw [e1]; rfl, by rw [e2], rfl⟩
   ·
    have g1 : (gone == 0) = false := by simpa using h1
    have e1 : root = 0 := by rw [Hroot.out, if_neg h1]
    have e2 : (left : Int) = (n : Int) - 1 := by rw [Hleft2.out, if_pos h0]
    go_wp2_with fail; go_meet
    exact ⟨by rw [e1]; rfl, by rw [e2], rfl⟩
  ·
   have e1 : root = 0 := by rw [Hroot.out, if_neg (by omega)]
   have e2 : (left : Int) = (n : Int) := by rw [Hleft2.out, if_neg h0]
   go_wp2_with fail; go_meet
   exact ⟨by rw [e1]; rfl, by rw [e2], rfl⟩
 case rest =>
 obtain ⟨rfl, rfl, rfl⟩ := hcut
 by_cases hl : left = 0
 ·
  have hno : ∀ v, ¬ Pres n gone v := fun v hv => by
   have h1 : v ∈ (List.range n).filter (presB gone) := by simp only [List.mem_filter, List.mem_range, presB, decide_eq_true_eq]; exact hv
   have := List.length_pos_of_mem h1; rw [← Hleft.out] at this; omega
  have Hno := Lib.hid hno; clear hno
  have hl' : (left : Int) < 1 := by omega
  go_wp2_with fail
  go_ret2
  exact ⟨true, fun _ => false, w.heap.size, rfl, hrc0, Nat.le_refl _, hb0, cut_none Hno.out⟩
 have hpres : Pres n gone root := by
  have h2 := Hleft2.out
  rw [Hroot.out]
  by_cases h1 : gone = 0
  · rw [if_pos h1]; rw [if_pos (by omega)] at h2; exact ⟨by omega, by omega⟩
  ·
   rw [if_neg h1]; refine ⟨?_, by simp; omega⟩; by_cases h3 : 0 ≤ gone
   · rw [if_pos h3] at h2; omega
   · rw [if_neg h3] at h2; omega
 have hrn0 := hpres.1
 have Hpres := Lib.hid hpres; clear hpres
 have hl' : (1 : Int) ≤ (left : Int) := by omega
 have hleftn : left ≤ n := by have := Hleft2.out; split at this <;> omega
 have hmade : ∀ W : World, Row (W.alloc (.cells (madeCells #[.int .i64 0] n) 3)) W.heap.size 3 1 n (rowN n fun _ => 0) := fun W => by
  have := row_made W (.int .i64 0) n 3 (by unfold maxLen; omega)
  rwa [rowN_zero] at this
 have htwo : ∀ W : World, Row (((W.alloc (.cells (madeCells #[.int .i64 0] n) 3)).alloc (.cells (madeCells #[.int .i64 0] n) 3)).drew) W.heap.size 3 1 n (rowN n fun _ => 0) ∧
   Row (((W.alloc (.cells (madeCells #[.int .i64 0] n) 3)).alloc (.cells (madeCells #[.int .i64 0] n) 3)).drew) (W.heap.size + 1) 3 1 n (rowN n fun _ => 0) ∧
   Below W.heap.size W (((W.alloc (.cells (madeCells #[.int .i64 0] n) 3)).alloc (.cells (madeCells #[.int .i64 0] n) 3)).drew) := fun W => by
  refine ⟨((hmade W).alloc _).drew, ?_, Below.drew (bl_trans (bl_alloc _ _) (bl_alloc _ _))⟩
  have := (hmade (W.alloc (.cells (madeCells #[.int .i64 0] n) 3))).drew
  simpa using this
 have Htwo := Lib.hid htwo; clear hmade htwo
 go_upto_region 10 with (fail)
 go_cut [10, 11] (fun a b wx => ∃ gn gl, a = .slice (some ⟨gn, 0, none⟩) n n ∧ b = .slice (some ⟨gl, 0, none⟩) n n ∧ Row wx gn 3 1 n (rowN n fun _ => 0) ∧ Row wx gl 3 1 n (rowN n fun _ => 0) ∧ gn ≠ gl ∧ w0.heap.size ≤ gn ∧ w0.heap.size ≤ gl ∧ Below w0.heap.size w0 wx)
 case first =>
  obtain ⟨t1, t2, t3⟩ := Htwo.out w0
  go_region
  ·
   go_wp2_with fail; go_meet
   first
    | exact ⟨_, _, rfl, rfl, t1, t2, by omega, by omega, by omega, t3⟩
    | exact ⟨_, _, rfl, rfl, t2, t1, by omega, by omega, by omega, t3⟩
  ·
   go_wp2_with fail; go_meet
   first
    | exact ⟨_, _, rfl, rfl, t1, t2, by omega, by omega, by omega, t3⟩
    | exact ⟨_, _, rfl, rfl, t2, t1, by omega, by omega, by omega, t3⟩
 case rest =>
 obtain ⟨gn, gl, rfl, rfl, hrn, hrl, hnl, hgn0, hgl0, hb1⟩ := hcut
 have hrc1 := hrc0.below hb1 hrc0.lt
 have hB1 := bl_trans hb0 hb1
 have hz1 := hb1.size
 have hzn := hrn.lt
 have hzl := hrl.lt
 have hz0 : w.heap.size < w0.heap.size := by rw [Hz0.out]; omega
 clear hrc0 hb0 hb1
 obtain ⟨w1, hw1⟩ : ∃ w1 : World, w1 = wc := ⟨_, rfl⟩
 subst hw1
 go_upto_region 11 with (fail)
 go_cut [12, 13] (fun a b wx => ∃ gu ga, a = .slice (some ⟨gu, 0, none⟩) n n ∧ b = .slice (some ⟨ga, 0, none⟩) n n ∧ Row wx gu 3 1 n (rowN n fun _ => 0) ∧ Row wx ga 3 1 n (rowN n fun _ => 0) ∧ gu ≠ ga ∧ w1.heap.size ≤ gu ∧ w1.heap.size ≤ ga ∧ Below w1.heap.size w1 wx)
 case first =>
  obtain ⟨t1, t2, t3⟩ := Htwo.out w1
  go_region
  ·
   go_wp2_with fail; go_meet
   first
    | exact ⟨_, _, rfl, rfl, t1, t2, by omega, by omega, by omega, t3⟩
    | exact ⟨_, _, rfl, rfl, t2, t1, by omega, by omega, by omega, t3⟩
  ·
   go_wp2_with fail; go_meet
   first
    | exact ⟨_, _, rfl, rfl, t1, t2, by omega, by omega, by omega, t3⟩
    | exact ⟨_, _, rfl, rfl, t2, t1, by omega, by omega, by omega, t3⟩
 case rest =>
 obtain ⟨gu, ga, rfl, rfl, hru, hra, hua, hgu0, hga0, hb2⟩ := hcut
 have hrc2 := hrc1.below hb2 hrc1.lt
 have hrn2 := hrn.below hb2 hrn.lt
 have hrl2 := hrl.below hb2 hrl.lt
 have hB2 := bl_trans hB1 hb2
 have hzu := hru.lt
 have hza := hra.lt
 obtain ⟨w2, hw2⟩ : ∃ w2 : World, w2 = wc := ⟨_, rfl⟩
 subst hw2
 have hm1 : CM (((w2.setCell ⟨gn, root, none⟩ (vN 1)).setCell ⟨gl, root, none⟩ (vN 1)).alloc (.cells #[.int .i64 root] 3)) w.heap.size gn gl gu ga w.heap.size w2.heap.size 1 n (CS.start root).num (CS.start root).low (CS.start root).up (CS.start root).at_ (CS.start root).cut [root] := by
  have q1 := ((hrn2.set root (vN 1)).other (a := ⟨gl, root, none⟩) hnl (vN 1)).alloc (.cells #[.int .i64 root] 3)
  have q2 := ((hrl2.other (a := ⟨gn, root, none⟩) hnl.symm (vN 1)).set root (vN 1)).alloc (.cells #[.int .i64 root] 3)
  rw [rowN_set] at q1 q2
  have q : ∀ {g e vs} (_ : Row w2 g e 1 n vs), g ≠ gn → g ≠ gl → Row (((w2.setCell ⟨gn, root, none⟩ (vN 1)).setCell ⟨gl, root, none⟩ (vN 1)).alloc (.cells #[.int .i64 root] 3)) g e 1 n vs := fun h h1 h2 => ((h.other (a := ⟨gn, root, none⟩) h1 _).other (a := ⟨gl, root, none⟩) h2 _).alloc _
  refine ⟨q1, q2, q hru (by omega) (by omega), q hra (by omega) (by omega), q hrc2 (by omega) (by omega), ?_, ⟨hnl, by omega, by omega, by omega, by omega, by omega, by omega, hua, by omega, by omega⟩, ⟨by omega, by omega, by omega, by omega, by omega⟩, ⟨by omega, by omega, by omega, by omega, by omega, by omega⟩⟩
  have := row_lit ((w2.setCell ⟨gn, root, none⟩ (vN 1)).setCell ⟨gl, root, none⟩ (vN 1)) [vN root] 3 (by unfold maxLen; simp)
  simpa [vN] using this
 have hB3 : Below w.heap.size w (((w2.setCell ⟨gn, root, none⟩ (vN 1)).setCell ⟨gl, root, none⟩ (vN 1)).alloc (.cells #[.int .i64 root] 3)) := ((hB2.setCell (by simp; omega) _).setCell (by simp; omega) _).alloc (by simp; omega) _
 have f1 := hrn2.atN hrn0
 have f2 := hrn2.frozen root
 have f3 : (w2.setCell ⟨gn, root, none⟩ (.int .i64 1)).cell? ⟨gl, root, none⟩ = some (.int .i64 0) := by rw [World.cell?_setCell_far _ _ _ _ (by simpa using hnl)]; exact hrl2.atN hrn0
 have f4 := (hrl2.other (a := ⟨gn, root, none⟩) hnl.symm (.int .i64 1)).frozen root
 have ir1 : (root : Int) < (n : Int) := by omega
 have ir0 : (0 : Int) ≤ (root : Int) := by omega
 go_wp2_with fail
 go_loopg [14, 15, 16] (2 * restS n bs (fun _ => 0) + 1) (fun q vm vk vs wr => ∃ (s : CS) (st : List Nat) (gs cs : Nat), s.stack = st ∧ vm = .int .i64 (s.met : Int) ∧ vk = .int .i64 (s.kids : Int) ∧ vs = .slice (some ⟨gs, 0, none⟩) st.length cs ∧
  CM wr w.heap.size gn gl gu ga w.heap.size gs cs n s.num s.low s.up s.at_ s.cut st ∧ Below w.heap.size w wr ∧ CT n bs gone root s ∧ CL n bs gone root s ∧ 2 * restS n bs s.at_ + st.length ≤ q ∧ s.kids + 2 * restS n bs s.at_ + st.length ≤ 200000001)
 case atStart =>
  have h1 := Hsum.out
  exact ⟨CS.start root, [root], w2.heap.size, 1, rfl, rfl, rfl, rfl, hm1, hB3, CT.start Hpres.out, CL.start, Nat.le_refl _, by show 0 + 2 * restS n bs (fun _ => 0) + 1 ≤ _; omega⟩
 case round =>
  clear hm1 hB3 f1 f2 f3 f4
  obtain ⟨s, st, gs, cs, hst, rfl, rfl, rfl, hm, hb, hT, hL, hq, hk⟩ := hrel
  have hmet := hT.met_le
  cases st with
  | nil =>
   have hend := cut_end hT hL Hsy.out hst left Hleft.out; have Hend := Lib.hid hend; have Hst := Lib.hid hst; clear hend hst hT hL; have hrc := hm.rc; have c1 := hrc.atB hrn0; have c2 := hrc.frozen root; have hrc' := hrc.set root (.bool (decide (1 < s.kids))); rw [rowB_set] at hrc'; have e1 : decide ((1 : Int) < (s.kids : Int)) = decide (1 < s.kids) := by rw [decide_eq_decide]; omega
   have e2 : ((s.met : Int) == (left : Int)) = decide (s.met = left) := by rw [Bool.eq_iff_iff]; simp; omega
   have E1 := Lib.hid e1; have E2 := Lib.hid e2; clear e1 e2 hm; go_wp2_with fail; go_ret2; refine ⟨decide (s.met = left), upd s.cut root (decide (1 < s.kids)), w.heap.size, by rw [E2.out] <;> rfl, ?_, Nat.le_refl _, hb.setCell (by simp) _, Hend.out⟩; rw [E1.out]; exact hrc'
  | cons v r =>
   have hvs : v ∈ s.stack := by rw [hst]; simp
   have hvz := hT.stV v hvs; have hvn : v < n := (hT.numP v hvz).1; have hta := hT.atLe v; have hlv := Hlen.out v hvn; have c1 : wr.cell? ⟨gs, r.length, none⟩ = some (.int .i64 v) := by rw [hm.rs.cell? r.length (by simp)]; simp [vN]
   obtain ⟨au, cu, c2, hau⟩ := (hG.below hb) v hvn; have c3 := hm.ra.atN hvn; have hrl : r.length ≤ 200000001 := by simp only [List.length_cons] at hk; omega
   have iv0 : (0 : Int) ≤ (v : Int) := by omega
   have iv1 : (v : Int) < (n : Int) := by omega
   have ir2 : (0 : Int) ≤ (r.length : Int) := by omega
   by_cases hlt : s.at_ v < (bs v).length
   ·
    obtain ⟨x, hx⟩ : ∃ x, (bs v)[s.at_ v]? = some x := ⟨(bs v)[s.at_ v], by simp⟩
    have hxn : x < n := Hbs.out v hvn x (List.mem_of_getElem? hx); obtain ⟨b, o, rfl, c4⟩ := hau (s.at_ v) (vN x) (by simp [hx]); simp only [vN] at c4; have it0 : (0 : Int) ≤ (s.at_ v : Int) := by omega
    have it1 : (s.at_ v : Int) < ((bs v).length : Int) := by omega
    have ix0 : (0 : Int) ≤ (x : Int) := by omega
    have ix1 : (x : Int) < (n : Int) := by omega
    have hrest := restS_inc hvn hlt; have Hrest := Lib.hid hrest; have Hx := Lib.hid hx; have Hst := Lib.hid hst; have Hq := Lib.hid hq; have Hk := Lib.hid hk; clear hrest hx hst hq hk hau; go_wp2_with fail; go_quiet (fail)
    go_wp2_with fail; go_quiet (fail)
    go_upto_region 19 with (fail)
    generalize hN : World.drewN _ _ = wd; have hbd : Below wr.heap.size wr wd := by subst hN; exact below_drewN (below_drewN (Below.refl _ _) _) _
    clear hN; replace hm := hm.ext hbd; replace hb := bl_trans hb hbd; replace c3 := keep_cell hbd c3; have f3 := hm.ra.frozen v; clear hbd c1 c2 c4; have hmT := hm.set_at v (s.at_ v + 1); rw [show vN (s.at_ v + 1) = Value.int .i64 ((s.at_ v : Int) + 1) by simp [vN]] at hmT; have hbT : Below w.heap.size w (wd.setCell ⟨ga, v, none⟩ (Value.int .i64 ((s.at_ v : Int) + 1))) := hb.setCell (by simpa using hm.lo.2.2.2.1) _; go_upto_region 20 with (fail)
    generalize wd.setCell ⟨ga, v, none⟩ (Value.int .i64 ((s.at_ v : Int) + 1)) = wt at hmT hbT ⊢; clear hm hb c3 f3; by_cases hgone : (x : Int) = gone
    ·
     have g1 : ((x : Int) == gone) = true := by simpa using hgone
     have Hgone := Lib.hid hgone; clear hgone; go_wp2_with fail; go_roundg (gk - 1)
     case measure => have := Hq.out; have := Hrest.out; omega
     case rel =>
      have h1 := Hq.out; have h2 := Hrest.out; have h3 := Hk.out
      exact ⟨s.skip v, v :: r, gs, cs, Hst.out, rfl, rfl, rfl, hmT, hbT, hT.skipLike Hst.out Hx.out (fun hp => absurd Hgone.out hp.2) s.low, hL.skip Hx.out (fun hp => hp.2 Hgone.out),
       by show 2 * restS n bs (upd s.at_ v (s.at_ v + 1)) + _ ≤ _; omega, by show s.kids + 2 * restS n bs (upd s.at_ v (s.at_ v + 1)) + _ ≤ _; omega⟩
    ·
     have g1 : ((x : Int) == gone) = false := by simpa using hgone
     have hpx : Pres n gone x := ⟨hxn, hgone⟩
     have Hpx := Lib.hid hpx; clear hgone hpx; by_cases hnum : s.num x = 0
     ·
      have c5 : wt.cell? ⟨gn, x, none⟩ = some (.int .i64 0) := by rw [hmT.rn.atN hxn, hnum]; rfl
      have f5 := hmT.rn.frozen x; have Hnum := Lib.hid hnum; clear hnum; have hm1 := hmT.set_num x (s.met + 1); have hm2 := hm1.set_low x (s.met + 1); have hm3 := hm2.set_up x v; have ev : vN (s.met + 1) = Value.int .i64 ((s.met : Int) + 1) := by simp [vN]
      rw [ev] at hm1 hm2 hm3; have c6 := hm1.rl.atN hxn; have f6 := hm1.rl.frozen x; have c7 := hm2.ru.atN hxn; have f7 := hm2.ru.frozen x; have hb3 : Below w.heap.size w (((wt.setCell ⟨gn, x, none⟩ (.int .i64 ((s.met : Int) + 1))).setCell ⟨gl, x, none⟩ (.int .i64 ((s.met : Int) + 1))).setCell ⟨gu, x, none⟩ (vN v)) :=
       ((hbT.setCell (by simpa using hmT.lo.1) _).setCell (by simpa using hmT.lo.2.1) _).setCell (by simpa using hmT.lo.2.2.1) _
      clear ev hm1 hm2 hmT hbT; unfold vN at hm3 hb3; go_upto_region 24 with (fail)
      generalize ((wt.setCell ⟨gn, x, none⟩ (.int .i64 ((s.met : Int) + 1))).setCell ⟨gl, x, none⟩ (.int .i64 ((s.met : Int) + 1))).setCell ⟨gu, x, none⟩ (.int .i64 (v : Int)) = ws at hm3 hb3 ⊢; clear c5 f5 c6 f6 c7 f7; have hown := (hm3.ext (bl_alloc ws (.cells #[.int .i64 x] 3))).rs.own1; rw [List.length_map, List.length_reverse] at hown; go_wp2_with (at_builtin; refine wpList_append_row _ rfl (.tmp 107) (.tmp 109) 25 rfl 3 (.int .i64 0) 1 8 Tryz.underlying25 int_info rfl _ _ _ rfl hown ⟨ws.heap.size, 0, none⟩ 1 1 [.int .i64 x] rfl rfl (one_new (by simp)) (one_ok _ _) (by omega) (by unfold maxLen; simp; omega) (by simp; omega) ?_); intro g2 c2 w3 hr2 hc2 hgr2 hor2; have hm4 := (hm3.ext (bl_alloc ws (.cells #[.int .i64 x] 3))).push (x := x) (g' := g2) (c' := c2) (by simpa [vN] using hr2) hgr2 (hor2.imp id (fun h => by simpa using h)); have hb4 : Below w.heap.size w w3 := (bl_trans hb3 (bl_alloc _ _)).grown hgr2 (by simp; have := hb3.size; omega) (fun k hk => by cases hk; exact hm3.lo.2.2.2.2.2); clear hm3 hb3 hr2 hgr2 hor2 hown; go_wp2_with fail; go_roundg (gk - 1)
      case measure => have := Hq.out; have := Hrest.out; omega
      case rel =>
       have h1 := Hq.out; have h2 := Hrest.out; have h3 := Hk.out; simp only [List.length_cons] at h1 h3
       exact ⟨s.disc v x, x :: v :: r, g2, c2, by show x :: s.stack = _; rw [Hst.out], by show _ = Value.int .i64 ((s.met + 1 : Nat) : Int); simp, rfl, by simp, hm4, hb4, hT.disc Hst.out Hx.out Hpx.out Hnum.out, hL.disc hT Hst.out Hx.out Hpx.out Hnum.out,
        by show 2 * restS n bs (upd s.at_ v (s.at_ v + 1)) + _ ≤ _; simp only [List.length_cons]; omega, by show s.kids + 2 * restS n bs (upd s.at_ v (s.at_ v + 1)) + _ ≤ _; simp only [List.length_cons]; omega⟩
     ·
      have c5 := hmT.rn.atN hxn; have c6 := hmT.rl.atN hvn; have f6 := hmT.rl.frozen v; have g2 : ((s.num x : Int) == 0) = false := by simpa using hnum
      have Hnum := Lib.hid hnum; clear hnum; clear it0 it1 ir2; by_cases hmin : s.num x < s.low v
      ·
       skip; have em : min (s.low v) (s.num x) = s.num x := (Nat.min_eq_right (Nat.le_of_lt hmin))
       have hmS := (hmT.set_low v (s.num x)).ext (bl_refl _).drew; have hbS : Below w.heap.size w ((wt.setCell ⟨gl, v, none⟩ (vN (s.num x))).drew) := (hbT.setCell (by simpa using hmT.lo.2.1) _).drew; unfold vN at hmS hbS; have Hem := Lib.hid em; clear em; go_upto_region 25 with (fail)
       refine regionT (fun w' => w'.cell? ⟨gl, v, none⟩ = some (.int .i64 (s.low v : Int)) ∧ w'.cell? ⟨gn, x, none⟩ = some (.int .i64 (s.num x : Int))) 12 (by kernel_rfl) ?_; have hS : wt.drew.cell? ⟨gl, v, none⟩ = some (.int .i64 (s.low v : Int)) ∧ wt.drew.cell? ⟨gn, x, none⟩ = some (.int .i64 (s.num x : Int)) := ⟨c6, c5⟩
       refine tkT 0 ?_ rfl hS ?_ ?_ (by kernel_rfl) (fun _ _ _ h => h) (by rfl); rotate_left; (· intro wS hSw; (try dsimp only at hSw); go_simp; try with_reducible rfl); simp only [Act.put, zT]; refine tkT 1 ?_ rfl hS ?_ ?_ (by kernel_rfl) (fun _ _ _ h => h) (by rfl); rotate_left; (· intro wS hSw; (try dsimp only at hSw); go_simp; try with_reducible rfl); simp only [Act.put, zT]; refine tkT 2 ?_ rfl hS ?_ ?_ (by kernel_rfl) (fun _ _ _ h => h) (by rfl); rotate_left; (· intro wS hSw; (try dsimp only at hSw); go_simp; try with_reducible rfl); simp only [Act.put, zT]; refine tkT 3 ?_ rfl hS ?_ ?_ (by kernel_rfl) (fun _ _ _ h => h) (by rfl); rotate_left; (· intro wS hSw; (try dsimp only at hSw); go_simp; try with_reducible rfl); simp only [Act.put, zT]; refine tkT 4 ?_ rfl hS ?_ ?_ (by kernel_rfl) (fun _ _ _ h => h) (by rfl); rotate_left; (· intro wS hSw; (try dsimp only at hSw); go_simp; try with_reducible rfl); simp only [Act.put, zT]; refine tkT 5 ?_ rfl hS ?_ ?_ (by kernel_rfl) (fun _ _ _ h => h) (by rfl); rotate_left; (· intro wS hSw; (try dsimp only at hSw); go_simp; try with_reducible rfl); simp only [Act.put, zT]; refine tkT 6 ?_ rfl hS ?_ ?_ (by kernel_rfl) (fun _ _ _ h => h) (by rfl); rotate_left; (· intro wS hSw; (try dsimp only at hSw); go_simp; try with_reducible rfl); simp only [Act.put, zT]; refine tkT 7 ?_ rfl hS ?_ ?_ (by kernel_rfl) (fun _ _ _ h => h) (by rfl); rotate_left; (· intro wS hSw; (try dsimp only at hSw); go_simp; try with_reducible rfl); simp only [Act.put, zT]
       refine tkT 8 ?_ rfl hS ?_ ?_ (by kernel_rfl) (fun _ _ _ h => h) (by rfl); rotate_left; (· intro wS hSw; (try dsimp only at hSw); go_simp; try with_reducible rfl); simp only [Act.put, zT]; refine tkT 9 ?_ rfl hS ?_ ?_ (by kernel_rfl) (fun _ _ _ h => h) (by rfl); rotate_left; (· intro wS hSw; (try dsimp only at hSw); go_simp; try with_reducible rfl); simp only [Act.put, zT]; refine tkT 10 ?_ rfl hS ?_ ?_ (by kernel_rfl) (fun _ _ _ h => h) (by rfl); rotate_left; (· intro wS hSw; (try dsimp only at hSw); go_simp; try with_reducible rfl); simp only [Act.put, zT]; refine tkT 11 ?_ rfl hS ?_ ?_ (by kernel_rfl) (fun _ _ _ h => h) (by rfl); rotate_left; (· intro wS hSw; (try dsimp only at hSw); go_simp; try with_reducible rfl); simp only [Act.put, zT]; refine oneT (i := 12) rfl (by kernel_rfl) (fun K hK => ?_); go_simp; try rw [show min ((s.low v : Nat) : Int) ((s.num x : Nat) : Int) = ((s.num x : Nat) : Int) from by omega]
       refine hK _ _ (fun h => absurd h (by omega)) ?_; clear hK K; refine doneT (by kernel_rfl) ?_ _; go_wp2_with fail; go_roundg (gk - 1)
       case measure => have := Hq.out; have := Hrest.out; omega
       case rel =>
        have h1 := Hq.out; have h2 := Hrest.out; have h3 := Hk.out; have hT2 := hT.skipLike Hst.out Hx.out (fun _ => Hnum.out) (upd s.low v (min (s.low v) (s.num x))); have hL2 := hL.exam hT Hst.out Hx.out Hnum.out; have he : s.exam v x = { s with at_ := upd s.at_ v (s.at_ v + 1), low := upd s.low v (s.num x) } := by unfold CS.exam; rw [Hem.out]
        rw [Hem.out] at hT2; rw [he] at hL2
        exact ⟨{ s with at_ := upd s.at_ v (s.at_ v + 1), low := upd s.low v (s.num x) }, v :: r, gs, cs, Hst.out, rfl, rfl, rfl, hmS, hbS, hT2, hL2,
         by show 2 * restS n bs (upd s.at_ v (s.at_ v + 1)) + _ ≤ _; omega, by show s.kids + 2 * restS n bs (upd s.at_ v (s.at_ v + 1)) + _ ≤ _; omega⟩
      ·
       skip; have em : min (s.low v) (s.num x) = s.low v := (Nat.min_eq_left (Nat.le_of_not_lt hmin))
       have hmS := (hmT.set_low v (s.low v)).ext (bl_refl _).drew; have hbS : Below w.heap.size w ((wt.setCell ⟨gl, v, none⟩ (vN (s.low v))).drew) := (hbT.setCell (by simpa using hmT.lo.2.1) _).drew; unfold vN at hmS hbS; have Hem := Lib.hid em; clear em; go_upto_region 25 with (fail)
       refine regionT (fun w' => w'.cell? ⟨gl, v, none⟩ = some (.int .i64 (s.low v : Int)) ∧ w'.cell? ⟨gn, x, none⟩ = some (.int .i64 (s.num x : Int))) 12 (by kernel_rfl) ?_; have hS : wt.drew.cell? ⟨gl, v, none⟩ = some (.int .i64 (s.low v : Int)) ∧ wt.drew.cell? ⟨gn, x, none⟩ = some (.int .i64 (s.num x : Int)) := ⟨c6, c5⟩
       refine tkT 0 ?_ rfl hS ?_ ?_ (by kernel_rfl) (fun _ _ _ h => h) (by rfl); rotate_left; (· intro wS hSw; (try dsimp only at hSw); go_simp; try with_reducible rfl); simp only [Act.put, zT]; refine tkT 1 ?_ rfl hS ?_ ?_ (by kernel_rfl) (fun _ _ _ h => h) (by rfl); rotate_left; (· intro wS hSw; (try dsimp only at hSw); go_simp; try with_reducible rfl); simp only [Act.put, zT]; refine tkT 2 ?_ rfl hS ?_ ?_ (by kernel_rfl) (fun _ _ _ h => h) (by rfl); rotate_left; (· intro wS hSw; (try dsimp only at hSw); go_simp; try with_reducible rfl); simp only [Act.put, zT]; refine tkT 3 ?_ rfl hS ?_ ?_ (by kernel_rfl) (fun _ _ _ h => h) (by rfl); rotate_left; (· intro wS hSw; (try dsimp only at hSw); go_simp; try with_reducible rfl); simp only [Act.put, zT]; refine tkT 4 ?_ rfl hS ?_ ?_ (by kernel_rfl) (fun _ _ _ h => h) (by rfl); rotate_left; (· intro wS hSw; (try dsimp only at hSw); go_simp; try with_reducible rfl); simp only [Act.put, zT]; refine tkT 5 ?_ rfl hS ?_ ?_ (by kernel_rfl) (fun _ _ _ h => h) (by rfl); rotate_left; (· intro wS hSw; (try dsimp only at hSw); go_simp; try with_reducible rfl); simp only [Act.put, zT]; refine tkT 6 ?_ rfl hS ?_ ?_ (by kernel_rfl) (fun _ _ _ h => h) (by rfl); rotate_left; (· intro wS hSw; (try dsimp only at hSw); go_simp; try with_reducible rfl); simp only [Act.put, zT]; refine tkT 7 ?_ rfl hS ?_ ?_ (by kernel_rfl) (fun _ _ _ h => h) (by rfl); rotate_left; (· intro wS hSw; (try dsimp only at hSw); go_simp; try with_reducible rfl); simp only [Act.put, zT]
       refine tkT 8 ?_ rfl hS ?_ ?_ (by kernel_rfl) (fun _ _ _ h => h) (by rfl); rotate_left; (· intro wS hSw; (try dsimp only at hSw); go_simp; try with_reducible rfl); simp only [Act.put, zT]; refine tkT 9 ?_ rfl hS ?_ ?_ (by kernel_rfl) (fun _ _ _ h => h) (by rfl); rotate_left; (· intro wS hSw; (try dsimp only at hSw); go_simp; try with_reducible rfl); simp only [Act.put, zT]; refine tkT 10 ?_ rfl hS ?_ ?_ (by kernel_rfl) (fun _ _ _ h => h) (by rfl); rotate_left; (· intro wS hSw; (try dsimp only at hSw); go_simp; try with_reducible rfl); simp only [Act.put, zT]; refine tkT 11 ?_ rfl hS ?_ ?_ (by kernel_rfl) (fun _ _ _ h => h) (by rfl); rotate_left; (· intro wS hSw; (try dsimp only at hSw); go_simp; try with_reducible rfl); simp only [Act.put, zT]; refine oneT (i := 12) rfl (by kernel_rfl) (fun K hK => ?_); go_simp; try rw [show min ((s.low v : Nat) : Int) ((s.num x : Nat) : Int) = ((s.low v : Nat) : Int) from by omega]
       refine hK _ _ (fun h => absurd h (by omega)) ?_; clear hK K; refine doneT (by kernel_rfl) ?_ _; go_wp2_with fail; go_roundg (gk - 1)
       case measure => have := Hq.out; have := Hrest.out; omega
       case rel =>
        have h1 := Hq.out; have h2 := Hrest.out; have h3 := Hk.out; have hT2 := hT.skipLike Hst.out Hx.out (fun _ => Hnum.out) (upd s.low v (min (s.low v) (s.num x))); have hL2 := hL.exam hT Hst.out Hx.out Hnum.out; have he : s.exam v x = { s with at_ := upd s.at_ v (s.at_ v + 1), low := upd s.low v (s.low v) } := by unfold CS.exam; rw [Hem.out]
        rw [Hem.out] at hT2; rw [he] at hL2
        exact ⟨{ s with at_ := upd s.at_ v (s.at_ v + 1), low := upd s.low v (s.low v) }, v :: r, gs, cs, Hst.out, rfl, rfl, rfl, hmS, hbS, hT2, hL2,
         by show 2 * restS n bs (upd s.at_ v (s.at_ v + 1)) + _ ≤ _; omega, by show s.kids + 2 * restS n bs (upd s.at_ v (s.at_ v + 1)) + _ ≤ _; omega⟩
   ·
    have hfull : s.at_ v = (bs v).length := by omega
    have hcp : r.length + 1 ≤ cs := by have := hm.rs.len_le; simpa using this
    have hcp2 : (r.length : Int) ≤ (cs : Int) := by omega
    have Hfull := Lib.hid hfull; have Hst := Lib.hid hst; have Hq := Lib.hid hq; have Hk := Lib.hid hk; clear hfull hst hq hk hau; go_wp2_with fail; go_quiet (fail)
    go_upto_region 27 with (fail)
    generalize hN : World.drewN _ _ = wd; have hbd : Below wr.heap.size wr wd := by subst hN; exact below_drewN (Below.refl _ _) _
    clear hN; replace hm := (hm.ext hbd).pop; replace hb := bl_trans hb hbd; clear hbd c1 c2 c3; by_cases hroot : v = root
    ·
     subst hroot; have hr : r = [] := by
      cases r with
      | nil => rfl
      | cons u r' =>
       have h1 := hT.stS; rw [Hst.out] at h1; have h2 := (List.pairwise_cons.1 h1).1 u (by simp); have h3 := hT.stV u (by rw [Hst.out]; simp); have := hT.root1; omega
     subst hr; have e : s.drop = { s with stack := [], low := s.low, kids := s.kids, cut := s.cut } := by unfold CS.drop; rw [Hst.out]; rfl
     have hT2 := hT.popLike Hst.out Hfull.out s.low s.kids s.cut; rw [← e] at hT2; have hL2 := hL.drop Hst.out; have He := Lib.hid e; clear e; have g1 : ((v : Int) == (v : Int)) = true := by simp
     go_wp2_with fail; go_roundg (gk - 1)
     case measure => have := Hq.out; simp at this; omega
     case rel =>
      have h1 := Hq.out; have h3 := Hk.out; simp only [List.length_cons, List.length_nil] at h1 h3; exact ⟨s.drop, [], gs, cs, by show s.stack.tail = _; rw [Hst.out]; rfl, rfl, rfl, rfl, hm, hb, hT2, hL2, by show 2 * restS n bs s.at_ + _ ≤ _; simp only [List.length_nil]; omega, by show s.kids + 2 * restS n bs s.at_ + _ ≤ _; simp only [List.length_nil]; omega⟩
    ·
     obtain ⟨u, r', rfl, hup, huv⟩ := hT.two Hst.out hroot; have hus : u ∈ s.stack := by rw [Hst.out]; simp
     have hun : u < n := (hT.numP u (hT.stV u hus)).1; have hneq : u ≠ v := fun e => by subst e; omega
     have g1 : ((v : Int) == (root : Int)) = false := by simp; omega
     have c4 : wd.cell? ⟨gu, v, none⟩ = some (.int .i64 (u : Int)) := by rw [hm.ru.atN hvn, hup]
     have c5 := hm.rl.atN hvn; have c6 := hm.rl.atN hun; have f6 := hm.rl.frozen u; have iu0 : (0 : Int) ≤ (u : Int) := by omega
     have iu1 : (u : Int) < (n : Int) := by omega
     have hT2 := hT.popLike Hst.out Hfull.out (upd s.low u (min (s.low u) (s.low v))) (if u = root then s.kids + 1 else s.kids) (if u ≠ root ∧ s.num u ≤ s.low v then upd s.cut u true else s.cut); have e : s.pop v u root = { s with stack := u :: r', low := upd s.low u (min (s.low u) (s.low v)), kids := if u = root then s.kids + 1 else s.kids, cut := if u ≠ root ∧ s.num u ≤ s.low v then upd s.cut u true else s.cut } := by unfold CS.pop; rw [Hst.out]; rfl
     have hL2 := hL.pop hT Hsy.out Hst.out Hfull.out; have Hup := Lib.hid hup; clear hroot hup; simp only [List.length_cons] at hcp hcp2 hrl ir2; by_cases hmin : s.low v < s.low u
     ·
      skip; have em : min (s.low u) (s.low v) = s.low v := (Nat.min_eq_right (Nat.le_of_lt hmin))
      rw [em] at hT2 e; rw [← e] at hT2; have Hem := Lib.hid em; clear em; have hmS := (hm.set_low u (s.low v)).ext (bl_refl _).drew; have hbS : Below w.heap.size w ((wd.setCell ⟨gl, u, none⟩ (vN (s.low v))).drew) := (hb.setCell (by simpa using hm.lo.2.1) _).drew; have hstk : (s.pop v u root).stack = u :: r' := by rw [e]
      unfold vN at hmS hbS; have Hstk := Lib.hid hstk; have He := Lib.hid e; clear e hstk; go_upto_region 29 with (fail)
      refine regionT (fun w' => w'.cell? ⟨gl, u, none⟩ = some (.int .i64 (s.low u : Int)) ∧ w'.cell? ⟨gl, v, none⟩ = some (.int .i64 (s.low v : Int))) 12 (by kernel_rfl) ?_; have hS : wd.drew.cell? ⟨gl, u, none⟩ = some (.int .i64 (s.low u : Int)) ∧ wd.drew.cell? ⟨gl, v, none⟩ = some (.int .i64 (s.low v : Int)) := ⟨c6, c5⟩
      refine tkT 0 ?_ rfl hS ?_ ?_ (by kernel_rfl) (fun _ _ _ h => h) (by rfl); rotate_left; (· intro wS hSw; (try dsimp only at hSw); go_simp; try with_reducible rfl); simp only [Act.put, zT]; refine tkT 1 ?_ rfl hS ?_ ?_ (by kernel_rfl) (fun _ _ _ h => h) (by rfl); rotate_left; (· intro wS hSw; (try dsimp only at hSw); go_simp; try with_reducible rfl); simp only [Act.put, zT]; refine tkT 2 ?_ rfl hS ?_ ?_ (by kernel_rfl) (fun _ _ _ h => h) (by rfl); rotate_left; (· intro wS hSw; (try dsimp only at hSw); go_simp; try with_reducible rfl); simp only [Act.put, zT]; refine tkT 3 ?_ rfl hS ?_ ?_ (by kernel_rfl) (fun _ _ _ h => h) (by rfl); rotate_left; (· intro wS hSw; (try dsimp only at hSw); go_simp; try with_reducible rfl); simp only [Act.put, zT]; refine tkT 4 ?_ rfl hS ?_ ?_ (by kernel_rfl) (fun _ _ _ h => h) (by rfl); rotate_left; (· intro wS hSw; (try dsimp only at hSw); go_simp; try with_reducible rfl); simp only [Act.put, zT]; refine tkT 5 ?_ rfl hS ?_ ?_ (by kernel_rfl) (fun _ _ _ h => h) (by rfl); rotate_left; (· intro wS hSw; (try dsimp only at hSw); go_simp; try with_reducible rfl); simp only [Act.put, zT]; refine tkT 6 ?_ rfl hS ?_ ?_ (by kernel_rfl) (fun _ _ _ h => h) (by rfl); rotate_left; (· intro wS hSw; (try dsimp only at hSw); go_simp; try with_reducible rfl); simp only [Act.put, zT]; refine tkT 7 ?_ rfl hS ?_ ?_ (by kernel_rfl) (fun _ _ _ h => h) (by rfl); rotate_left; (· intro wS hSw; (try dsimp only at hSw); go_simp; try with_reducible rfl); simp only [Act.put, zT]
      refine tkT 8 ?_ rfl hS ?_ ?_ (by kernel_rfl) (fun _ _ _ h => h) (by rfl); rotate_left; (· intro wS hSw; (try dsimp only at hSw); go_simp; try with_reducible rfl); simp only [Act.put, zT]; refine tkT 9 ?_ rfl hS ?_ ?_ (by kernel_rfl) (fun _ _ _ h => h) (by rfl); rotate_left; (· intro wS hSw; (try dsimp only at hSw); go_simp; try with_reducible rfl); simp only [Act.put, zT]; refine tkT 10 ?_ rfl hS ?_ ?_ (by kernel_rfl) (fun _ _ _ h => h) (by rfl); rotate_left; (· intro wS hSw; (try dsimp only at hSw); go_simp; try with_reducible rfl); simp only [Act.put, zT]; refine tkT 11 ?_ rfl hS ?_ ?_ (by kernel_rfl) (fun _ _ _ h => h) (by rfl); rotate_left; (· intro wS hSw; (try dsimp only at hSw); go_simp; try with_reducible rfl); simp only [Act.put, zT]; refine oneT (i := 12) rfl (by kernel_rfl) (fun K hK => ?_); go_simp; try rw [show min ((s.low u : Nat) : Int) ((s.low v : Nat) : Int) = ((s.low v : Nat) : Int) from by omega]
      refine hK _ _ (fun h => absurd h (by omega)) ?_; clear hK K hS; refine doneT (by kernel_rfl) ?_ _; generalize (wd.setCell ⟨gl, u, none⟩ (.int .i64 ((s.low v : Nat) : Int))).drew = ws at hmS hbS ⊢; by_cases hur : u = root
      ·
       have g3 : ((u : Int) == (root : Int)) = true := by simp [hur]
       have ep : s.pop v u root = { s with stack := u :: r', low := upd s.low u (s.low v), kids := s.kids + 1, cut := s.cut } := by rw [He.out, if_pos hur, if_neg (fun h => h.1 hur)]
       rw [ep] at hT2 hL2; have hk3 : s.kids + 1 ≤ 200000001 := by have := Hk.out; simp only [List.length_cons] at this; omega
       clear ep hur c4 c5 c6 f6; go_wp2_with fail; go_roundg (gk - 1)
       case measure => have := Hq.out; simp only [List.length_cons] at this; omega
       case rel =>
        have h1 := Hq.out; have h3 := Hk.out; simp only [List.length_cons] at h1 h3; exact ⟨{ s with stack := u :: r', low := upd s.low u (s.low v), kids := s.kids + 1, cut := s.cut }, u :: r', gs, cs, rfl, rfl, by simp, by simp, hmS, hbS, hT2, hL2, by simp only [List.length_cons]; omega, by simp only [List.length_cons]; omega⟩
      ·
       have g3 : ((u : Int) == (root : Int)) = false := by simp; omega
       have q1 := hmS.rl.atN hvn; rw [upd_ne _ _ hneq.symm] at q1; have q2 := hmS.rn.atN hun; have q3 := hmS.rc.atB hun; have q4 := hmS.rc.frozen u; by_cases hle : s.num u ≤ s.low v
       ·
        have ep : s.pop v u root = { s with stack := u :: r', low := upd s.low u (s.low v), kids := s.kids, cut := upd s.cut u true } := by rw [He.out, if_neg hur, if_pos ⟨hur, hle⟩]
        rw [ep] at hT2 hL2; have g4 : decide ((s.num u : Int) ≤ (s.low v : Int)) = true := by simpa using hle
        have hbd : ∀ k, Below ws.heap.size ws (ws.drewN k) := fun k => below_drewN (bl_refl _) k; clear ep hur c4 c5 c6 f6; go_wp2_with fail; go_quiet (fail)
        go_wp2_with fail; go_roundg (gk - 1)
        case measure => have := Hq.out; simp only [List.length_cons] at this; omega
        case rel =>
         have h1 := Hq.out; have h3 := Hk.out; simp only [List.length_cons] at h1 h3; exact ⟨{ s with stack := u :: r', low := upd s.low u (s.low v), kids := s.kids, cut := upd s.cut u true }, u :: r', gs, cs, rfl, rfl, rfl, by simp, (hmS.ext (hbd _)).set_cut u true, (bl_trans hbS (hbd _)).setCell (by simp) _, hT2, hL2, by simp only [List.length_cons]; omega, by simp only [List.length_cons]; omega⟩
       ·
        have ep : s.pop v u root = { s with stack := u :: r', low := upd s.low u (s.low v), kids := s.kids, cut := s.cut } := by rw [He.out, if_neg hur, if_neg (fun h => hle h.2)]
        rw [ep] at hT2 hL2; have g4 : decide ((s.num u : Int) ≤ (s.low v : Int)) = false := by simp; omega
        clear ep hur c4 c5 c6 f6; go_wp2_with fail; go_quiet (fail)
        go_wp2_with fail; go_roundg (gk - 1)
        case measure => have := Hq.out; simp only [List.length_cons] at this; omega
        case rel =>
         have h1 := Hq.out; have h3 := Hk.out; simp only [List.length_cons] at h1 h3; exact ⟨{ s with stack := u :: r', low := upd s.low u (s.low v), kids := s.kids, cut := s.cut }, u :: r', gs, cs, rfl, rfl, rfl, by simp, hmS.ext (below_drewN (bl_refl _) _), below_drewN hbS _, hT2, hL2, by simp only [List.length_cons]; omega, by simp only [List.length_cons]; omega⟩
     ·
      skip; have em : min (s.low u) (s.low v) = s.low u := (Nat.min_eq_left (Nat.le_of_not_lt hmin))
      rw [em] at hT2 e; rw [← e] at hT2; have Hem := Lib.hid em; clear em; have hmS := (hm.set_low u (s.low u)).ext (bl_refl _).drew; have hbS : Below w.heap.size w ((wd.setCell ⟨gl, u, none⟩ (vN (s.low u))).drew) := (hb.setCell (by simpa using hm.lo.2.1) _).drew; have hstk : (s.pop v u root).stack = u :: r' := by rw [e]
      unfold vN at hmS hbS; have Hstk := Lib.hid hstk; have He := Lib.hid e; clear e hstk; go_upto_region 29 with (fail)
      refine regionT (fun w' => w'.cell? ⟨gl, u, none⟩ = some (.int .i64 (s.low u : Int)) ∧ w'.cell? ⟨gl, v, none⟩ = some (.int .i64 (s.low v : Int))) 12 (by kernel_rfl) ?_; have hS : wd.drew.cell? ⟨gl, u, none⟩ = some (.int .i64 (s.low u : Int)) ∧ wd.drew.cell? ⟨gl, v, none⟩ = some (.int .i64 (s.low v : Int)) := ⟨c6, c5⟩
      refine tkT 0 ?_ rfl hS ?_ ?_ (by kernel_rfl) (fun _ _ _ h => h) (by rfl); rotate_left; (· intro wS hSw; (try dsimp only at hSw); go_simp; try with_reducible rfl); simp only [Act.put, zT]; refine tkT 1 ?_ rfl hS ?_ ?_ (by kernel_rfl) (fun _ _ _ h => h) (by rfl); rotate_left; (· intro wS hSw; (try dsimp only at hSw); go_simp; try with_reducible rfl); simp only [Act.put, zT]; refine tkT 2 ?_ rfl hS ?_ ?_ (by kernel_rfl) (fun _ _ _ h => h) (by rfl); rotate_left; (· intro wS hSw; (try dsimp only at hSw); go_simp; try with_reducible rfl); simp only [Act.put, zT]; refine tkT 3 ?_ rfl hS ?_ ?_ (by kernel_rfl) (fun _ _ _ h => h) (by rfl); rotate_left; (· intro wS hSw; (try dsimp only at hSw); go_simp; try with_reducible rfl); simp only [Act.put, zT]; refine tkT 4 ?_ rfl hS ?_ ?_ (by kernel_rfl) (fun _ _ _ h => h) (by rfl); rotate_left; (· intro wS hSw; (try dsimp only at hSw); go_simp; try with_reducible rfl); simp only [Act.put, zT]; refine tkT 5 ?_ rfl hS ?_ ?_ (by kernel_rfl) (fun _ _ _ h => h) (by rfl); rotate_left; (· intro wS hSw; (try dsimp only at hSw); go_simp; try with_reducible rfl); simp only [Act.put, zT]; refine tkT 6 ?_ rfl hS ?_ ?_ (by kernel_rfl) (fun _ _ _ h => h) (by rfl); rotate_left; (· intro wS hSw; (try dsimp only at hSw); go_simp; try with_reducible rfl); simp only [Act.put, zT]; refine tkT 7 ?_ rfl hS ?_ ?_ (by kernel_rfl) (fun _ _ _ h => h) (by rfl); rotate_left; (· intro wS hSw; (try dsimp only at hSw); go_simp; try with_reducible rfl); simp only [Act.put, zT]
      refine tkT 8 ?_ rfl hS ?_ ?_ (by kernel_rfl) (fun _ _ _ h => h) (by rfl); rotate_left; (· intro wS hSw; (try dsimp only at hSw); go_simp; try with_reducible rfl); simp only [Act.put, zT]; refine tkT 9 ?_ rfl hS ?_ ?_ (by kernel_rfl) (fun _ _ _ h => h) (by rfl); rotate_left; (· intro wS hSw; (try dsimp only at hSw); go_simp; try with_reducible rfl); simp only [Act.put, zT]; refine tkT 10 ?_ rfl hS ?_ ?_ (by kernel_rfl) (fun _ _ _ h => h) (by rfl); rotate_left; (· intro wS hSw; (try dsimp only at hSw); go_simp; try with_reducible rfl); simp only [Act.put, zT]; refine tkT 11 ?_ rfl hS ?_ ?_ (by kernel_rfl) (fun _ _ _ h => h) (by rfl); rotate_left; (· intro wS hSw; (try dsimp only at hSw); go_simp; try with_reducible rfl); simp only [Act.put, zT]; refine oneT (i := 12) rfl (by kernel_rfl) (fun K hK => ?_); go_simp; try rw [show min ((s.low u : Nat) : Int) ((s.low v : Nat) : Int) = ((s.low u : Nat) : Int) from by omega]
      refine hK _ _ (fun h => absurd h (by omega)) ?_; clear hK K hS; refine doneT (by kernel_rfl) ?_ _; generalize (wd.setCell ⟨gl, u, none⟩ (.int .i64 ((s.low u : Nat) : Int))).drew = ws at hmS hbS ⊢; by_cases hur : u = root
      ·
       have g3 : ((u : Int) == (root : Int)) = true := by simp [hur]
       have ep : s.pop v u root = { s with stack := u :: r', low := upd s.low u (s.low u), kids := s.kids + 1, cut := s.cut } := by rw [He.out, if_pos hur, if_neg (fun h => h.1 hur)]
       rw [ep] at hT2 hL2; have hk3 : s.kids + 1 ≤ 200000001 := by have := Hk.out; simp only [List.length_cons] at this; omega
       clear ep hur c4 c5 c6 f6; go_wp2_with fail; go_roundg (gk - 1)
       case measure => have := Hq.out; simp only [List.length_cons] at this; omega
       case rel =>
        have h1 := Hq.out; have h3 := Hk.out; simp only [List.length_cons] at h1 h3; exact ⟨{ s with stack := u :: r', low := upd s.low u (s.low u), kids := s.kids + 1, cut := s.cut }, u :: r', gs, cs, rfl, rfl, by simp, by simp, hmS, hbS, hT2, hL2, by simp only [List.length_cons]; omega, by simp only [List.length_cons]; omega⟩
      ·
       have g3 : ((u : Int) == (root : Int)) = false := by simp; omega
       have q1 := hmS.rl.atN hvn; rw [upd_ne _ _ hneq.symm] at q1; have q2 := hmS.rn.atN hun; have q3 := hmS.rc.atB hun; have q4 := hmS.rc.frozen u; by_cases hle : s.num u ≤ s.low v
       ·
        have ep : s.pop v u root = { s with stack := u :: r', low := upd s.low u (s.low u), kids := s.kids, cut := upd s.cut u true } := by rw [He.out, if_neg hur, if_pos ⟨hur, hle⟩]
        rw [ep] at hT2 hL2; have g4 : decide ((s.num u : Int) ≤ (s.low v : Int)) = true := by simpa using hle
        have hbd : ∀ k, Below ws.heap.size ws (ws.drewN k) := fun k => below_drewN (bl_refl _) k; clear ep hur c4 c5 c6 f6; go_wp2_with fail; go_quiet (fail)
        go_wp2_with fail; go_roundg (gk - 1)
        case measure => have := Hq.out; simp only [List.length_cons] at this; omega
        case rel =>
         have h1 := Hq.out; have h3 := Hk.out; simp only [List.length_cons] at h1 h3; exact ⟨{ s with stack := u :: r', low := upd s.low u (s.low u), kids := s.kids, cut := upd s.cut u true }, u :: r', gs, cs, rfl, rfl, rfl, by simp, (hmS.ext (hbd _)).set_cut u true, (bl_trans hbS (hbd _)).setCell (by simp) _, hT2, hL2, by simp only [List.length_cons]; omega, by simp only [List.length_cons]; omega⟩
       ·
        have ep : s.pop v u root = { s with stack := u :: r', low := upd s.low u (s.low u), kids := s.kids, cut := s.cut } := by rw [He.out, if_neg hur, if_neg (fun h => hle h.2)]
        rw [ep] at hT2 hL2; have g4 : decide ((s.num u : Int) ≤ (s.low v : Int)) = false := by simp; omega
        clear ep hur c4 c5 c6 f6; go_wp2_with fail; go_quiet (fail)
        go_wp2_with fail; go_roundg (gk - 1)
        case measure => have := Hq.out; simp only [List.length_cons] at this; omega
        case rel =>
         have h1 := Hq.out; have h3 := Hk.out; simp only [List.length_cons] at h1 h3; exact ⟨{ s with stack := u :: r', low := upd s.low u (s.low u), kids := s.kids, cut := s.cut }, u :: r', gs, cs, rfl, rfl, rfl, by simp, hmS.ext (below_drewN (bl_refl _) _), below_drewN hbS _, hT2, hL2, by simp only [List.length_cons]; omega, by simp only [List.length_cons]; omega⟩
end Go.Proofs.YtagjdkkfmfombaaGreat
namespace Go.Proofs.YtagjdkkfmfombaaGreat
open Go Go.RowKit Go.Sort
def RetZs (w : World) (zs : List Int) (e : Ending) (w' : World) : Prop :=
 ∃ a c, e = .returned (.slice a zs.length c) ∧ RdI w' a zs ∧ (∀ ad, a = some ad → w.heap.size ≤ ad.block) ∧ zs.length ≤ c ∧ c ≤ maxLen ∧ Below w.heap.size w w'
theorem sort_rowU (g cap : Nat) (zs : List Int) (w : World) (h : Row w g 3 1 cap (zs.map (Value.int .i64))) (hsz : zs.length < 1000000) :
  Calls Tryz.prog 52 #[.slice (some ⟨g, 0, none⟩) zs.length cap] w fun e w' => e = .returned (.tuple #[]) ∧
   Row w' g 3 1 cap ((zs.mergeSort fun x y => decide (x ≤ y)).map (Value.int .i64)) ∧ w.grownBy w' (some g) := by
 obtain ⟨cur, hg, hs, hl, hm, ht⟩ := h
 have ht' : cur.toList.take zs.length = zs.map (Value.int .i64) := by simpa using ht
 have hH := holds_of_blockI (ss := zs) hg ht'
 refine (Tryz.slices_Sort_int g 0 cap zs w hH (Array.getElem?_eq_some_iff.1 hg).1 (by omega)).mono ?_
 rintro e w' ⟨rfl, n, os, rfl⟩
 refine ⟨rfl, ?_, grownBy_sortedI _⟩
 have hlen : (zs.mergeSort fun x y => decide (x ≤ y)).length = zs.length := by simp
 refine ⟨_, heap_sortedI _ hg, by simpa [Sort.putCells] using hs, by simpa [hlen] using hl, hm, ?_⟩
 rw [List.length_map]
 exact take_putCellsI cur _ (by simp at hl; omega)
theorem grow_none (w : World) : grow w #[] = w := by cases w; simp [grow]
theorem compact_len_le (zs : List Int) : (Lib.compact zs).length ≤ zs.length := by
 unfold Lib.compact Lib.compactUpTo
 rw [List.length_map]
 have := List.length_filter_le (Lib.keeps zs.toArray) (List.range zs.length)
 simpa using this
theorem compact_row (g cap : Nat) (zs : List Int) (w : World) (h : Row w g 3 1 cap (zs.map (Value.int .i64))) (hsz : zs.length < 1000000) :
  Calls Tryz.prog 56 #[.slice (some ⟨g, 0, none⟩) zs.length cap] w fun e w' => e = .returned (.slice (some ⟨g, 0, none⟩) (Lib.compact zs).length cap) ∧
   Row w' g 3 1 cap ((Lib.compact zs).map (Value.int .i64)) ∧ w.grownBy w' (some g) := by
 obtain ⟨cur, hg, hs, hl, hm, ht⟩ := h
 have ht' : cur.toList.take zs.length = zs.map (Value.int .i64) := by simpa using ht
 have hH := holds_of_blockI (ss := zs) hg ht'
 have hlc : zs.length ≤ cap := by simpa using hl
 refine (Tryz.slices_Compact_int g 0 cap zs w hH (by omega) hlc).mono ?_
 rintro e w' ⟨rfl, q, rfl⟩
 obtain ⟨ts, hts⟩ : ∃ ts, ts = Lib.compact zs ++ List.replicate (zs.length - (Lib.compact zs).length) 0 := ⟨_, rfl⟩
 have hcl := compact_len_le zs
 have htl : ts.length = zs.length := by rw [hts]; simp; omega
 refine ⟨rfl, ?_, ?_⟩
 ·
  rw [← hts]
  have h1 := heap_sortedI (n := q) (os := #[]) ts.toArray hg
  rw [grow_none] at h1
  have h2 : Row (putRow (Value.int .i64) (Sort.ahead w q) g 0 ts.toArray) g 3 1 cap (ts.map (Value.int .i64)) := by
   refine ⟨_, h1, by simpa [Sort.putCells] using hs, by simpa [htl] using hl, hm, ?_⟩; rw [List.length_map]; exact take_putCellsI cur _ (by simp at hl; omega)
  have h3 := h2.take (Lib.compact zs).length
  have e3 : (ts.map (Value.int .i64)).take (Lib.compact zs).length = (Lib.compact zs).map (Value.int .i64) := by
   rw [hts, List.map_append, List.take_append_of_le_length (by simp), List.take_of_length_le (by simp)]
  rw [e3] at h3
  exact h3
 ·
  have h1 := grownBy_sortedI (w := w) (g := g) (n := q) (os := #[]) (Lib.compact zs ++ List.replicate (zs.length - (Lib.compact zs).length) 0).toArray
  rw [grow_none] at h1; exact h1
theorem clip_walk (a : Option Addr) (n c : Nat) (w : World) (h : n ≤ c) (hn : n ≤ 1000000) (hc : c ≤ maxLen) :
  Calls Tryz.prog 177 #[.slice a n c] w fun e w' => e = .returned (.slice a n n) ∧ w = w' := by
 have h1 : (n : Int) ≤ (c : Int) := by omega
 unfold maxLen at hc
 cases a with
 | none =>
  go_enter Tryz.func177, Tryz.ntmps177
  go_wp2_with fail
  go_ret
  exact ⟨rfl, rfl⟩
 | some ad =>
  go_enter Tryz.func177, Tryz.ntmps177
  go_wp2_with fail
  go_ret
  exact ⟨rfl, rfl⟩
theorem ends_take (ls : List Lk) (k : Nat) (h : k < ls.length) : endsL (ls.take (k + 1)) = endsL (ls.take k) ++ [ls[k].1, ls[k].2.1] := by
 unfold endsL
 rw [List.take_succ_eq_append_getElem h, List.flatMap_append]
 simp
set_option maxHeartbeats 2000000 in
theorem verts_walk (a : Option Addr) (cap : Nat) (ls : List Lk) (w : World) (hr : RdL w a ls) (hle : ls.length ≤ 100000) :
  Calls Tryz.prog 172 #[.slice a ls.length cap] w (RetZs w (vertsL ls)) := by
 have hc1 := vertsL_compact ls
 have Hc1 := Lib.hid hc1; clear hc1
 go_enter Tryz.func172, Tryz.ntmps172
 go_wp2_with fail
 go_loopg [3, 8] ls.length (fun r vo i wr => ∃ k : Nat, k + r = ls.length ∧ i = .int .i64 k ∧ Below w.heap.size w wr ∧ Own wr vo 3 1 (endsL (ls.take k)).length ((endsL (ls.take k)).map (Value.int .i64)) ∧ (∀ g, vo.ownBlock = some g → w.heap.size ≤ g))
 case atStart => exact ⟨0, by omega, rfl, bl_refl _, by simpa [endsL] using own_nil w 3 1, fun g hg => by simp [Value.ownBlock] at hg⟩
 case round =>
  obtain ⟨k, hk, rfl, hB, hown, hnew⟩ := hrel
  rename_i vo
  by_cases hlt : k < ls.length
  ·
   obtain ⟨b, o, rfl, c0, c1, c2⟩ := (hr.below hB).at k hlt; have het := ends_take ls k hlt; obtain ⟨⟨x, y, z⟩, hx⟩ : ∃ x : Lk, ls[k] = x := ⟨_, rfl⟩
   rw [hx] at c0 c1 c2 het; simp only at c0 c1 c2 het; have hel : (endsL (ls.take k)).length = k * 2 := by rw [endsL_length, List.length_take]; omega
   obtain ⟨E, hE⟩ : ∃ E, E = endsL (ls.take k) := ⟨_, rfl⟩
   rw [← hE] at hown het hel; have Hk := Lib.hid hk; have Het := Lib.hid het; have HE := Lib.hid hE; have Hnew := Lib.hid hnew; have hel2 : E.length ≤ 200000 := by omega
   clear hk het hx hE hel hnew; have hown2 := (hown.alloc (.cells #[.int .i64 x, .int .i64 y, .int .i64 z] 120)).alloc (.cells #[.int .i64 x, .int .i64 y] 3); obtain ⟨wa, hwa⟩ : ∃ wa, wa = wr.alloc (.cells #[.int .i64 x, .int .i64 y, .int .i64 z] 120) := ⟨_, rfl⟩
   go_wp2_with (at_builtin; refine wpList_append_row _ rfl (.tmp 12) (.tmp 17) 25 rfl 3 (.int .i64 0) 1 8 Tryz.underlying25 int_info rfl _ _ _ rfl hown2 ⟨wr.heap.size + 1, 0, none⟩ 2 2 [.int .i64 x, .int .i64 y] rfl rfl ?c1 ?c2 (by omega) (by unfold maxLen; omega) (by omega) ?_)
   case c1 =>
    intro j u hj; match j with
    | 0 => simp at hj; subst hj; simp [Addr.add]
    | 1 => simp at hj; subst hj; simp [Addr.add]
    | j + 2 => simp at hj
   case c2 => intro u hu; simp at hu; rcases hu with rfl | rfl <;> rfl
   intro g c w3 hr3 hc3 hgr3 hor3; have hb3 : Below w.heap.size w w3 := (bl_trans (bl_trans hB (bl_alloc _ _)) (bl_alloc _ _)).grown hgr3 (by simp; have := hB.size; omega) (fun j hj => Hnew.out j hj); have hg3 : w.heap.size ≤ g := by
    rcases hor3 with h | h
    · exact Hnew.out g h
    · have := hB.size; omega
   clear hown hown2 hwa hgr3 hor3; go_wp2_with fail; go_roundg (gk - 1)
   case measure => have := Hk.out; omega
   case rel =>
    refine ⟨k + 1, by have := Hk.out; omega, by go_num, hb3, ?_, fun j hj => by cases hj; exact hg3⟩; rw [Het.out]; have h1 := hr3.own1; simpa using h1
  ·
   have hkl : k = ls.length := by omega
   subst hkl; rw [List.take_length] at hown; obtain ⟨E, hE⟩ : ∃ E, E = endsL ls := ⟨_, rfl⟩
   rw [← hE] at hown; have hEl : E.length ≤ 200000 := by rw [hE, endsL_length]; omega
   have Hc2 := Hc1.out; rw [← hE] at Hc2; have HE := Lib.hid hE; have Hc := Lib.hid Hc2; clear hE Hc2; rcases hown.2 with ⟨rfl, h0⟩ | ⟨g, cg, rfl, hcg, hrow⟩
   ·
    obtain rfl := List.eq_nil_of_length_eq_zero h0; have hv : vertsL ls = [] := by rw [← Hc.out]; simp [Lib.compact, Lib.compactUpTo]
    clear hown; go_wp2_with fail; refine (Tryz.slices_Sort_int_none none 0 _).mono ?_; rintro e w' ⟨rfl, rfl⟩; go_wp2_with fail; refine (Tryz.slices_Compact_int_empty none 0 _).mono ?_; rintro e w' ⟨rfl, rfl⟩; go_wp2_with fail; refine (clip_walk none 0 0 _ (Nat.le_refl _) (by omega) (by unfold maxLen; omega)).mono ?_; rintro e w' ⟨rfl, rfl⟩; go_wp2_with fail; go_ret; rw [hv]; exact ⟨none, 0, rfl, by intro i u hu; simp at hu, (fun ad h => by cases h), Nat.le_refl _, by unfold maxLen; omega, hB⟩
   ·
    have hgl := hnew g rfl; clear hown hnew; go_wp2_with fail; refine (sort_rowU g cg E _ hrow (by omega)).mono ?_; rintro e w2 ⟨rfl, hr2, hg2⟩; have hb2 : Below w.heap.size w w2 := hB.grown hg2 (by have := hB.size; omega) (fun j hj => by cases hj; exact hgl); have hlen2 : (E.mergeSort fun x y => decide (x ≤ y)).length = E.length := by simp
    have hcc := compact_row g cg (E.mergeSort fun x y => decide (x ≤ y)) w2 hr2 (by omega); rw [Hc.out, hlen2] at hcc; clear hr2 hg2 hrow hlen2; go_wp2_with fail; refine hcc.mono ?_; rintro e w3 ⟨rfl, hr3, hg3⟩; have hb3 : Below w.heap.size w w3 := hb2.grown hg3 (by have := hb2.size; omega) (fun j hj => by cases hj; exact hgl); have hvl : (vertsL ls).length ≤ 200000 := by have := vertsL_length ls; omega
    have hvc : (vertsL ls).length ≤ cg := by have := hr3.len_le; simpa using this
    have hcm := hr3.cap_le; go_wp2_with fail; refine (clip_walk (some ⟨g, 0, none⟩) (vertsL ls).length cg _ hvc (by omega) hcm).mono ?_; rintro e w' ⟨rfl, rfl⟩; go_wp2_with fail; go_ret; refine ⟨some ⟨g, 0, none⟩, (vertsL ls).length, rfl, hr3.at_, fun ad h => by cases h; exact hgl, Nat.le_refl _, by omega, hb3⟩
end Go.Proofs.YtagjdkkfmfombaaGreat
namespace Go.Proofs.YtagjdkkfmfombaaGreat
open Go Go.RowKit
theorem ints_info2 : (Tryz.prog.info? 25).map (fun i => (i.zero, i.size, i.bytes)) = some (some (.slice none 0 0), 1, 24) := by kernel_rfl
def nbRows (n : Nat) (vs : List Int) (ls : List Lk) : List (List Value) := (List.range n).map fun i => (nbN vs ls i).map vN
theorem nbRows_get {n : Nat} {vs : List Int} {ls : List Lk} {i : Nat} (h : i < n) : (nbRows n vs ls)[i]? = some ((nbN vs ls i).map vN) := by simp [nbRows, h]
theorem nbN_take (vs : List Int) (ls : List Lk) (k : Nat) (h : k < ls.length) (i : Nat) : nbN vs (ls.take (k + 1)) i = nbN vs (ls.take k) i ++ if vs.idxOf ls[k].1 = i then [vs.idxOf ls[k].2.1] else if vs.idxOf ls[k].2.1 = i then [vs.idxOf ls[k].1] else [] := by
 unfold nbN
 rw [List.take_succ_eq_append_getElem h, List.flatMap_append]
 simp
theorem nbRows_step {n : Nat} {vs : List Int} {ls : List Lk} {k : Nat} (h : k < ls.length) {a b : Nat} (ha : vs.idxOf ls[k].1 = a) (hb : vs.idxOf ls[k].2.1 = b) (hab : a ≠ b) (_han : a < n) (hbn : b < n) :
  ((nbRows n vs (ls.take k)).set a ((nbN vs (ls.take k) a).map vN ++ [vN b])).set b ((nbN vs (ls.take k) b).map vN ++ [vN a]) = nbRows n vs (ls.take (k + 1)) := by
 apply List.ext_getElem (by simp [nbRows])
 intro i h1 h2
 simp only [nbRows, List.length_set, List.length_map, List.length_range] at h1
 simp only [nbRows, List.getElem_set, List.getElem_map, List.getElem_range]
 rw [nbN_take vs ls k h, ha, hb]
 by_cases e1 : b = i
 ·
  subst e1
  rw [if_pos rfl, if_neg (fun e => hab e), if_pos rfl]; simp
 ·
  rw [if_neg e1]
  by_cases e2 : a = i
  · subst e2; rw [if_pos rfl, if_pos rfl]; simp
  · rw [if_neg e2, if_neg e2, if_neg e1]; simp
theorem restS_le {n M : Nat} {bs : Nat → List Nat} (h : ∀ v, v < n → (bs v).length ≤ M) : restS n bs (fun _ => 0) ≤ n * M := by
 unfold restS
 induction n with
 | zero => simp [sumR]
 | succ n ih =>
  rw [sumR, Nat.succ_mul]
  have h1 := ih fun v hv => h v (by omega)
  have h2 := h n (by omega)
  simp only [Nat.sub_zero] at h1 ⊢
  omega
theorem nbN_take_len (vs : List Int) (ls : List Lk) (k i : Nat) (h : ls.length ≤ 1000) : (nbN vs (ls.take k) i).length ≤ 1000 := by
 have := nbN_len vs (ls.take k) i
 rw [List.length_take] at this; omega
theorem contains_true (g n : Nat) (cut : Nat → Bool) (w : World) (h : Row w g 4 1 n (rowB n cut)) (hn : n ≤ 1000000) :
  Calls Tryz.prog 184 #[.slice (some ⟨g, 0, none⟩) n n, .bool true] w fun e w' => e = .returned (.bool ((List.range n).any cut)) ∧ w = w' := by
 have hc : ∀ j, j < ((List.range n).map cut).length → w.cell? ⟨g, 0 + j, none⟩ = some (Value.bool ((List.range n).map cut)[j]!) := fun j hj => by
  have hj' : j < n := by simpa using hj
  rw [Nat.zero_add, h.atB hj']
  simp [hj']
 have h1 := AnyE.slices_Contains Tryz.layContB (α := Bool) Value.bool _ (EqlAt.bool _ Tryz.underlying4) g 0 n n ((List.range n).map cut) true w (by simp) (by omega) hc
 refine h1.mono ?_
 rintro e w' ⟨rfl, rfl⟩
 refine ⟨?_, rfl⟩
 congr 2
 rw [List.take_of_length_le (by simp), List.any_map]
 congr 1
 funext i
 simp
set_option maxRecDepth 100000 in
set_option maxHeartbeats 8000000 in
theorem two_walk (a : Option Addr) (cap : Nat) (ls : List Lk) (w : World) (hr : RdL w a ls) (hcap : ls.length ≤ 9223372036854775807) :
  Calls Tryz.prog 176 #[.slice a ls.length cap] w fun e w' => e = .returned (.bool (twoL ls)) ∧ Below w.heap.size w w' := by
 cases hrt : rightL ls with
 | false =>
  have h2 : twoL ls = false := by unfold twoL joinedL groupsL; rw [hrt]; rfl
  have Hrt := Lib.hid hrt; have H2 := Lib.hid h2; clear hrt h2
  go_enter Tryz.func176, Tryz.ntmps176
  go_wp2_with fail
  refine (lright_walk a cap ls _ hr hcap).mono ?_
  rw [Hrt.out]
  rintro e w1 ⟨rfl, hb1⟩
  go_wp2_with fail
  go_ret
  exact ⟨by rw [H2.out] <;> rfl, hb1⟩
 | true =>
  have hR := (rightL_iff ls).1 hrt
  have hn := hR.1
  have HR := Lib.hid hR; have Hrt := Lib.hid hrt
  clear hR hrt
  by_cases h0 : ls.length = 0
  ·
   obtain rfl := List.eq_nil_of_length_eq_zero h0; have h2 : twoL [] = false := by decide
   have H2 := Lib.hid h2; clear h2; go_enter Tryz.func176, Tryz.ntmps176; go_wp2_with fail; refine (lright_walk a cap [] _ hr hcap).mono ?_; rw [Hrt.out]; rintro e w1 ⟨rfl, hb1⟩; go_wp2_with fail; go_ret; exact ⟨by rw [H2.out] <;> rfl, hb1⟩
  have hne : ls ≠ [] := fun e => h0 (by rw [e]; rfl)
  have Hne := Lib.hid hne; clear hne
  have g0 : ((ls.length : Int) == 0) = false := by simp only [beq_eq_false_iff_ne, ne_eq]; omega
  obtain ⟨vs, hvs⟩ : ∃ vs, vs = vertsL ls := ⟨_, rfl⟩
  have hvl : vs.length ≤ 2000 := by rw [hvs]; have := vertsL_length ls; omega
  have Hvs := Lib.hid hvs; clear hvs
  have hmm := run_makeMapZ
  have hmk := run_make_row' (P := Tryz.prog) 59 25 (.slice none 0 0) 24 Tryz.underlying59 ints_info2 rfl .i64 .i64 vs.length (by omega) (by omega)
  go_enter Tryz.func176, Tryz.ntmps176
  go_wp2_with fail
  refine (lright_walk a cap ls _ hr hcap).mono ?_
  rw [Hrt.out]
  rintro e w1 ⟨rfl, hb1⟩
  have hr1 := hr.below hb1
  go_wp2_with fail
  refine (verts_walk a cap ls _ hr1 (by omega)).mono ?_
  rw [← Hvs.out]
  rintro e w2 ⟨av, cv, rfl, hrv, _, hvc, hvm, hb2⟩
  have hr2 := hr1.below hb2
  have hB2 := bl_trans hb1 hb2
  clear hr1 hb1 hb2 hr
  by_cases h3 : vs.length < 3
  ·
   have h2 := two_few Hrt.out Hne.out (by rw [← Hvs.out]; exact h3); have H2 := Lib.hid h2; clear h2; go_wp2_with fail; go_ret; exact ⟨by rw [H2.out] <;> rfl, hB2⟩
  have hvn : vs.Nodup := by rw [Hvs.out]; exact verts_nodup ls
  have Hvn := Lib.hid hvn; clear hvn
  go_wp2_with fail
  go_loopg [32] vs.length (fun r i wr => ∃ (k c : Nat) (F : Int → Option Int), k + r = vs.length ∧ i = .int .i64 k ∧ c ≤ k ∧ MZ wr w2.heap.size c F ∧ (∀ (j : Nat) (x : Int), j < k → vs[j]? = some x → F x = some (j : Int)) ∧ Below w2.heap.size w2 wr)
  case atStart => exact ⟨0, 0, _, by omega, rfl, Nat.le_refl _, MZ.made w2, fun j x hj => by omega, bl_alloc _ _⟩
  case round =>
   obtain ⟨k, c, F, hk, rfl, hck, hm, hF, hb⟩ := hrel; by_cases hlt : k < vs.length
   ·
    obtain ⟨bv, ov, rfl, c0⟩ := (hrv.below hb).at k hlt; obtain ⟨z, hz⟩ : ∃ z, vs[k] = z := ⟨_, rfl⟩
    rw [hz] at c0; have hzm : z ∈ vertsL ls := by rw [← Hvs.out, ← hz]; exact List.getElem_mem hlt
    have hzb : 0 ≤ z ∧ z ≤ 1048576 := by
     obtain ⟨q, hq, e⟩ := (mem_vertsL ls z).1 hzm; have ok := HR.out.2.1 q hq; unfold OkL at ok; rcases e with rfl | rfl <;> omega
    have hwz : WfZ z := wfZ_of (by omega); have hF2 : ∀ (j : Nat) (x : Int), j < k + 1 → vs[j]? = some x → updF F z k x = some (j : Int) := fun j x hj hx => by
     by_cases e : j = k
     ·
      subst e; rw [List.getElem?_eq_getElem hlt, hz] at hx; cases hx; exact updF_same _ _ _
     ·
      have hjl := (List.getElem?_eq_some_iff.1 hx).1; rw [updF_ne _ _ fun e2 => ?_]
      · exact hF j x (by omega) hx
      ·
       rw [List.getElem?_eq_getElem hjl] at hx; exact e ((List.getElem_inj Hvn.out).1 ((Option.some.inj hx).trans (e2.trans hz.symm)))
    have HF2 := Lib.hid hF2; have Hwz := Lib.hid hwz; have Hk := Lib.hid hk; clear hF2 hwz hz hk hF hzm hzb; go_wp2_with (at_mapUpdate; refine wpList_put_MZ rfl _ _ _ rfl hm rfl rfl rfl Hwz.out (wfZ_of (by omega)) (by omega) ?_; intro w5 hm5 hg5); have hb5 : Below w2.heap.size w2 w5 := hb.grown hg5 hb.size (fun j hj => by cases hj; exact Nat.le_refl _); have hc5 : (if (F z).isSome then c else c + 1) ≤ k + 1 := by split <;> omega
    clear hg5 hm; go_roundg (gk - 1)
    case measure => have := Hk.out; omega
    case rel => exact ⟨k + 1, _, _, by have := Hk.out; omega, by go_num, hc5, hm5, HF2.out, hb5⟩
   ·
    have hkl : k = vs.length := by omega
    subst hkl; obtain ⟨w3, rfl⟩ : ∃ w3 : World, w3 = wr := ⟨_, rfl⟩
    have hr3 := hr2.below hb; have hB3 := bl_trans hB2 hb; have hF0 : ∀ x, x ∈ vertsL ls → F x = some ((vs.idxOf x : Nat) : Int) := fun x hx => by
     rw [← Hvs.out] at hx; exact hF _ x (List.idxOf_lt_length_of_mem hx) (get_idxOf hx)
    have HF := Lib.hid hF0; clear hF hF0 hk hr2 hB2 hb hrv; have hok0 : nbRows vs.length vs (ls.take 0) = List.replicate vs.length [] := by
     apply List.ext_getElem (by simp [nbRows]); intro i h1 h2; simp [nbRows, nbN]
    have Hok0 := Lib.hid hok0; clear hok0; have hzm3 := hm.lt; go_wp2_with fail; go_loopg [46] ls.length (fun r i wr => ∃ (k : Nat) (vals : List Value), k + r = ls.length ∧ i = .int .i64 k ∧ OwnRows wr w3.heap.size 25 3 vs.length vals (nbRows vs.length vs (ls.take k)) ∧ Below w3.heap.size w3 wr ∧ w3.heap.size < wr.heap.size)
    case atStart => exact ⟨0, _, by omega, rfl, by rw [Hok0.out]; exact ownRows_made w3 vs.length _ _ (by unfold maxLen; omega), bl_alloc _ _, by simp⟩
    case round =>
     obtain ⟨k, vals, hk, rfl, hO, hb, hsz⟩ := hrel; by_cases hlt : k < ls.length
     ·
      obtain ⟨b, o, rfl, c0, c1, c2⟩ := (hr3.below hb).at k hlt; have hok := HR.out.2.1 _ (List.getElem_mem hlt); have hmemk := List.getElem_mem hlt; have hstep := fun (A B : Nat) (hA : vs.idxOf ls[k].1 = A) (hBe : vs.idxOf ls[k].2.1 = B) => nbRows_step (n := vs.length) (vs := vs) hlt hA hBe; obtain ⟨⟨x, y, z⟩, hx⟩ : ∃ x : Lk, ls[k] = x := ⟨_, rfl⟩
      rw [hx] at c0 c1 c2 hok hmemk hstep; obtain ⟨k0, k1, k2, k3, k4⟩ := hok; simp only at c0 c1 c2 k0 k1 k2 k3 k4 hstep; have hxm : x ∈ vertsL ls := (mem_vertsL ls x).2 ⟨_, hmemk, .inl rfl⟩; have hym : y ∈ vertsL ls := (mem_vertsL ls y).2 ⟨_, hmemk, .inr rfl⟩; obtain ⟨A, hA⟩ : ∃ A, vs.idxOf x = A := ⟨_, rfl⟩
      obtain ⟨B, hBe⟩ : ∃ B, vs.idxOf y = B := ⟨_, rfl⟩
      have hAn : A < vs.length := by rw [← hA]; exact List.idxOf_lt_length_of_mem (by rw [Hvs.out]; exact hxm)
      have hBn : B < vs.length := by rw [← hBe]; exact List.idxOf_lt_length_of_mem (by rw [Hvs.out]; exact hym)
      have hAB : A ≠ B := fun e => by
       have := idxOf_inj (vs := vs) (by rw [Hvs.out]; exact hxm) (by rw [Hvs.out]; exact hym) (by rw [hA, hBe, e]); omega
      have hst := hstep A B hA hBe hAB hAn hBn; have hFx := HF.out x hxm; have hFy := HF.out y hym; rw [hA] at hFx; rw [hBe] at hFy; have hl1 : ∀ n, (Instr.lookup 87 (.map (some w2.heap.size)) (.int .i64 x) false).run Tryz.prog ((wr.alloc (.cells #[.int .i64 x, .int .i64 y, .int .i64 z] 120)).drewN n) = .ok (.int .i64 A) ((wr.alloc (.cells #[.int .i64 x, .int .i64 y, .int .i64 z] 120)).drewN n) := fun n => by
       have := ((hm.below (bl_trans hb (bl_alloc wr (.cells #[.int .i64 x, .int .i64 y, .int .i64 z] 120)))).block (w' := (wr.alloc (.cells #[.int .i64 x, .int .i64 y, .int .i64 z] 120)).drewN n) rfl).look (v := x) (wfZ_of (by omega)); rw [hFx] at this; exact this
      have hl2 : ∀ n, (Instr.lookup 87 (.map (some w2.heap.size)) (.int .i64 y) false).run Tryz.prog ((wr.alloc (.cells #[.int .i64 x, .int .i64 y, .int .i64 z] 120)).drewN n) = .ok (.int .i64 B) ((wr.alloc (.cells #[.int .i64 x, .int .i64 y, .int .i64 z] 120)).drewN n) := fun n => by
       have := ((hm.below (bl_trans hb (bl_alloc wr (.cells #[.int .i64 x, .int .i64 y, .int .i64 z] 120)))).block (w' := (wr.alloc (.cells #[.int .i64 x, .int .i64 y, .int .i64 z] 120)).drewN n) rfl).look (v := y) (wfZ_of (by omega)); rw [hFy] at this; exact this
      have Hst := Lib.hid hst; have Hk := Lib.hid hk; clear hst hstep hx hk hmemk hxm hym hA hBe hFx hFy; go_wp2_with fail; go_quiet (fail)
      have hO1 := (hO.alloc (.cells #[.int .i64 x, .int .i64 y, .int .i64 z] 120)).drewN nq; have hbl1 : Below w3.heap.size w3 ((wr.alloc (.cells #[.int .i64 x, .int .i64 y, .int .i64 z] 120)).drewN nq) := below_drewN (bl_trans hb (bl_alloc _ _)) _; have hsz1 : w3.heap.size < ((wr.alloc (.cells #[.int .i64 x, .int .i64 y, .int .i64 z] 120)).drewN nq).heap.size := by simp; omega
      generalize (wr.alloc (.cells #[.int .i64 x, .int .i64 y, .int .i64 z] 120)).drewN nq = wX at hO1 hbl1 hsz1 ⊢; clear hl1 hl2 hO hb c0 c1 c2; have hvl0 : vals.length = vs.length := by rw [hO1.len]; simp [nbRows]
      obtain ⟨u, hu⟩ : ∃ u, vals[A]? = some u := ⟨vals[A]'(by omega), by simp⟩
      have hrA := nbRows_get (vs := vs) (ls := ls.take k) hAn; have hown := hO1.own A u _ hu hrA; rw [List.length_map] at hown; have hln := nbN_take_len vs ls k A hn; have hln2 := nbN_take_len vs ls k B hn; have hcA : wX.cell? ⟨w3.heap.size, A, none⟩ = some u := by rw [hO1.outer.cell? A (by omega)]; exact hu
      have hfA := hO1.outer.frozen A; have hneA := hO1.ne_outer hu; obtain ⟨rA, hrAe⟩ : ∃ r, r = nbN vs (ls.take k) A := ⟨_, rfl⟩
      obtain ⟨rB, hrBe⟩ : ∃ r, r = nbN vs (ls.take k) B := ⟨_, rfl⟩
      rw [← hrAe] at hrA hown hln; rw [← hrBe] at hln2; have hrB := nbRows_get (vs := vs) (ls := ls.take k) hBn; have Hst2 := Hst.out; rw [← hrBe] at hrB Hst2; rw [← hrAe] at Hst2; have HO1 := Lib.hid hO1; have HrA := Lib.hid hrA; have HrB := Lib.hid hrB; have Hu := Lib.hid hu; have Hst3 := Lib.hid Hst2; have Hvl0 := Lib.hid hvl0; clear hO1 hrA hrB hu Hst2 hvl0 hrAe hrBe Hst; have iA0 : (0 : Int) ≤ (A : Int) := by omega
      have iA1 : (A : Int) < (vs.length : Int) := by omega
      have iB0 : (0 : Int) ≤ (B : Int) := by omega
      have iB1 : (B : Int) < (vs.length : Int) := by omega
      go_upto_region 18 with (at_builtin; refine wpList_append_row _ rfl (.tmp 63) (.tmp 65) 25 rfl 3 (.int .i64 0) 1 8 Tryz.underlying25 int_info rfl u _ _ rfl (hown.alloc _) ⟨wX.heap.size, 0, none⟩ 1 1 [.int .i64 B] rfl rfl (one_new (cell_new1 rfl)) (one_ok _ _) (by omega) (by unfold maxLen; omega) (by omega) ?_; intro g5 cc5 w5 hr5 hc5 hg5 hor5; obtain ⟨q1⟩ : PLift (w5.cell? ⟨w3.heap.size, A, none⟩ = some u) := ⟨grown_cell hg5 (keep_cell (bl_alloc _ _) hcA) hneA⟩; obtain ⟨q2⟩ : PLift (w5.frozen? ⟨w3.heap.size, A, none⟩ = false) := ⟨grown_frozen hg5 (by simp; omega) ((((bl_alloc wX (.cells #[.int .i64 B] 3)).frozen (p := ⟨w3.heap.size, A, none⟩) hsz1)).trans hfA) hneA⟩)
      have hst1 := (HO1.out.alloc (.cells #[.int .i64 B] 3)).stored Hu.out HrA.out hr5 hg5 (hor5.imp id (fun h => by simpa using h)); have hbl5 : Below w3.heap.size w3 (w5.setCell ⟨w3.heap.size, A, none⟩ (.slice (some ⟨g5, 0, none⟩) (rA.length + 1) cc5)) := ((bl_trans hbl1 (bl_alloc _ _)).grown hg5 (by simp; omega) (fun j hj => by have := (HO1.out.young A u j Hu.out hj); omega)).setCell (by simp) _; rw [show (rA.map vN ++ [Value.int .i64 (B : Int)]) = rA.map vN ++ [vN B] from rfl, show (rA.map vN ++ [vN B]).length = rA.length + 1 by simp] at hst1; have hsz5 : w3.heap.size < (w5.setCell ⟨w3.heap.size, A, none⟩ (.slice (some ⟨g5, 0, none⟩) (rA.length + 1) cc5)).heap.size := by have := hg5.size; simp at this ⊢; omega
      generalize w5.setCell ⟨w3.heap.size, A, none⟩ (.slice (some ⟨g5, 0, none⟩) (rA.length + 1) cc5) = wY at hst1 hbl5 hsz5 ⊢; clear hr5 hg5 hor5 q1 q2 hcA hfA hneA hown hbl1 hsz1; generalize vals.set A (.slice (some ⟨g5, 0, none⟩) (rA.length + 1) cc5) = vals2 at hst1; have hvl2 : vals2.length = vs.length := by rw [hst1.len]; simp [nbRows]
      obtain ⟨u2, hu2⟩ : ∃ u, vals2[B]? = some u := ⟨vals2[B]'(by omega), by simp⟩
      have hrB2 : ((nbRows vs.length vs (ls.take k)).set A (rA.map vN ++ [vN B]))[B]? = some (rB.map vN) := by rw [List.getElem?_set, if_neg hAB]; exact HrB.out
      have hown2 := hst1.own B u2 _ hu2 hrB2; rw [List.length_map] at hown2; have hcB : wY.cell? ⟨w3.heap.size, B, none⟩ = some u2 := by rw [hst1.outer.cell? B (by omega)]; exact hu2
      have hfB := hst1.outer.frozen B; have hneB := hst1.ne_outer hu2; have HS1 := Lib.hid hst1; have HrB2 := Lib.hid hrB2; have Hu2 := Lib.hid hu2; clear hst1 hrB2 hu2 hvl2; go_upto_region 19 with (at_builtin; refine wpList_append_row _ rfl (.tmp 73) (.tmp 75) 25 rfl 3 (.int .i64 0) 1 8 Tryz.underlying25 int_info rfl u2 _ _ rfl (hown2.alloc _) ⟨wY.heap.size, 0, none⟩ 1 1 [.int .i64 A] rfl rfl (one_new (cell_new1 rfl)) (one_ok _ _) (by omega) (by unfold maxLen; omega) (by omega) ?_; intro g6 cc6 w6 hr6 hc6 hg6 hor6; obtain ⟨q1⟩ : PLift (w6.cell? ⟨w3.heap.size, B, none⟩ = some u2) := ⟨grown_cell hg6 (keep_cell (bl_alloc _ _) hcB) hneB⟩; obtain ⟨q2⟩ : PLift (w6.frozen? ⟨w3.heap.size, B, none⟩ = false) := ⟨grown_frozen hg6 (by simp; omega) ((((bl_alloc wY (.cells #[.int .i64 A] 3)).frozen (p := ⟨w3.heap.size, B, none⟩) hsz5)).trans hfB) hneB⟩)
      have hst2 := (HS1.out.alloc (.cells #[.int .i64 A] 3)).stored Hu2.out HrB2.out hr6 hg6 (hor6.imp id (fun h => by simpa using h)); have hbl6 : Below w3.heap.size w3 (w6.setCell ⟨w3.heap.size, B, none⟩ (.slice (some ⟨g6, 0, none⟩) (rB.length + 1) cc6)) := ((bl_trans hbl5 (bl_alloc _ _)).grown hg6 (by simp; omega) (fun j hj => by have := (HS1.out.young B u2 j Hu2.out hj); omega)).setCell (by simp) _; rw [show (rB.map vN ++ [Value.int .i64 (A : Int)]) = rB.map vN ++ [vN A] from rfl, show (rB.map vN ++ [vN A]).length = rB.length + 1 by simp, Hst3.out] at hst2; have hsz6 : w3.heap.size < (w6.setCell ⟨w3.heap.size, B, none⟩ (.slice (some ⟨g6, 0, none⟩) (rB.length + 1) cc6)).heap.size := by have := hg6.size; simp at this ⊢; omega
      clear hr6 hg6 hor6 q1 q2 hcB hfB hneB hown2 hbl5 hsz5; go_wp2_with fail; go_roundg (gk - 1)
      case measure => have := Hk.out; omega
      case rel => exact ⟨k + 1, _, by have := Hk.out; omega, by go_num, hst2, hbl6, hsz6⟩
     ·
      have hkl : k = ls.length := by omega
      subst hkl; rw [List.take_length] at hO; have hok := HR.out.2.1; have hG : RdG wr w3.heap.size vs.length (nbN vs ls) := fun v hv => by
       have hvl0 : vals.length = vs.length := by rw [hO.len]; simp [nbRows]
       obtain ⟨u, hu⟩ : ∃ u, vals[v]? = some u := ⟨vals[v]'(by omega), by simp⟩
       have hrA := nbRows_get (vs := vs) (ls := ls) hv; have hown := hO.own v u _ hu hrA; have hc : wr.cell? ⟨w3.heap.size, v, none⟩ = some u := by rw [hO.outer.cell? v (by omega)]; exact hu
       rcases hown.2 with ⟨rfl, h0⟩ | ⟨g, c', rfl, _, hrow⟩
       ·
        rw [List.length_map] at h0; have hnil := List.eq_nil_of_length_eq_zero h0; exact ⟨none, 0, by rw [hc, hnil]; rfl, by rw [hnil]; intro i u hu; simp at hu⟩
       ·
        rw [List.length_map] at hc; exact ⟨some ⟨g, 0, none⟩, c', hc, hrow.at_⟩
      have hsy : ∀ a b, b ∈ nbN vs ls a → a ∈ nbN vs ls b := by rw [Hvs.out]; exact nbN_symm hok
      have hlt2 : ∀ v, v < vs.length → ∀ x ∈ nbN vs ls v, x < vs.length := fun v _ x hx => by
       rw [Hvs.out] at hx ⊢; exact (nbN_lt hok hx).1
      have hlen : ∀ v, v < vs.length → (nbN vs ls v).length ≤ 1000 := fun v _ => by have := nbN_len vs ls v; omega
      have hsum : restS vs.length (nbN vs ls) (fun _ => 0) ≤ 100000000 := by
       have h1 := restS_le hlen; have h2 : vs.length * 1000 ≤ 2000 * 1000 := Nat.mul_le_mul_right _ hvl; omega
      have hcuts := cuts_walk w3.heap.size vs.length (nbN vs ls) (-1) wr hG hsy hlt2 (by omega) (fun v hv => by have := hlen v hv; omega) hsum (by omega) (by omega); have hB4 := bl_trans hB3 hb; have h3n : ¬ vs.length < 3 := h3; clear hO hG hsy hlt2 hlen hsum hr3 hm hk hok hb; go_wp2_with fail; refine hcuts.mono ?_; rintro e w4 ⟨j, cut, gc, rfl, hrc, hgc, hb4, hspec⟩; have hB5 := bl_trans hB4 hb4; rw [Hvs.out] at hspec h3n; have hfin := two_many Hrt.out (by omega) hspec; rw [← Hvs.out] at hfin; have Hfin := Lib.hid hfin; clear hfin hspec hcuts h3n; cases j with
      | false =>
       go_wp2_with fail; go_ret; exact ⟨by rw [← Hfin.out] <;> rfl, hB5⟩
      | true =>
       go_wp2_with fail; refine (contains_true gc vs.length cut _ hrc (by omega)).mono ?_; rintro e w' ⟨rfl, rfl⟩; have hf2 := Hfin.out; rw [Bool.true_and] at hf2; have Hf2 := Lib.hid hf2; clear hf2; go_wp2_with fail; go_ret; exact ⟨by rw [← Hf2.out] <;> rfl, hB5⟩
end Go.Proofs.YtagjdkkfmfombaaGreat
namespace Go.Proofs.YtagjdkkfmfombaaGreat
open Go Go.RowKit
def lk1 (x y : Nat) : List Lk := [((x : Int), (y : Int), 0)]
theorem verts1 {x y : Nat} (h : x < y) : vertsL (lk1 x y) = [(x : Int), (y : Int)] := by
 unfold vertsL endsL lk1
 simp only [List.flatMap_cons, List.flatMap_nil, List.append_nil, List.foldl_cons, List.foldl_nil, insV]
 rw [if_neg (by omega), if_neg (by omega)]
theorem right1 {x y : Nat} (h : x < y) (hy : y < 1048576) : rightL (lk1 x y) = true := by
 rw [rightL_iff]
 refine ⟨by simp [lk1], fun k hk => ?_, by simp [lk1]⟩
 simp only [lk1, List.mem_singleton] at hk
 subst hk
 unfold OkL
 simp only
 omega
theorem two1 {x y : Nat} (h : x < y) (hy : y < 1048576) : twoL (lk1 x y) = true := by
 unfold twoL joinedL
 have h1 : (groupsL (lk1 x y) []).length = 1 := (groups_one (right1 h hy)).2 ⟨by simp [lk1], fun i j hi hj => by
  have e1 : i = 0 := by simp [lk1] at hi; exact hi
  have e2 : j = 0 := by simp [lk1] at hj; exact hj
  subst e1; subst e2
  exact .refl (by simp [lk1])⟩
 rw [h1, verts1 h]
 simp
set_option maxHeartbeats 1000000 in
theorem limbRight_walk (a b : Option Addr) (ca cb x y : Nat) (ts : List Int) (w : World) (hxy : x < y) (hy : y < 1048576) (hr : RdL w a (lk1 x y)) (ht : RdI w b ts) (hl : ts.length = 2) (htt : tintsB ts 2 = true) :
  Calls Tryz.prog 171 #[.slice a 1 ca, .slice b 2 cb] w fun e w' => e = .returned (.bool true) ∧ Below w.heap.size w w' := by
 have hvw := fun w hr => verts_walk a ca (lk1 x y) w hr (by simp [lk1])
 have htw := fun w hr => two_walk a ca (lk1 x y) w hr (by simp [lk1])
 have hnw := fun w hr => tints_walk b cb ts 2 w hr (by omega)
 rw [verts1 hxy] at hvw
 rw [two1 hxy hy] at htw
 rw [htt] at hnw
 rw [hl] at hnw
 have hl1 : (lk1 x y).length = 1 := rfl
 rw [hl1] at hvw htw
 have c0 := hr 0 (.int .i64 (x : Nat)) rfl
 have c1 := hr 1 (.int .i64 (y : Nat)) rfl
 have c2 := hr 2 (.int .i64 0) rfl
 obtain ⟨ba, oa, rfl, c0⟩ := c0
 obtain ⟨_, _, e1, c1⟩ := c1
 cases e1
 obtain ⟨_, _, e2, c2⟩ := c2
 cases e2
 replace c0 : w.cell? ⟨ba, oa, none⟩ = some (.int .i64 (x : Nat)) := c0
 have Hvw := Lib.hid hvw; have Htw := Lib.hid htw; have Hnw := Lib.hid hnw; have Hr := Lib.hid hr; have Ht := Lib.hid ht
 clear hvw htw hnw hr ht hl1
 go_enter Tryz.func171, Tryz.ntmps171
 go_wp2_with fail
 go_loopg [13] 1 (fun r iv wj => ∃ k : Nat, k + r = 1 ∧ iv = .int .i64 (k : Nat) ∧ Below w.heap.size w wj)
 case atStart => exact ⟨0, by omega, rfl, bl_refl _⟩
 case round =>
  obtain ⟨k, hk, rfl, hb⟩ := hrel
  by_cases hk0 : k < 1
  ·
   obtain rfl : k = 0 := by omega
   have d0 := keep_cell hb c0; have d1 := keep_cell hb c1; have d2 := keep_cell hb c2; have hb2 := bl_trans hb (bl_alloc wr (.cells #[.int .i64 x, .int .i64 y, .int .i64 0] 120)); have Hb2 := Lib.hid hb2; clear hb hb2; go_wp2_with fail; go_roundg (gk - 1)
   case measure => omega
   case rel => exact ⟨1, by omega, rfl, Hb2.out⟩
  ·
   obtain rfl : k = 1 := by omega
   have hr1 := Hr.out.below hb; have ht1 := Ht.out.below hb; have Hb := Lib.hid hb; have Hr1 := Lib.hid hr1; have Ht1 := Lib.hid ht1; clear hb hr1 ht1 hk; go_wp2_with fail; refine (Hvw.out _ Hr1.out).mono ?_; rintro e w1 ⟨av, cv, rfl, hrv, -, -, -, hb1⟩; have hr2 := Hr1.out.below hb1; have ht2 := Ht1.out.below hb1; have hB1 := bl_trans Hb.out hb1; simp only [List.length_cons, List.length_nil]; have Hr2 := Lib.hid hr2; have Ht2 := Lib.hid ht2; have HB1 := Lib.hid hB1; clear hr2 ht2 hB1 hb1 hrv; go_wp2_with fail; refine (Hnw.out _ Ht2.out).mono ?_; rintro e w2 ⟨rfl, rfl⟩; go_wp2_with fail; refine (Htw.out _ Hr2.out).mono ?_; rintro e w3 ⟨rfl, hb3⟩; have hB3 := bl_trans HB1.out hb3; clear hb3; go_wp2_with fail; go_ret; exact ⟨rfl, hB3⟩
def pos2 (x : Nat) (v : Nat) : Nat := if v = x then 0 else 1
theorem bs2_walk (b o c x y v : Nat) (w : World) (hxy : x < y) (hv : v = x ∨ v = y) (c0 : w.cell? ⟨b, o, none⟩ = some (.int .i64 (x : Nat))) (c1 : w.cell? ⟨b, o + 1, none⟩ = some (.int .i64 (y : Nat))) :
  Calls Tryz.prog 57 #[.slice (some ⟨b, o, none⟩) 2 c, .int .i64 (v : Nat)] w fun e w' => e = .returned (.tuple #[.int .i64 (pos2 x v : Nat), .bool true]) ∧ ∃ q, w' = w.drewN q := by
 refine (Tryz.slices_BinarySearch_int b o 2 c [(x : Int), (y : Int)] (v : Int) w (by simp) (by omega) (fun j hj => ?_) (by simp; omega)).mono ?_
 ·
  match j, hj with
  | 0, _ => exact c0
  | 1, _ => exact c1
 ·
  rintro e w' ⟨rfl, hq⟩
  refine ⟨?_, hq⟩
  have e1 : ([(x : Int), (y : Int)].take 2).countP (fun z => decide (z < (v : Int))) = pos2 x v := by
   unfold pos2; rcases hv with rfl | rfl
   · simp [List.countP_cons]; omega
   ·
    have : ¬ v = x := by omega
    simp [List.countP_cons, this]; omega
  have e2 : ([(x : Int), (y : Int)].take 2).contains (v : Int) = true := by
   rcases hv with rfl | rfl <;> simp
  rw [e1, e2]
end Go.Proofs.YtagjdkkfmfombaaGreat
namespace Go.Proofs.YtagjdkkfmfombaaGreat
open Go Go.RowKit
theorem pos2_lt (x v : Nat) : pos2 x v < 2 := by unfold pos2; split <;> omega
theorem pos2_inj {x y u v : Nat} (hxy : x < y) (hu : u = x ∨ u = y) (hv : v = x ∨ v = y) (e : pos2 x u = pos2 x v) : u = v := by
 unfold pos2 at e
 split at e <;> split at e <;> omega
set_option maxRecDepth 100000 in
set_option maxHeartbeats 4000000 in
theorem limbCode_walk (a b d : Option Addr) (ca cb cd x y : Nat) (ts : List Int) (os : List Nat) (w : World) (hxy : x < y) (hy : y < 1048576) (hr : RdL w a (lk1 x y)) (ht : RdI w b ts) (hl : ts.length = 2) (htt : tintsB ts 2 = true)
  (ho : CellsAt w d (os.map vN)) (hol : os.length = 2) (hos : ∀ v ∈ os, v = x ∨ v = y) (hnd : os.Nodup) :
  Calls Tryz.prog 175 #[.slice a 1 ca, .slice b 2 cb, .slice d 2 cd] w fun e w' => ∃ g c, e = .returned (.tuple #[.slice (some ⟨g, 0, none⟩) (codeL ts (os.map (pos2 x)) [(0, 1)]).length c, .int .i64 0]) ∧ Row w' g 5 1 c ((codeL ts (os.map (pos2 x)) [(0, 1)]).map byteV) ∧ (codeL ts (os.map (pos2 x)) [(0, 1)]).length ≤ c ∧ w.heap.size ≤ g ∧ Below w.heap.size w w' := by
 obtain ⟨pl, hpl⟩ : ∃ pl, pl = os.map (pos2 x) := ⟨_, rfl⟩
 have hpll : pl.length = 2 := by rw [hpl, List.length_map]; exact hol
 have hpnd : pl.Nodup := by rw [hpl]; exact nodup_map_on hnd fun u hu v hv e => pos2_inj hxy (hos u hu) (hos v hv) e
 have hplt : ∀ v ∈ pl, v < 2 := fun v hv => by
  rw [hpl] at hv
  obtain ⟨u, -, rfl⟩ := List.mem_map.1 hv
  exact pos2_lt _ _
 have hord : orderB (pl.map fun v : Nat => (v : Int)) 2 = true := by
  unfold orderB
  simp only [Bool.and_eq_true, decide_eq_true_eq, List.all_eq_true, List.length_map]
  refine ⟨⟨by omega, fun v hv => ?_⟩, nodup_map_on hpnd fun u _ v _ e => by omega⟩
  obtain ⟨u, hu, rfl⟩ := List.mem_map.1 hv
  have := hplt u hu
  omega
 have hcode := fun a1 a2 a3 c1 c2 c3 w ht ho he => figcode_walk a1 a2 a3 c1 c2 c3 ts pl [(0, 1)] w ht ho he (by omega) (by simp) (by rw [hpll]; exact hplt) hpnd (by omega) (fun e he => by simp at he; subst he; simp; omega)
 have hordw := fun a2 c2 w hr => order_walk a2 c2 (pl.map fun v : Nat => (v : Int)) 2 w hr (by simp; omega)
 rw [← hpl]
 have hrw := fun w hr ht => limbRight_walk a b ca cb x y ts w hxy hy hr ht hl htt
 have hvw := fun w hr => verts_walk a ca (lk1 x y) w hr (by simp [lk1])
 rw [verts1 hxy] at hvw
 have hl1 : (lk1 x y).length = 1 := rfl
 rw [hl1] at hvw
 rw [hord] at hordw
 simp only [List.length_map, hpll] at hordw
 simp only [hl, hpll, List.length_cons, List.length_nil, Nat.zero_add] at hcode
 have hmk : ∀ w, (Instr.makeSlice 25 (.int .i64 0) (.int .i64 2)).run Tryz.prog w = .ok (.slice (some ⟨w.heap.size, 0, none⟩) 0 2) (w.alloc (.cells (madeCells (Value.int .i64 0).cells (2 * 1)) 3)) := fun w => run_make_room (P := Tryz.prog) 25 3 (.int .i64 0) 1 8 Tryz.underlying25 int_info 2 (by omega) (by omega) w
 have hme : ∀ w, (Instr.makeSlice 22 (.int .i64 0) (.int .i64 1)).run Tryz.prog w = .ok (.slice (some ⟨w.heap.size, 0, none⟩) 0 1) (w.alloc (.cells (madeCells (Value.agg #[.int .i64 0, .int .i64 0]).cells (1 * 2)) 51)) := fun w => run_make_room (P := Tryz.prog) 22 51 (.agg #[.int .i64 0, .int .i64 0]) 2 16 Tryz.underlying22 pair_info2 1 (by omega) (by omega) w
 obtain ⟨bd, od, rfl, o0⟩ := ho 0 (vN os[0]) (by rw [List.getElem?_map, List.getElem?_eq_getElem (by omega)]; rfl)
 have Hrw := Lib.hid hrw; have Hvw := Lib.hid hvw; have Hcode := Lib.hid hcode; have Hordw := Lib.hid hordw; have Hr := Lib.hid hr; have Ht := Lib.hid ht; have Ho := Lib.hid ho; have Hpl := Lib.hid hpl; have Hos := Lib.hid hos
 clear hrw hvw hcode hordw hr ht ho hpl hl1 hord hplt hpnd o0 hos
 go_enter Tryz.func175, Tryz.ntmps175
 go_wp2_with fail
 refine (Hrw.out _ Hr.out Ht.out).mono ?_
 rintro e w1 ⟨rfl, hb1⟩
 have hr1 := Hr.out.below hb1
 have Hb1 := Lib.hid hb1; have Hr1 := Lib.hid hr1
 clear hb1 hr1
 go_wp2_with fail
 refine (Hvw.out _ Hr1.out).mono ?_
 rintro e w2 ⟨av, cv, rfl, hrv, -, -, -, hb2⟩
 simp only [List.length_cons, List.length_nil]
 obtain ⟨bv, ov, rfl, v0⟩ := hrv 0 (.int .i64 (x : Nat)) rfl
 obtain ⟨_, _, e1, v1⟩ := hrv 1 (.int .i64 (y : Nat)) rfl
 cases e1
 replace v0 : w2.cell? ⟨bv, ov, none⟩ = some (.int .i64 (x : Nat)) := v0
 have hB2 := bl_trans Hb1.out hb2
 have HB2 := Lib.hid hB2
 have hrm := row_room w2 (.int .i64 0) 2 1 3 (by unfold maxLen; omega)
 have Hrm := Lib.hid hrm
 clear hrv hb2 hB2 hrm
 have hbm := bl_alloc w2 (.cells (madeCells (Value.int .i64 0).cells (2 * 1)) 3)
 have Hbm := Lib.hid hbm
 clear hbm
 go_upto_region 6 with (fail)
 clear hmk
 go_loopg [9, 32] 2 (fun r sv iv wj => ∃ (k g c : Nat), k + r = 2 ∧ iv = .int .i64 (k : Nat) ∧ sv = .slice (some ⟨g, 0, none⟩) k c ∧ Row wj g 3 1 c ((pl.take k).map vN) ∧ k ≤ c ∧ w2.heap.size ≤ g ∧ Below w2.heap.size w2 wj)
 case atStart => exact ⟨0, w2.heap.size, 2, by omega, rfl, rfl, Hrm.out, by omega, Nat.le_refl _, Hbm.out⟩
 case round =>
  clear Hrm Hbm
  obtain ⟨k, g, c, hk, rfl, rfl, hrow, hkc, hg, hB⟩ := hrel
  by_cases hkl : k < 2
  ·
   obtain ⟨u, hu⟩ : ∃ u, os[k]? = some u := ⟨_, List.getElem?_eq_getElem (by omega)⟩
   have hus := Hos.out u (List.mem_of_getElem? hu); obtain ⟨_, _, e2, o0⟩ := Ho.out k (vN u) (by rw [List.getElem?_map, hu]; rfl); cases e2; have ou : wr.cell? ⟨bd, od + k, none⟩ = some (.int .i64 (u : Nat)) := keep_cell (bl_trans HB2.out hB) o0; have htk : pl.take (k + 1) = pl.take k ++ [pos2 x u] := by
    rw [List.take_add_one, Hpl.out, List.getElem?_map, hu]; rfl
   have hbs := bs2_walk bv ov cv x y u wr hxy hus (keep_cell hB v0) (keep_cell hB v1); obtain ⟨p, hp⟩ : ∃ p, p = pos2 x u := ⟨_, rfl⟩
   rw [← hp] at htk hbs; have hltk : ((pl.take k).map vN).length = k := by rw [List.length_map, List.length_take]; omega
   have i1 : (k : Int) < 2 := by omega
   have Htk := Lib.hid htk; have Hbs := Lib.hid hbs; have Hrow := Lib.hid hrow; have HB := Lib.hid hB; clear htk hbs hrow hB hus hu hp o0; go_wp2_with fail; refine Hbs.out.mono ?_; rintro e w3 ⟨rfl, q, rfl⟩; have hrq := Hrow.out.drewN q; have hBq := below_drewN HB.out q; generalize wr.drewN q = wq at *
   have hAl := hrq.own1.alloc (.cells #[.int .i64 (p : Nat)] 3); rw [hltk] at hAl; have hBa := bl_trans hBq (bl_alloc _ (.cells #[.int .i64 (p : Nat)] 3)); have hszk := hBq.size; have Hal := Lib.hid hAl; have HBa := Lib.hid hBa; clear hAl hBa Hrow HB hrq hBq; go_wp2_with (at_builtin; go_loud (refine wpList_append_row _ rfl (.tmp 44) (.tmp 46) 25 rfl 3 (.int .i64 0) 1 8 Tryz.underlying25 int_info rfl (.slice (some ⟨g, 0, none⟩) k c) k _ rfl Hal.out ⟨wq.heap.size, 0, none⟩ 1 1 [.int .i64 (p : Nat)] rfl rfl (one_new (by simp)) (one_ok _ _) (by omega) (by unfold maxLen; omega) (by omega) ?_; intro g5 c5 w5 hr5 hc5 hg5 hor5)); have hyg : w2.heap.size ≤ g5 := by
    rcases hor5 with h | h
    · cases h; exact hg
    · simp at h hszk; omega
   have hB5 := HBa.out.grown hg5 (by simp at hszk ⊢; omega) (fun q hq => by cases hq; exact hg); have hr6 : Row w5 g5 3 1 c5 ((pl.take (k + 1)).map vN) := by rw [Htk.out, List.map_append]; exact hr5
   have HB5 := Lib.hid hB5; have Hr6 := Lib.hid hr6; clear hB5 hr6 hr5 hg5 hor5; go_wp2_with fail; go_roundg (gk - 1)
   case measure => omega
   case rel => exact ⟨k + 1, g5, c5, by omega, by go_num, rfl, Hr6.out, hc5, hyg, HB5.out⟩
  ·
   obtain rfl : k = 2 := by omega
   rw [List.take_of_length_le (by omega)] at hrow; have hgl := hrow.lt; have hplc : CellsAt wr (some ⟨g, 0, none⟩) (pl.map vN) := hrow.at_; have hpi : RdI wr (some ⟨g, 0, none⟩) (pl.map fun v : Nat => (v : Int)) := by
    unfold RdI; rw [List.map_map]; exact hplc
   have Hplc := Lib.hid hplc; have Hpi := Lib.hid hpi; have HB := Lib.hid hB; clear hrow hplc hpi hB hk; go_wp2_with fail; refine (Hordw.out _ _ _ Hpi.out).mono ?_; rintro e w3 ⟨rfl, hb3⟩; have hplc3 := Hplc.out.below hb3; have hB3 := bl_trans HB.out hb3; have hrm3 := row_room w3 (.agg #[.int .i64 0, .int .i64 0]) 1 2 51 (by unfold maxLen; omega); have hbm3 := bl_alloc w3 (.cells (madeCells (Value.agg #[.int .i64 0, .int .i64 0]).cells (1 * 2)) 51); have Hplc3 := Lib.hid hplc3; have HB3 := Lib.hid hB3; have Hrm3 := Lib.hid hrm3; have Hbm3 := Lib.hid hbm3; have hg3 := hb3.size; clear hplc3 hB3 hrm3 hbm3 hb3; go_upto_region 17 with (fail)
   clear hme; go_loopg [14, 59] 1 (fun r sv iv wj => ∃ (k ge c : Nat), k + r = 1 ∧ iv = .int .i64 (k : Nat) ∧ sv = .slice (some ⟨ge, 0, none⟩) k c ∧ Row wj ge 51 2 c (pairCells (if k = 0 then [] else [(0, 1)])) ∧ k ≤ c ∧ w3.heap.size ≤ ge ∧ Below w3.heap.size w3 wj)
   case atStart => exact ⟨0, w3.heap.size, 1, by omega, rfl, rfl, (by rw [if_pos rfl]; exact Hrm3.out), by omega, Nat.le_refl _, Hbm3.out⟩
   case round =>
    clear Hrm3 Hbm3; obtain ⟨k, ge, ce, hk, rfl, rfl, hrow, hkc, hge, hBe⟩ := hrel; by_cases hkl : k < 1
    ·
     obtain rfl : k = 0 := by omega
     have hra := Hr.out.below (bl_trans HB2.out (bl_trans HB3.out hBe)); obtain ⟨ba, oa, rfl, c0⟩ := hra 0 (.int .i64 (x : Nat)) rfl; obtain ⟨_, _, e1, c1⟩ := hra 1 (.int .i64 (y : Nat)) rfl; cases e1; obtain ⟨_, _, e2, c2⟩ := hra 2 (.int .i64 0) rfl; cases e2; replace c0 : wr.cell? ⟨ba, oa, none⟩ = some (.int .i64 (x : Nat)) := c0; have hbw := bl_trans HB3.out hBe; have hbl := bl_alloc wr (.cells #[.int .i64 x, .int .i64 y, .int .i64 0] 120); have d0 : (wr.alloc (.cells #[.int .i64 x, .int .i64 y, .int .i64 0] 120)).cell? ⟨wr.heap.size, 0, none⟩ = some (.int .i64 x) := by simp
     have d1 : (wr.alloc (.cells #[.int .i64 x, .int .i64 y, .int .i64 0] 120)).cell? ⟨wr.heap.size, 1, none⟩ = some (.int .i64 y) := by simp
     have v0a := keep_cell hbl (keep_cell hbw v0); have v1a := keep_cell hbl (keep_cell hbw v1); have hrowa := hrow.below hbl hrow.lt; have hBa := bl_trans hBe hbl; simp only [if_true] at hrowa; have Hrowa := Lib.hid hrowa; have HBa := Lib.hid hBa; clear hra hbw hbl hrow hBe hrowa hBa; go_upto_region 19 with (fail)
     clear c0 c1 c2; generalize wr.alloc (.cells #[.int .i64 x, .int .i64 y, .int .i64 0] 120) = wa at *
     have hbx := bs2_walk bv ov cv x y x wa hxy (.inl rfl) v0a v1a; have p0 : pos2 x x = 0 := by simp [pos2]
     rw [p0] at hbx; have Hbx := Lib.hid hbx; clear hbx p0; go_wp2_with fail; refine Hbx.out.mono ?_; rintro e w4 ⟨rfl, q, rfl⟩; have hby := bs2_walk bv ov cv x y y (wa.drewN q) hxy (.inr rfl) v0a v1a; have p1 : pos2 x y = 1 := by unfold pos2; rw [if_neg (by omega)]
     rw [p1] at hby; have hrq := Hrowa.out.drewN q; have hBq := below_drewN HBa.out q; have d1q : (wa.drewN q).cell? ⟨wr.heap.size, 1, none⟩ = some (.int .i64 y) := d1; have Hby := Lib.hid hby; clear hby p1; generalize wa.drewN q = wq at *
     clear d0 d1; go_wp2_with fail; refine Hby.out.mono ?_; rintro e w5 ⟨rfl, q2, rfl⟩; have hrq2 := hrq.drewN q2; have hBq2 := below_drewN hBq q2; generalize wq.drewN q2 = wz at *
     have hAl := hrq2.alloc (.cells #[.int .i64 0, .int .i64 1] 51); have hBz := bl_trans hBq2 (bl_alloc wz (.cells #[.int .i64 0, .int .i64 1] 51)); have hzs := hBq2.size; have Hal := Lib.hid hAl; have HBz := Lib.hid hBz; clear hAl hBz hrq hrq2 hBq hBq2 d1q; go_wp2_with (at_builtin; go_loud (refine wpList_append_row _ rfl (.tmp 77) (.tmp 81) 22 rfl 51 (.agg #[.int .i64 0, .int .i64 0]) 2 16 Tryz.underlying22 pair_info2 rfl (.slice (some ⟨ge, 0, none⟩) 0 ce) 0 _ rfl (Hal.out.own (by simp [pairCells]) (by omega)) ⟨wz.heap.size, 0, none⟩ 1 1 [.int .i64 0, .int .i64 1] rfl rfl (news_lit wz _ [_, _]) (by intro u hu; simp at hu; rcases hu with rfl | rfl <;> rfl) (by omega) (by unfold maxLen; omega) (by omega) ?_; intro g5 c5 w5 hr5 hc5 hg5 hor5)); have hyg : w3.heap.size ≤ g5 := by
      rcases hor5 with h | h
      · cases h; exact hge
      · simp at h; omega
     have hB5 := HBz.out.grown hg5 (by simp; omega) (fun q hq => by cases hq; exact hge); have hr6 : Row w5 g5 51 2 c5 (pairCells [(0, 1)]) := by simpa [pairCells] using hr5
     have HB5 := Lib.hid hB5; have Hr6 := Lib.hid hr6; clear hB5 hr6 hr5 hg5 hor5; go_wp2_with fail; go_roundg (gk - 1)
     case measure => omega
     case rel => exact ⟨1, g5, c5, by omega, by go_num, rfl, by simpa using Hr6.out, by simpa using hc5, hyg, HB5.out⟩
    ·
     obtain rfl : k = 1 := by omega
     simp only [Nat.one_ne_zero, if_false] at hrow; have hedg : RdP wr (some ⟨ge, 0, none⟩) [(0, 1)] := hrow.at_; have htr := Ht.out.below (bl_trans HB2.out (bl_trans HB3.out hBe)); have hpr := Hplc3.out.below hBe; have hBw := bl_trans HB2.out (bl_trans HB3.out hBe); have Hedg := Lib.hid hedg; have Htr := Lib.hid htr; have Hpr := Lib.hid hpr; have HBw := Lib.hid hBw; clear hedg htr hpr hBw hrow hBe hk; go_wp2_with fail; refine (Hcode.out _ _ _ _ _ _ _ Htr.out Hpr.out Hedg.out).mono ?_; rintro e w6 ⟨gc, cc, rfl, hrc, hcc, hgc, hb6⟩; have hB6 := bl_trans HBw.out hb6; have hgc2 : w.heap.size ≤ gc := by have := HBw.out.size; omega
     clear hb6; go_wp2_with fail; go_ret2; exact ⟨gc, cc, rfl, hrc, hcc, hgc2, hB6⟩
end Go.Proofs.YtagjdkkfmfombaaGreat
namespace Go.Proofs.YtagjdkkfmfombaaGreat
open Go Go.RowKit Go.Shelf
attribute [local go_sem] Oper.semAt_some
abbrev InL (zs : List Nat) := {x : Nat × Nat // x.2 ∈ zs}
def encB {zs : List Nat} (x : InL zs) : Array Value := #[.int .i64 (x.1.1 : Int), .int .i64 (x.1.2 : Int)]
set_option maxRecDepth 100000 in
set_option maxHeartbeats 2000000 in
theorem bw1_in (F : Fence) (n : Nat) (hF : F.fn 143) (hro : F.round = none) (hn : 1 ≤ n) (l Bs n₀ b off cap : Nat) (zs : List Nat) (hl : zs.length ≤ 1000000) (hb : b < n₀) (hBn : Bs < n₀) (J Jx : List (InL zs) → World → Prop)
  (hY : ∀ pre x W, J pre W → pre.length < zs.length → YieldAt F (n - 1) Tryz.prog l (encB x) W fun e W' =>
   (e = .returned (.bool true) ∧ J (pre ++ [x]) W' ∧ Below n₀ W W') ∨ (e = .returned (.bool false) ∧ Jx (pre ++ [x]) W'))
  (W : World) (hBs : W.cell? ⟨Bs, 0, none⟩ = some (.slice (some ⟨b, off, none⟩) zs.length cap)) (hc : ∀ j (h : j < zs.length), W.cell? ⟨b, off + j, none⟩ = some (.int .i64 (zs[j] : Nat))) (h0 : J [] W) :
  CallsIn F n Tryz.prog 143 #[.func (.yield l) #[] #[], .pointer (some ⟨Bs, 0, none⟩)] W fun e W' => (∃ v, e = .returned v) ∧
   ((∃ ys, J ys W') ∨ (∃ pre, Jx pre W')) := by
 refine callsIn_of_wp Tryz.func143 rfl hF ?_ hro
 simp only [Tryz.ntmps143, List.size_toArray, List.length_cons, List.length_nil, Nat.reduceAdd, Nat.reduceSub, Array.replicate_succ, Array.replicate_zero, List.push_toArray, List.append_toArray, List.nil_append, List.cons_append]
 gi_wp2
 gi_loopw [3] (fun i wr => ∃ (k : Nat) (pre : List (InL zs)), k + pre.length = zs.length ∧ i = .int .i64 ((k : Int) - 1) ∧ J pre wr ∧ Below n₀ W wr)
  (fun i _ => (intOf i + 1).toNat)
 case atStart => exact ⟨zs.length, [], by simp, rfl, h0, Below.refl _ _⟩
 case round =>
  obtain ⟨k, pre, hk, rfl, hJs, hnx⟩ := hrel
  have hBx := (hnx.cell (p := ⟨Bs, 0, none⟩) hBn).trans hBs
  cases k with
  | zero =>
   gi_wp2; go_end0; exact ⟨⟨_, rfl⟩, .inl ⟨_, hJs⟩⟩
  | succ k =>
   have hkl : k < zs.length := by omega
   have hcx := (hnx.cell (p := ⟨b, off + k, none⟩) hb).trans (hc k hkl); obtain ⟨fn, tmps, assign, body, hy, hR⟩ := hY pre ⟨(k, zs[k]), List.getElem_mem hkl⟩ wr hJs (by omega); dsimp only [encB] at hy; rw [show ((k + 1 : Nat) : Int) - 1 = (k : Int) by omega]; have i1 : (k : Int) < (zs.length : Int) := by omega
   gi_wp2; refine hR.mono ?_; rintro e W3 (⟨rfl, hJ3, hk3⟩ | ⟨rfl, hJx3⟩)
   ·
    gi_wp2; go_roundw
    case rel => exact ⟨k, _, by simp; omega, rfl, hJ3, hnx.trans hk3⟩
    case measure => simp [intOf] <;> omega
   ·
    gi_wp2; refine bodyPost_ret (results_none rfl _ _ _) rfl ?_; exact ⟨⟨_, rfl⟩, .inr ⟨_, hJx3⟩⟩
set_option maxHeartbeats 1000000 in
theorem bw_in (a : Option Addr) (len cap : Nat) (w : World) :
  Calls Tryz.prog 119 #[.slice a len cap] w fun e w' => e = .returned (.func (.func 143) #[] #[.pointer (some ⟨w.heap.size, 0, none⟩)]) ∧ w' = w.alloc (.cells #[.slice a len cap] 25) := by
 go_enter Tryz.func119, Tryz.ntmps119
 go_wp2_with fail
 go_ret
 exact ⟨rfl, rfl⟩
theorem bw_stops (F : Fence) (n : Nat) (hF : F.fn 143) (hro : F.round = none) (hn : 1 ≤ n) (Bs n₀ b off cap : Nat) (zs : List Nat) (hl : zs.length ≤ 1000000) (w : World) (hBn : Bs < n₀) (hb : b < n₀) (hn₀ : n₀ ≤ w.heap.size)
  (hBs : w.cell? ⟨Bs, 0, none⟩ = some (.slice (some ⟨b, off, none⟩) zs.length cap)) (hc : ∀ j (h : j < zs.length), w.cell? ⟨b, off + j, none⟩ = some (.int .i64 (zs[j] : Nat))) :
  SeqStopsK F n Tryz.prog 143 #[.pointer (some ⟨Bs, 0, none⟩)] (encB (zs := zs)) (Below n₀) (fun _ => True) (fun _ => True) zs.length w := fun l J Jx W hW _ _ hY h0 => by
 refine (bw1_in F n hF hro hn l Bs n₀ b off cap zs hl hb hBn J Jx hY W ((hW.cell (p := ⟨Bs, 0, none⟩) (by show Bs < _; omega)).trans hBs) (fun j h => (hW.cell (p := ⟨b, off + j, none⟩) (by show b < _; omega)).trans (hc j h)) h0).mono ?_
 rintro e W' ⟨he, ⟨ys, hj⟩ | ⟨pre, hj⟩⟩
 · exact ⟨he, .inl ⟨_, trivial, hj⟩⟩
 · exact ⟨he, .inr ⟨_, trivial, hj⟩⟩
def actB (s p q : Nat) {zs : List Nat} (a : Act) (x : InL zs) : Act :=
 { tmps := (((a.tmps.setIfInBounds p (.int .i64 (x.1.1 : Int))).setIfInBounds q (.int .i64 (x.1.2 : Int)))).setIfInBounds s (.int .i64 (x.1.2 : Int)), defers := [] }
def backPost (n₀ : Nat) (W : World) : Exit → Act → World → Prop
 | .normal, _, W' => KeepsOthers W W' ∧ Below n₀ W W'
 | _, _, _ => False
theorem range_back (s : Nat) {p q : Nat} {g : Operand} {assign body : Code} {Q : Exit → Act → World → Prop} {a : Act} {w : World} {Bs b off cap : Nat} {zs : List Nat}
  (hg : a.eval g = .func (.func 143) #[] #[.pointer (some ⟨Bs, 0, none⟩)]) (hl : zs.length ≤ 1000000) (hB1 : Bs < w.heap.size) (hB2 : b < w.heap.size)
  (hBs : w.cell? ⟨Bs, 0, none⟩ = some (.slice (some ⟨b, off, none⟩) zs.length cap)) (hc : ∀ j (h : j < zs.length), w.cell? ⟨b, off + j, none⟩ = some (.int .i64 (zs[j] : Nat)))
  (hassign : ∀ (l : Nat) (x : InL zs) (W : World) (K : Act → World → Prop), K (actB s p q a x) W →
   assign.wpIn (Fence.wide.inRound l) (3 - 1 - 1) Tryz.prog (Exit.then K (fun _ _ _ => False)) { tmps := (a.tmps.setIfInBounds p (.int .i64 (x.1.1 : Int))).setIfInBounds q (.int .i64 (x.1.2 : Int)), defers := [] } W)
  (hbody : ∀ (l : Nat) (x : InL zs) (W : World), Below w.heap.size w W → body.wpIn (Fence.wide.inRound l) (3 - 1 - 1) Tryz.prog (backPost w.heap.size W) (actB s p q a x) W)
  (hdone : ∀ (D : Nat) (W : World), w.heap.size ≤ D → Below w.heap.size w W → W.heap[D]? = some (.deferred (some [])) → Q .normal { a with defers := { target := .collected D, args := #[] } :: a.defers } W) :
  (Code.rangeFunc g #[p, q] assign body).wp Tryz.prog Q a w := by
 refine (wpIn_wide (n := 3)).1 ?_
 refine wpIn_rangeFunc_ownF rfl (by omega) hg trivial (enters_of Tryz.func143 (by kernel_rfl) rfl)
  (bw_stops Fence.wide (3 - 1) trivial rfl (by omega) Bs w.heap.size b off cap zs hl w hB1 hB2 (Nat.le_refl _) hBs hc) belowK_t (belowK_b (Nat.le_refl _)) (Below.refl _ _) (fun _ => rfl)
  (fun _ W => Below w.heap.size w W) (fun _ _ _ => False) (ownFrom_below (Nat.le_refl _) (Nat.le_refl _)) (fun _ _ _ _ _ hs _ _ => hs) (Below.refl _ _) (actB s p q a) ?_ ?_ ?_ ?_
 ·
  intro l x W K hK
  have e : (#[p, q].zip (encB x)).foldl (fun t (y : Tmp × Value) => t.setIfInBounds y.1 y.2) a.tmps = (a.tmps.setIfInBounds p (.int .i64 (x.1.1 : Int))).setIfInBounds q (.int .i64 (x.1.2 : Int)) := by simp [encB]
  have h := hassign l x W K hK
  rw [← e] at h
  exact h
 ·
  intro l pre x W hI _
  refine wpIn_mono (hbody l x W hI) fun e a' W' h => ?_
  cases e with
  | normal => exact ⟨h.1, h.2, hI.trans h.2⟩
  | ret => exact h.elim
  | exit i => exact h.elim
  | goto i => exact h.elim
  | panic c => exact h.elim
  | outgrown => exact h.elim
 ·
  intro D xs W hD _ hI hK
  exact hdone D W hD hI hK
 ·
  intro D c pre W _ _ h _
  exact h.elim
theorem below_same {w W : World} {n₀ : Nat} (h : Below n₀ w W) {b o : Nat} {v : Value} (hc : W.cell? ⟨b, o, none⟩ = some v) : Below n₀ w (W.setCell ⟨b, o, none⟩ v) := by
 refine h.trans ⟨rfl, rfl, rfl, by simp [World.setCell], fun k hk => ?_⟩
 by_cases e : k = b
 ·
  subst e
  unfold World.cell? at hc
  simp only at hc
  simp only [World.setCell, Array.getElem?_modify, if_true]
  cases hb : W.heap[k]? with
  | none => rfl
  | some ob =>
   rw [hb] at hc; cases ob with
   | cells c t f =>
    simp only [Option.map_some, Option.isSome_none, Bool.false_eq_true, if_false]; simp only at hc; obtain ⟨hi1, hi2⟩ := Array.getElem?_eq_some_iff.1 hc; congr 2; apply Array.ext
    · simp
    ·
     intro i h1 h2; rw [Array.getElem_setIfInBounds]; split
     · rename_i e; subst e; exact hi2.symm
     · rfl
   | _ => cases hc
 · exact Below.heap_setCell _ ⟨b, o, none⟩ v k e
end Go.Proofs.YtagjdkkfmfombaaGreat
