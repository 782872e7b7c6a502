/- Facts that the claim rests on, part 8. -/
import Derived.Test.YtagcbnpahgfgmaaGreatKO06
namespace Go.Proofs.YtagcbnpahgfgmaaGreat
open Go Go.RowKit
set_option maxRecDepth 100000 in
set_option maxHeartbeats 4000000 in
theorem cuts_walk (G n : Nat) (bs : Nat → List Nat) (gone : Int) (w : World) (hG : RdG w G n bs) (hsy : ∀ a b, b ∈ bs a → a ∈ bs b) (hbs : ∀ v, v < n → ∀ x ∈ bs v, x < n)
  (hn : n ≤ 100000) (hlen : ∀ v, v < n → (bs v).length ≤ 100000) (hsum : restS n bs (fun _ => 0) ≤ 100000000) (hg : -1 ≤ gone) (hgn : gone < n) :
  Calls Tryz.prog 68 #[.slice (some ⟨G, 0, none⟩) n n, .int .i64 gone] w (RetCuts w n bs gone) := by
 obtain ⟨left, hleft⟩ : ∃ l : Nat, l = ((List.range n).filter (presB gone)).length := ⟨_, rfl⟩
 have hleft2 := left_len n gone hg hgn
 rw [← hleft] at hleft2
 obtain ⟨root, hroot⟩ : ∃ r : Nat, r = if gone = 0 then 1 else 0 := ⟨_, rfl⟩
 have Hleft := Lib.hid hleft; have Hleft2 := Lib.hid hleft2; have Hroot := Lib.hid hroot; have Hsy := Lib.hid hsy; have Hbs := Lib.hid hbs; have Hlen := Lib.hid hlen; have Hsum := Lib.hid hsum
 clear hleft hleft2 hroot hsy hbs hlen hsum
 have hmi := run_make_row' (P := Tryz.prog) 33 3 (.int .i64 0) 8 Tryz.underlying33 int_info rfl .i64 .i64 n (by omega) (by omega)
 have hmb := run_make_row' (P := Tryz.prog) 78 4 (.bool false) 1 Tryz.underlying78 bool_info rfl .i64 .i64 n (by omega) (by omega)
 go_enter Tryz.func68, Tryz.ntmps68
 go_upto_if 26 with (fail)
 obtain ⟨w0, hw0⟩ : ∃ w0, w0 = w.alloc (.cells (madeCells #[.bool false] n) 4) := ⟨_, rfl⟩
 rw [← hw0]
 have hb0 : Below w.heap.size w w0 := by rw [hw0]; exact bl_alloc _ _
 have hrc0 : Row w0 w.heap.size 4 1 n (rowB n fun _ => false) := by
  have := row_made w (.bool false) n 4 (by unfold maxLen; omega)
  rw [rowB_zero] at this
  rw [hw0]; exact this
 have hz0 : w0.heap.size = w.heap.size + 1 := by rw [hw0]; simp
 have Hz0 := Lib.hid hz0; clear hw0 hz0
 go_cut [8, 9] (fun r l wx => r = .int .i64 (root : Int) ∧ l = .int .i64 (left : Int) ∧ w0 = wx)
 case first =>
  by_cases h0 : 0 ≤ gone
  ·
   by_cases h1 : gone = 0
   ·
    subst h1; have e1 : root = 1 := by rw [Hroot.out]; simp
    have e2 : (left : Int) = (n : Int) - 1 := by rw [Hleft2.out]; simp
    go_wp2_with fail; go_meet
    exact ⟨by rw [e1]; rfl, by rw [e2], rfl⟩
   ·
    have g1 : (gone == 0) = false := by simpa using h1
    have e1 : root = 0 := by rw [Hroot.out, if_neg h1]
    have e2 : (left : Int) = (n : Int) - 1 := by rw [Hleft2.out, if_pos h0]
    go_wp2_with fail; go_meet
    exact ⟨by rw [e1]; rfl, by rw [e2], rfl⟩
  ·
   have e1 : root = 0 := by rw [Hroot.out, if_neg (by omega)]
   have e2 : (left : Int) = (n : Int) := by rw [Hleft2.out, if_neg h0]
   go_wp2_with fail; go_meet
   exact ⟨by rw [e1]; rfl, by rw [e2], rfl⟩
 case rest =>
 obtain ⟨rfl, rfl, rfl⟩ := hcut
 by_cases hl : left = 0
 ·
  have hno : ∀ v, ¬ Pres n gone v := fun v hv => by
   have h1 : v ∈ (List.range n).filter (presB gone) := by simp only [List.mem_filter, List.mem_range, presB, decide_eq_true_eq]; exact hv
   have := List.length_pos_of_mem h1; rw [← Hleft.out] at this; omega
  have Hno := Lib.hid hno; clear hno
  have hl' : (left : Int) < 1 := by omega
  go_wp2_with fail
  go_ret2
  exact ⟨true, fun _ => false, w.heap.size, rfl, hrc0, Nat.le_refl _, hb0, cut_none Hno.out⟩
 have hpres : Pres n gone root := by
  have h2 := Hleft2.out
  rw [Hroot.out]
  by_cases h1 : gone = 0
  · rw [if_pos h1]; rw [if_pos (by omega)] at h2; exact ⟨by omega, by omega⟩
  ·
   rw [if_neg h1]; refine ⟨?_, by simp; omega⟩; by_cases h3 : 0 ≤ gone
   · rw [if_pos h3] at h2; omega
   · rw [if_neg h3] at h2; omega
 have hrn0 := hpres.1
 have Hpres := Lib.hid hpres; clear hpres
 have hl' : (1 : Int) ≤ (left : Int) := by omega
 have hleftn : left ≤ n := by have := Hleft2.out; split at this <;> omega
 have hmade : ∀ W : World, Row (W.alloc (.cells (madeCells #[.int .i64 0] n) 3)) W.heap.size 3 1 n (rowN n fun _ => 0) := fun W => by
  have := row_made W (.int .i64 0) n 3 (by unfold maxLen; omega)
  rwa [rowN_zero] at this
 have htwo : ∀ W : World, Row (((W.alloc (.cells (madeCells #[.int .i64 0] n) 3)).alloc (.cells (madeCells #[.int .i64 0] n) 3)).drew) W.heap.size 3 1 n (rowN n fun _ => 0) ∧
   Row (((W.alloc (.cells (madeCells #[.int .i64 0] n) 3)).alloc (.cells (madeCells #[.int .i64 0] n) 3)).drew) (W.heap.size + 1) 3 1 n (rowN n fun _ => 0) ∧
   Below W.heap.size W (((W.alloc (.cells (madeCells #[.int .i64 0] n) 3)).alloc (.cells (madeCells #[.int .i64 0] n) 3)).drew) := fun W => by
  refine ⟨((hmade W).alloc _).drew, ?_, Below.drew (bl_trans (bl_alloc _ _) (bl_alloc _ _))⟩
  have := (hmade (W.alloc (.cells (madeCells #[.int .i64 0] n) 3))).drew
  simpa using this
 have Htwo := Lib.hid htwo; clear hmade htwo
 go_upto_region 10 with (fail)
 go_cut [10, 11] (fun a b wx => ∃ gn gl, a = .slice (some ⟨gn, 0, none⟩) n n ∧ b = .slice (some ⟨gl, 0, none⟩) n n ∧ Row wx gn 3 1 n (rowN n fun _ => 0) ∧ Row wx gl 3 1 n (rowN n fun _ => 0) ∧ gn ≠ gl ∧ w0.heap.size ≤ gn ∧ w0.heap.size ≤ gl ∧ Below w0.heap.size w0 wx)
 case first =>
  obtain ⟨t1, t2, t3⟩ := Htwo.out w0
  go_region
  ·
   go_wp2_with fail; go_meet
   first
    | exact ⟨_, _, rfl, rfl, t1, t2, by omega, by omega, by omega, t3⟩
    | exact ⟨_, _, rfl, rfl, t2, t1, by omega, by omega, by omega, t3⟩
  ·
   go_wp2_with fail; go_meet
   first
    | exact ⟨_, _, rfl, rfl, t1, t2, by omega, by omega, by omega, t3⟩
    | exact ⟨_, _, rfl, rfl, t2, t1, by omega, by omega, by omega, t3⟩
 case rest =>
 obtain ⟨gn, gl, rfl, rfl, hrn, hrl, hnl, hgn0, hgl0, hb1⟩ := hcut
 have hrc1 := hrc0.below hb1 hrc0.lt
 have hB1 := bl_trans hb0 hb1
 have hz1 := hb1.size
 have hzn := hrn.lt
 have hzl := hrl.lt
 have hz0 : w.heap.size < w0.heap.size := by rw [Hz0.out]; omega
 clear hrc0 hb0 hb1
 obtain ⟨w1, hw1⟩ : ∃ w1 : World, w1 = wc := ⟨_, rfl⟩
 subst hw1
 go_upto_region 11 with (fail)
 go_cut [12, 13] (fun a b wx => ∃ gu ga, a = .slice (some ⟨gu, 0, none⟩) n n ∧ b = .slice (some ⟨ga, 0, none⟩) n n ∧ Row wx gu 3 1 n (rowN n fun _ => 0) ∧ Row wx ga 3 1 n (rowN n fun _ => 0) ∧ gu ≠ ga ∧ w1.heap.size ≤ gu ∧ w1.heap.size ≤ ga ∧ Below w1.heap.size w1 wx)
 case first =>
  obtain ⟨t1, t2, t3⟩ := Htwo.out w1
  go_region
  ·
   go_wp2_with fail; go_meet
   first
    | exact ⟨_, _, rfl, rfl, t1, t2, by omega, by omega, by omega, t3⟩
    | exact ⟨_, _, rfl, rfl, t2, t1, by omega, by omega, by omega, t3⟩
  ·
   go_wp2_with fail; go_meet
   first
    | exact ⟨_, _, rfl, rfl, t1, t2, by omega, by omega, by omega, t3⟩
    | exact ⟨_, _, rfl, rfl, t2, t1, by omega, by omega, by omega, t3⟩
 case rest =>
 obtain ⟨gu, ga, rfl, rfl, hru, hra, hua, hgu0, hga0, hb2⟩ := hcut
 have hrc2 := hrc1.below hb2 hrc1.lt
 have hrn2 := hrn.below hb2 hrn.lt
 have hrl2 := hrl.below hb2 hrl.lt
 have hB2 := bl_trans hB1 hb2
 have hzu := hru.lt
 have hza := hra.lt
 obtain ⟨w2, hw2⟩ : ∃ w2 : World, w2 = wc := ⟨_, rfl⟩
 subst hw2
 have hm1 : CM (((w2.setCell ⟨gn, root, none⟩ (vN 1)).setCell ⟨gl, root, none⟩ (vN 1)).alloc (.cells #[.int .i64 root] 3)) w.heap.size gn gl gu ga w.heap.size w2.heap.size 1 n (CS.start root).num (CS.start root).low (CS.start root).up (CS.start root).at_ (CS.start root).cut [root] := by
  have q1 := ((hrn2.set root (vN 1)).other (a := ⟨gl, root, none⟩) hnl (vN 1)).alloc (.cells #[.int .i64 root] 3)
  have q2 := ((hrl2.other (a := ⟨gn, root, none⟩) hnl.symm (vN 1)).set root (vN 1)).alloc (.cells #[.int .i64 root] 3)
  rw [rowN_set] at q1 q2
  have q : ∀ {g e vs} (_ : Row w2 g e 1 n vs), g ≠ gn → g ≠ gl → Row (((w2.setCell ⟨gn, root, none⟩ (vN 1)).setCell ⟨gl, root, none⟩ (vN 1)).alloc (.cells #[.int .i64 root] 3)) g e 1 n vs := fun h h1 h2 => ((h.other (a := ⟨gn, root, none⟩) h1 _).other (a := ⟨gl, root, none⟩) h2 _).alloc _
  refine ⟨q1, q2, q hru (by omega) (by omega), q hra (by omega) (by omega), q hrc2 (by omega) (by omega), ?_, ⟨hnl, by omega, by omega, by omega, by omega, by omega, by omega, hua, by omega, by omega⟩, ⟨by omega, by omega, by omega, by omega, by omega⟩, ⟨by omega, by omega, by omega, by omega, by omega, by omega⟩⟩
  have := row_lit ((w2.setCell ⟨gn, root, none⟩ (vN 1)).setCell ⟨gl, root, none⟩ (vN 1)) [vN root] 3 (by unfold maxLen; simp)
  simpa [vN] using this
 have hB3 : Below w.heap.size w (((w2.setCell ⟨gn, root, none⟩ (vN 1)).setCell ⟨gl, root, none⟩ (vN 1)).alloc (.cells #[.int .i64 root] 3)) := ((hB2.setCell (by simp; omega) _).setCell (by simp; omega) _).alloc (by simp; omega) _
 have f1 := hrn2.atN hrn0
 have f2 := hrn2.frozen root
 have f3 : (w2.setCell ⟨gn, root, none⟩ (.int .i64 1)).cell? ⟨gl, root, none⟩ = some (.int .i64 0) := by rw [World.cell?_setCell_far _ _ _ _ (by simpa using hnl)]; exact hrl2.atN hrn0
 have f4 := (hrl2.other (a := ⟨gn, root, none⟩) hnl.symm (.int .i64 1)).frozen root
 have ir1 : (root : Int) < (n : Int) := by omega
 have ir0 : (0 : Int) ≤ (root : Int) := by omega
 go_wp2_with fail
 go_loopg [14, 15, 16] (2 * restS n bs (fun _ => 0) + 1) (fun q vm vk vs wr => ∃ (s : CS) (st : List Nat) (gs cs : Nat), s.stack = st ∧ vm = .int .i64 (s.met : Int) ∧ vk = .int .i64 (s.kids : Int) ∧ vs = .slice (some ⟨gs, 0, none⟩) st.length cs ∧
  CM wr w.heap.size gn gl gu ga w.heap.size gs cs n s.num s.low s.up s.at_ s.cut st ∧ Below w.heap.size w wr ∧ CT n bs gone root s ∧ CL n bs gone root s ∧ 2 * restS n bs s.at_ + st.length ≤ q ∧ s.kids + 2 * restS n bs s.at_ + st.length ≤ 200000001)
 case atStart =>
  have h1 := Hsum.out
  exact ⟨CS.start root, [root], w2.heap.size, 1, rfl, rfl, rfl, rfl, hm1, hB3, CT.start Hpres.out, CL.start, Nat.le_refl _, by show 0 + 2 * restS n bs (fun _ => 0) + 1 ≤ _; omega⟩
 case round =>
  clear hm1 hB3 f1 f2 f3 f4
  obtain ⟨s, st, gs, cs, hst, rfl, rfl, rfl, hm, hb, hT, hL, hq, hk⟩ := hrel
  have hmet := hT.met_le
  cases st with
  | nil =>
   have hend := cut_end hT hL Hsy.out hst left Hleft.out; have Hend := Lib.hid hend; have Hst := Lib.hid hst; clear hend hst hT hL; have hrc := hm.rc; have c1 := hrc.atB hrn0; have c2 := hrc.frozen root; have hrc' := hrc.set root (.bool (decide (1 < s.kids))); rw [rowB_set] at hrc'; have e1 : decide ((1 : Int) < (s.kids : Int)) = decide (1 < s.kids) := by rw [decide_eq_decide]; omega
   have e2 : ((s.met : Int) == (left : Int)) = decide (s.met = left) := by rw [Bool.eq_iff_iff]; simp; omega
   have E1 := Lib.hid e1; have E2 := Lib.hid e2; clear e1 e2 hm; go_wp2_with fail; go_ret2; refine ⟨decide (s.met = left), upd s.cut root (decide (1 < s.kids)), w.heap.size, by rw [E2.out] <;> rfl, ?_, Nat.le_refl _, hb.setCell (by simp) _, Hend.out⟩; rw [E1.out]; exact hrc'
  | cons v r =>
   have hvs : v ∈ s.stack := by rw [hst]; simp
   have hvz := hT.stV v hvs; have hvn : v < n := (hT.numP v hvz).1; have hta := hT.atLe v; have hlv := Hlen.out v hvn; have c1 : wr.cell? ⟨gs, r.length, none⟩ = some (.int .i64 v) := by rw [hm.rs.cell? r.length (by simp)]; simp [vN]
   obtain ⟨au, cu, c2, hau⟩ := (hG.below hb) v hvn; have c3 := hm.ra.atN hvn; have hrl : r.length ≤ 200000001 := by simp only [List.length_cons] at hk; omega
   have iv0 : (0 : Int) ≤ (v : Int) := by omega
   have iv1 : (v : Int) < (n : Int) := by omega
   have ir2 : (0 : Int) ≤ (r.length : Int) := by omega
   by_cases hlt : s.at_ v < (bs v).length
   ·
    obtain ⟨x, hx⟩ : ∃ x, (bs v)[s.at_ v]? = some x := ⟨(bs v)[s.at_ v], by simp⟩
    have hxn : x < n := Hbs.out v hvn x (List.mem_of_getElem? hx); obtain ⟨b, o, rfl, c4⟩ := hau (s.at_ v) (vN x) (by simp [hx]); simp only [vN] at c4; have it0 : (0 : Int) ≤ (s.at_ v : Int) := by omega
    have it1 : (s.at_ v : Int) < ((bs v).length : Int) := by omega
    have ix0 : (0 : Int) ≤ (x : Int) := by omega
    have ix1 : (x : Int) < (n : Int) := by omega
    have hrest := restS_inc hvn hlt; have Hrest := Lib.hid hrest; have Hx := Lib.hid hx; have Hst := Lib.hid hst; have Hq := Lib.hid hq; have Hk := Lib.hid hk; clear hrest hx hst hq hk hau; go_wp2_with fail; go_quiet (fail)
    go_wp2_with fail; go_quiet (fail)
    go_upto_region 19 with (fail)
    generalize hN : World.drewN _ _ = wd; have hbd : Below wr.heap.size wr wd := by subst hN; exact below_drewN (below_drewN (Below.refl _ _) _) _
    clear hN; replace hm := hm.ext hbd; replace hb := bl_trans hb hbd; replace c3 := keep_cell hbd c3; have f3 := hm.ra.frozen v; clear hbd c1 c2 c4; have hmT := hm.set_at v (s.at_ v + 1); rw [show vN (s.at_ v + 1) = Value.int .i64 ((s.at_ v : Int) + 1) by simp [vN]] at hmT; have hbT : Below w.heap.size w (wd.setCell ⟨ga, v, none⟩ (Value.int .i64 ((s.at_ v : Int) + 1))) := hb.setCell (by simpa using hm.lo.2.2.2.1) _; go_upto_region 20 with (fail)
    generalize wd.setCell ⟨ga, v, none⟩ (Value.int .i64 ((s.at_ v : Int) + 1)) = wt at hmT hbT ⊢; clear hm hb c3 f3; by_cases hgone : (x : Int) = gone
    ·
     have g1 : ((x : Int) == gone) = true := by simpa using hgone
     have Hgone := Lib.hid hgone; clear hgone; go_wp2_with fail; go_roundg (gk - 1)
     case measure => have := Hq.out; have := Hrest.out; omega
     case rel =>
      have h1 := Hq.out; have h2 := Hrest.out; have h3 := Hk.out
      exact ⟨s.skip v, v :: r, gs, cs, Hst.out, rfl, rfl, rfl, hmT, hbT, hT.skipLike Hst.out Hx.out (fun hp => absurd Hgone.out hp.2) s.low, hL.skip Hx.out (fun hp => hp.2 Hgone.out),
       by show 2 * restS n bs (upd s.at_ v (s.at_ v + 1)) + _ ≤ _; omega, by show s.kids + 2 * restS n bs (upd s.at_ v (s.at_ v + 1)) + _ ≤ _; omega⟩
    ·
     have g1 : ((x : Int) == gone) = false := by simpa using hgone
     have hpx : Pres n gone x := ⟨hxn, hgone⟩
     have Hpx := Lib.hid hpx; clear hgone hpx; by_cases hnum : s.num x = 0
     ·
      have c5 : wt.cell? ⟨gn, x, none⟩ = some (.int .i64 0) := by rw [hmT.rn.atN hxn, hnum]; rfl
      have f5 := hmT.rn.frozen x; have Hnum := Lib.hid hnum; clear hnum; have hm1 := hmT.set_num x (s.met + 1); have hm2 := hm1.set_low x (s.met + 1); have hm3 := hm2.set_up x v; have ev : vN (s.met + 1) = Value.int .i64 ((s.met : Int) + 1) := by simp [vN]
      rw [ev] at hm1 hm2 hm3; have c6 := hm1.rl.atN hxn; have f6 := hm1.rl.frozen x; have c7 := hm2.ru.atN hxn; have f7 := hm2.ru.frozen x; have hb3 : Below w.heap.size w (((wt.setCell ⟨gn, x, none⟩ (.int .i64 ((s.met : Int) + 1))).setCell ⟨gl, x, none⟩ (.int .i64 ((s.met : Int) + 1))).setCell ⟨gu, x, none⟩ (vN v)) :=
       ((hbT.setCell (by simpa using hmT.lo.1) _).setCell (by simpa using hmT.lo.2.1) _).setCell (by simpa using hmT.lo.2.2.1) _
      clear ev hm1 hm2 hmT hbT; unfold vN at hm3 hb3; go_upto_region 24 with (fail)
      generalize ((wt.setCell ⟨gn, x, none⟩ (.int .i64 ((s.met : Int) + 1))).setCell ⟨gl, x, none⟩ (.int .i64 ((s.met : Int) + 1))).setCell ⟨gu, x, none⟩ (.int .i64 (v : Int)) = ws at hm3 hb3 ⊢; clear c5 f5 c6 f6 c7 f7; have hown := (hm3.ext (bl_alloc ws (.cells #[.int .i64 x] 3))).rs.own1; rw [List.length_map, List.length_reverse] at hown; go_wp2_with (at_builtin; refine wpList_append_row _ rfl (.tmp 107) (.tmp 109) 33 rfl 3 (.int .i64 0) 1 8 Tryz.underlying33 int_info rfl _ _ _ rfl hown ⟨ws.heap.size, 0, none⟩ 1 1 [.int .i64 x] rfl rfl (one_new (by simp)) (one_ok _ _) (by omega) (by unfold maxLen; simp; omega) (by simp; omega) ?_); intro g2 c2 w3 hr2 hc2 hgr2 hor2; have hm4 := (hm3.ext (bl_alloc ws (.cells #[.int .i64 x] 3))).push (x := x) (g' := g2) (c' := c2) (by simpa [vN] using hr2) hgr2 (hor2.imp id (fun h => by simpa using h)); have hb4 : Below w.heap.size w w3 := (bl_trans hb3 (bl_alloc _ _)).grown hgr2 (by simp; have := hb3.size; omega) (fun k hk => by cases hk; exact hm3.lo.2.2.2.2.2); clear hm3 hb3 hr2 hgr2 hor2 hown; go_wp2_with fail; go_roundg (gk - 1)
      case measure => have := Hq.out; have := Hrest.out; omega
      case rel =>
       have h1 := Hq.out; have h2 := Hrest.out; have h3 := Hk.out; simp only [List.length_cons] at h1 h3
       exact ⟨s.disc v x, x :: v :: r, g2, c2, by show x :: s.stack = _; rw [Hst.out], by show _ = Value.int .i64 ((s.met + 1 : Nat) : Int); simp, rfl, by simp, hm4, hb4, hT.disc Hst.out Hx.out Hpx.out Hnum.out, hL.disc hT Hst.out Hx.out Hpx.out Hnum.out,
        by show 2 * restS n bs (upd s.at_ v (s.at_ v + 1)) + _ ≤ _; simp only [List.length_cons]; omega, by show s.kids + 2 * restS n bs (upd s.at_ v (s.at_ v + 1)) + _ ≤ _; simp only [List.length_cons]; omega⟩
     ·
      have c5 := hmT.rn.atN hxn; have c6 := hmT.rl.atN hvn; have f6 := hmT.rl.frozen v; have g2 : ((s.num x : Int) == 0) = false := by simpa using hnum
      have Hnum := Lib.hid hnum; clear hnum; clear it0 it1 ir2; by_cases hmin : s.num x < s.low v
      ·
       skip; have em : min (s.low v) (s.num x) = s.num x := (Nat.min_eq_right (Nat.le_of_lt hmin))
       have hmS := (hmT.set_low v (s.num x)).ext (bl_refl _).drew; have hbS : Below w.heap.size w ((wt.setCell ⟨gl, v, none⟩ (vN (s.num x))).drew) := (hbT.setCell (by simpa using hmT.lo.2.1) _).drew; unfold vN at hmS hbS; have Hem := Lib.hid em; clear em; go_upto_region 25 with (fail)
       refine regionT (fun w' => w'.cell? ⟨gl, v, none⟩ = some (.int .i64 (s.low v : Int)) ∧ w'.cell? ⟨gn, x, none⟩ = some (.int .i64 (s.num x : Int))) 12 (by kernel_rfl) ?_; have hS : wt.drew.cell? ⟨gl, v, none⟩ = some (.int .i64 (s.low v : Int)) ∧ wt.drew.cell? ⟨gn, x, none⟩ = some (.int .i64 (s.num x : Int)) := ⟨c6, c5⟩
       refine tkT 0 ?_ rfl hS ?_ ?_ (by kernel_rfl) (fun _ _ _ h => h) (by rfl); rotate_left; (· intro wS hSw; (try dsimp only at hSw); go_simp; try with_reducible rfl); simp only [Act.put, zA, z0, z1]; refine tkT 1 ?_ rfl hS ?_ ?_ (by kernel_rfl) (fun _ _ _ h => h) (by rfl); rotate_left; (· intro wS hSw; (try dsimp only at hSw); go_simp; try with_reducible rfl); simp only [Act.put, zA, z0, z1]; refine tkT 2 ?_ rfl hS ?_ ?_ (by kernel_rfl) (fun _ _ _ h => h) (by rfl); rotate_left; (· intro wS hSw; (try dsimp only at hSw); go_simp; try with_reducible rfl); simp only [Act.put, zA, z0, z1]; refine tkT 3 ?_ rfl hS ?_ ?_ (by kernel_rfl) (fun _ _ _ h => h) (by rfl); rotate_left; (· intro wS hSw; (try dsimp only at hSw); go_simp; try with_reducible rfl); simp only [Act.put, zA, z0, z1]; refine tkT 4 ?_ rfl hS ?_ ?_ (by kernel_rfl) (fun _ _ _ h => h) (by rfl); rotate_left; (· intro wS hSw; (try dsimp only at hSw); go_simp; try with_reducible rfl); simp only [Act.put, zA, z0, z1]; refine tkT 5 ?_ rfl hS ?_ ?_ (by kernel_rfl) (fun _ _ _ h => h) (by rfl); rotate_left; (· intro wS hSw; (try dsimp only at hSw); go_simp; try with_reducible rfl); simp only [Act.put, zA, z0, z1]; refine tkT 6 ?_ rfl hS ?_ ?_ (by kernel_rfl) (fun _ _ _ h => h) (by rfl); rotate_left; (· intro wS hSw; (try dsimp only at hSw); go_simp; try with_reducible rfl); simp only [Act.put, zA, z0, z1]; refine tkT 7 ?_ rfl hS ?_ ?_ (by kernel_rfl) (fun _ _ _ h => h) (by rfl); rotate_left; (· intro wS hSw; (try dsimp only at hSw); go_simp; try with_reducible rfl); simp only [Act.put, zA, z0, z1]
       refine tkT 8 ?_ rfl hS ?_ ?_ (by kernel_rfl) (fun _ _ _ h => h) (by rfl); rotate_left; (· intro wS hSw; (try dsimp only at hSw); go_simp; try with_reducible rfl); simp only [Act.put, zA, z0, z1]; refine tkT 9 ?_ rfl hS ?_ ?_ (by kernel_rfl) (fun _ _ _ h => h) (by rfl); rotate_left; (· intro wS hSw; (try dsimp only at hSw); go_simp; try with_reducible rfl); simp only [Act.put, zA, z0, z1]; refine tkT 10 ?_ rfl hS ?_ ?_ (by kernel_rfl) (fun _ _ _ h => h) (by rfl); rotate_left; (· intro wS hSw; (try dsimp only at hSw); go_simp; try with_reducible rfl); simp only [Act.put, zA, z0, z1]; refine tkT 11 ?_ rfl hS ?_ ?_ (by kernel_rfl) (fun _ _ _ h => h) (by rfl); rotate_left; (· intro wS hSw; (try dsimp only at hSw); go_simp; try with_reducible rfl); simp only [Act.put, zA, z0, z1]; refine oneT (i := 12) rfl (by kernel_rfl) (fun K hK => ?_); go_simp; try rw [show min ((s.low v : Nat) : Int) ((s.num x : Nat) : Int) = ((s.num x : Nat) : Int) from by omega]
       refine hK _ _ (fun h => absurd h (by omega)) ?_; clear hK K; refine doneT (by kernel_rfl) ?_ _; go_wp2_with fail; go_roundg (gk - 1)
       case measure => have := Hq.out; have := Hrest.out; omega
       case rel =>
        have h1 := Hq.out; have h2 := Hrest.out; have h3 := Hk.out; have hT2 := hT.skipLike Hst.out Hx.out (fun _ => Hnum.out) (upd s.low v (min (s.low v) (s.num x))); have hL2 := hL.exam hT Hst.out Hx.out Hnum.out; have he : s.exam v x = { s with at_ := upd s.at_ v (s.at_ v + 1), low := upd s.low v (s.num x) } := by unfold CS.exam; rw [Hem.out]
        rw [Hem.out] at hT2; rw [he] at hL2
        exact ⟨{ s with at_ := upd s.at_ v (s.at_ v + 1), low := upd s.low v (s.num x) }, v :: r, gs, cs, Hst.out, rfl, rfl, rfl, hmS, hbS, hT2, hL2,
         by show 2 * restS n bs (upd s.at_ v (s.at_ v + 1)) + _ ≤ _; omega, by show s.kids + 2 * restS n bs (upd s.at_ v (s.at_ v + 1)) + _ ≤ _; omega⟩
      ·
       skip; have em : min (s.low v) (s.num x) = s.low v := (Nat.min_eq_left (Nat.le_of_not_lt hmin))
       have hmS := (hmT.set_low v (s.low v)).ext (bl_refl _).drew; have hbS : Below w.heap.size w ((wt.setCell ⟨gl, v, none⟩ (vN (s.low v))).drew) := (hbT.setCell (by simpa using hmT.lo.2.1) _).drew; unfold vN at hmS hbS; have Hem := Lib.hid em; clear em; go_upto_region 25 with (fail)
       refine regionT (fun w' => w'.cell? ⟨gl, v, none⟩ = some (.int .i64 (s.low v : Int)) ∧ w'.cell? ⟨gn, x, none⟩ = some (.int .i64 (s.num x : Int))) 12 (by kernel_rfl) ?_; have hS : wt.drew.cell? ⟨gl, v, none⟩ = some (.int .i64 (s.low v : Int)) ∧ wt.drew.cell? ⟨gn, x, none⟩ = some (.int .i64 (s.num x : Int)) := ⟨c6, c5⟩
       refine tkT 0 ?_ rfl hS ?_ ?_ (by kernel_rfl) (fun _ _ _ h => h) (by rfl); rotate_left; (· intro wS hSw; (try dsimp only at hSw); go_simp; try with_reducible rfl); simp only [Act.put, zA, z0, z1]; refine tkT 1 ?_ rfl hS ?_ ?_ (by kernel_rfl) (fun _ _ _ h => h) (by rfl); rotate_left; (· intro wS hSw; (try dsimp only at hSw); go_simp; try with_reducible rfl); simp only [Act.put, zA, z0, z1]; refine tkT 2 ?_ rfl hS ?_ ?_ (by kernel_rfl) (fun _ _ _ h => h) (by rfl); rotate_left; (· intro wS hSw; (try dsimp only at hSw); go_simp; try with_reducible rfl); simp only [Act.put, zA, z0, z1]; refine tkT 3 ?_ rfl hS ?_ ?_ (by kernel_rfl) (fun _ _ _ h => h) (by rfl); rotate_left; (· intro wS hSw; (try dsimp only at hSw); go_simp; try with_reducible rfl); simp only [Act.put, zA, z0, z1]; refine tkT 4 ?_ rfl hS ?_ ?_ (by kernel_rfl) (fun _ _ _ h => h) (by rfl); rotate_left; (· intro wS hSw; (try dsimp only at hSw); go_simp; try with_reducible rfl); simp only [Act.put, zA, z0, z1]; refine tkT 5 ?_ rfl hS ?_ ?_ (by kernel_rfl) (fun _ _ _ h => h) (by rfl); rotate_left; (· intro wS hSw; (try dsimp only at hSw); go_simp; try with_reducible rfl); simp only [Act.put, zA, z0, z1]; refine tkT 6 ?_ rfl hS ?_ ?_ (by kernel_rfl) (fun _ _ _ h => h) (by rfl); rotate_left; (· intro wS hSw; (try dsimp only at hSw); go_simp; try with_reducible rfl); simp only [Act.put, zA, z0, z1]; refine tkT 7 ?_ rfl hS ?_ ?_ (by kernel_rfl) (fun _ _ _ h => h) (by rfl); rotate_left; (· intro wS hSw; (try dsimp only at hSw); go_simp; try with_reducible rfl); simp only [Act.put, zA, z0, z1]
       refine tkT 8 ?_ rfl hS ?_ ?_ (by kernel_rfl) (fun _ _ _ h => h) (by rfl); rotate_left; (· intro wS hSw; (try dsimp only at hSw); go_simp; try with_reducible rfl); simp only [Act.put, zA, z0, z1]; refine tkT 9 ?_ rfl hS ?_ ?_ (by kernel_rfl) (fun _ _ _ h => h) (by rfl); rotate_left; (· intro wS hSw; (try dsimp only at hSw); go_simp; try with_reducible rfl); simp only [Act.put, zA, z0, z1]; refine tkT 10 ?_ rfl hS ?_ ?_ (by kernel_rfl) (fun _ _ _ h => h) (by rfl); rotate_left; (· intro wS hSw; (try dsimp only at hSw); go_simp; try with_reducible rfl); simp only [Act.put, zA, z0, z1]; refine tkT 11 ?_ rfl hS ?_ ?_ (by kernel_rfl) (fun _ _ _ h => h) (by rfl); rotate_left; (· intro wS hSw; (try dsimp only at hSw); go_simp; try with_reducible rfl); simp only [Act.put, zA, z0, z1]; refine oneT (i := 12) rfl (by kernel_rfl) (fun K hK => ?_); go_simp; try rw [show min ((s.low v : Nat) : Int) ((s.num x : Nat) : Int) = ((s.low v : Nat) : Int) from by omega]
       refine hK _ _ (fun h => absurd h (by omega)) ?_; clear hK K; refine doneT (by kernel_rfl) ?_ _; go_wp2_with fail; go_roundg (gk - 1)
       case measure => have := Hq.out; have := Hrest.out; omega
       case rel =>
        have h1 := Hq.out; have h2 := Hrest.out; have h3 := Hk.out; have hT2 := hT.skipLike Hst.out Hx.out (fun _ => Hnum.out) (upd s.low v (min (s.low v) (s.num x))); have hL2 := hL.exam hT Hst.out Hx.out Hnum.out; have he : s.exam v x = { s with at_ := upd s.at_ v (s.at_ v + 1), low := upd s.low v (s.low v) } := by unfold CS.exam; rw [Hem.out]
        rw [Hem.out] at hT2; rw [he] at hL2
        exact ⟨{ s with at_ := upd s.at_ v (s.at_ v + 1), low := upd s.low v (s.low v) }, v :: r, gs, cs, Hst.out, rfl, rfl, rfl, hmS, hbS, hT2, hL2,
         by show 2 * restS n bs (upd s.at_ v (s.at_ v + 1)) + _ ≤ _; omega, by show s.kids + 2 * restS n bs (upd s.at_ v (s.at_ v + 1)) + _ ≤ _; omega⟩
   ·
    have hfull : s.at_ v = (bs v).length := by omega
    have hcp : r.length + 1 ≤ cs := by have := hm.rs.len_le; simpa using this
    have hcp2 : (r.length : Int) ≤ (cs : Int) := by omega
    have Hfull := Lib.hid hfull; have Hst := Lib.hid hst; have Hq := Lib.hid hq; have Hk := Lib.hid hk; clear hfull hst hq hk hau; go_wp2_with fail; go_quiet (fail)
    go_upto_region 27 with (fail)
    generalize hN : World.drewN _ _ = wd; have hbd : Below wr.heap.size wr wd := by subst hN; exact below_drewN (Below.refl _ _) _
    clear hN; replace hm := (hm.ext hbd).pop; replace hb := bl_trans hb hbd; clear hbd c1 c2 c3; by_cases hroot : v = root
    ·
     subst hroot; have hr : r = [] := by
      cases r with
      | nil => rfl
      | cons u r' =>
       have h1 := hT.stS; rw [Hst.out] at h1; have h2 := (List.pairwise_cons.1 h1).1 u (by simp); have h3 := hT.stV u (by rw [Hst.out]; simp); have := hT.root1; omega
     subst hr; have e : s.drop = { s with stack := [], low := s.low, kids := s.kids, cut := s.cut } := by unfold CS.drop; rw [Hst.out]; rfl
     have hT2 := hT.popLike Hst.out Hfull.out s.low s.kids s.cut; rw [← e] at hT2; have hL2 := hL.drop Hst.out; have He := Lib.hid e; clear e; have g1 : ((v : Int) == (v : Int)) = true := by simp
     go_wp2_with fail; go_roundg (gk - 1)
     case measure => have := Hq.out; simp at this; omega
     case rel =>
      have h1 := Hq.out; have h3 := Hk.out; simp only [List.length_cons, List.length_nil] at h1 h3; exact ⟨s.drop, [], gs, cs, by show s.stack.tail = _; rw [Hst.out]; rfl, rfl, rfl, rfl, hm, hb, hT2, hL2, by show 2 * restS n bs s.at_ + _ ≤ _; simp only [List.length_nil]; omega, by show s.kids + 2 * restS n bs s.at_ + _ ≤ _; simp only [List.length_nil]; omega⟩
    ·
     obtain ⟨u, r', rfl, hup, huv⟩ := hT.two Hst.out hroot; have hus : u ∈ s.stack := by rw [Hst.out]; simp
     have hun : u < n := (hT.numP u (hT.stV u hus)).1; have hneq : u ≠ v := fun e => by subst e; omega
     have g1 : ((v : Int) == (root : Int)) = false := by simp; omega
     have c4 : wd.cell? ⟨gu, v, none⟩ = some (.int .i64 (u : Int)) := by rw [hm.ru.atN hvn, hup]
     have c5 := hm.rl.atN hvn; have c6 := hm.rl.atN hun; have f6 := hm.rl.frozen u; have iu0 : (0 : Int) ≤ (u : Int) := by omega
     have iu1 : (u : Int) < (n : Int) := by omega
     have hT2 := hT.popLike Hst.out Hfull.out (upd s.low u (min (s.low u) (s.low v))) (if u = root then s.kids + 1 else s.kids) (if u ≠ root ∧ s.num u ≤ s.low v then upd s.cut u true else s.cut); have e : s.pop v u root = { s with stack := u :: r', low := upd s.low u (min (s.low u) (s.low v)), kids := if u = root then s.kids + 1 else s.kids, cut := if u ≠ root ∧ s.num u ≤ s.low v then upd s.cut u true else s.cut } := by unfold CS.pop; rw [Hst.out]; rfl
     have hL2 := hL.pop hT Hsy.out Hst.out Hfull.out; have Hup := Lib.hid hup; clear hroot hup; simp only [List.length_cons] at hcp hcp2 hrl ir2; by_cases hmin : s.low v < s.low u
     ·
      skip; have em : min (s.low u) (s.low v) = s.low v := (Nat.min_eq_right (Nat.le_of_lt hmin))
      rw [em] at hT2 e; rw [← e] at hT2; have Hem := Lib.hid em; clear em; have hmS := (hm.set_low u (s.low v)).ext (bl_refl _).drew; have hbS : Below w.heap.size w ((wd.setCell ⟨gl, u, none⟩ (vN (s.low v))).drew) := (hb.setCell (by simpa using hm.lo.2.1) _).drew; have hstk : (s.pop v u root).stack = u :: r' := by rw [e]
      unfold vN at hmS hbS; have Hstk := Lib.hid hstk; have He := Lib.hid e; clear e hstk; go_upto_region 29 with (fail)
      refine regionT (fun w' => w'.cell? ⟨gl, u, none⟩ = some (.int .i64 (s.low u : Int)) ∧ w'.cell? ⟨gl, v, none⟩ = some (.int .i64 (s.low v : Int))) 12 (by kernel_rfl) ?_; have hS : wd.drew.cell? ⟨gl, u, none⟩ = some (.int .i64 (s.low u : Int)) ∧ wd.drew.cell? ⟨gl, v, none⟩ = some (.int .i64 (s.low v : Int)) := ⟨c6, c5⟩
      refine tkT 0 ?_ rfl hS ?_ ?_ (by kernel_rfl) (fun _ _ _ h => h) (by rfl); rotate_left; (· intro wS hSw; (try dsimp only at hSw); go_simp; try with_reducible rfl); simp only [Act.put, zA, z0, z1]; refine tkT 1 ?_ rfl hS ?_ ?_ (by kernel_rfl) (fun _ _ _ h => h) (by rfl); rotate_left; (· intro wS hSw; (try dsimp only at hSw); go_simp; try with_reducible rfl); simp only [Act.put, zA, z0, z1]; refine tkT 2 ?_ rfl hS ?_ ?_ (by kernel_rfl) (fun _ _ _ h => h) (by rfl); rotate_left; (· intro wS hSw; (try dsimp only at hSw); go_simp; try with_reducible rfl); simp only [Act.put, zA, z0, z1]; refine tkT 3 ?_ rfl hS ?_ ?_ (by kernel_rfl) (fun _ _ _ h => h) (by rfl); rotate_left; (· intro wS hSw; (try dsimp only at hSw); go_simp; try with_reducible rfl); simp only [Act.put, zA, z0, z1]; refine tkT 4 ?_ rfl hS ?_ ?_ (by kernel_rfl) (fun _ _ _ h => h) (by rfl); rotate_left; (· intro wS hSw; (try dsimp only at hSw); go_simp; try with_reducible rfl); simp only [Act.put, zA, z0, z1]; refine tkT 5 ?_ rfl hS ?_ ?_ (by kernel_rfl) (fun _ _ _ h => h) (by rfl); rotate_left; (· intro wS hSw; (try dsimp only at hSw); go_simp; try with_reducible rfl); simp only [Act.put, zA, z0, z1]; refine tkT 6 ?_ rfl hS ?_ ?_ (by kernel_rfl) (fun _ _ _ h => h) (by rfl); rotate_left; (· intro wS hSw; (try dsimp only at hSw); go_simp; try with_reducible rfl); simp only [Act.put, zA, z0, z1]; refine tkT 7 ?_ rfl hS ?_ ?_ (by kernel_rfl) (fun _ _ _ h => h) (by rfl); rotate_left; (· intro wS hSw; (try dsimp only at hSw); go_simp; try with_reducible rfl); simp only [Act.put, zA, z0, z1]
      refine tkT 8 ?_ rfl hS ?_ ?_ (by kernel_rfl) (fun _ _ _ h => h) (by rfl); rotate_left; (· intro wS hSw; (try dsimp only at hSw); go_simp; try with_reducible rfl); simp only [Act.put, zA, z0, z1]; refine tkT 9 ?_ rfl hS ?_ ?_ (by kernel_rfl) (fun _ _ _ h => h) (by rfl); rotate_left; (· intro wS hSw; (try dsimp only at hSw); go_simp; try with_reducible rfl); simp only [Act.put, zA, z0, z1]; refine tkT 10 ?_ rfl hS ?_ ?_ (by kernel_rfl) (fun _ _ _ h => h) (by rfl); rotate_left; (· intro wS hSw; (try dsimp only at hSw); go_simp; try with_reducible rfl); simp only [Act.put, zA, z0, z1]; refine tkT 11 ?_ rfl hS ?_ ?_ (by kernel_rfl) (fun _ _ _ h => h) (by rfl); rotate_left; (· intro wS hSw; (try dsimp only at hSw); go_simp; try with_reducible rfl); simp only [Act.put, zA, z0, z1]; refine oneT (i := 12) rfl (by kernel_rfl) (fun K hK => ?_); go_simp; try rw [show min ((s.low u : Nat) : Int) ((s.low v : Nat) : Int) = ((s.low v : Nat) : Int) from by omega]
      refine hK _ _ (fun h => absurd h (by omega)) ?_; clear hK K hS; refine doneT (by kernel_rfl) ?_ _; generalize (wd.setCell ⟨gl, u, none⟩ (.int .i64 ((s.low v : Nat) : Int))).drew = ws at hmS hbS ⊢; by_cases hur : u = root
      ·
       have g3 : ((u : Int) == (root : Int)) = true := by simp [hur]
       have ep : s.pop v u root = { s with stack := u :: r', low := upd s.low u (s.low v), kids := s.kids + 1, cut := s.cut } := by rw [He.out, if_pos hur, if_neg (fun h => h.1 hur)]
       rw [ep] at hT2 hL2; have hk3 : s.kids + 1 ≤ 200000001 := by have := Hk.out; simp only [List.length_cons] at this; omega
       clear ep hur c4 c5 c6 f6; go_wp2_with fail; go_roundg (gk - 1)
       case measure => have := Hq.out; simp only [List.length_cons] at this; omega
       case rel =>
        have h1 := Hq.out; have h3 := Hk.out; simp only [List.length_cons] at h1 h3; exact ⟨{ s with stack := u :: r', low := upd s.low u (s.low v), kids := s.kids + 1, cut := s.cut }, u :: r', gs, cs, rfl, rfl, by simp, by simp, hmS, hbS, hT2, hL2, by simp only [List.length_cons]; omega, by simp only [List.length_cons]; omega⟩
      ·
       have g3 : ((u : Int) == (root : Int)) = false := by simp; omega
       have q1 := hmS.rl.atN hvn; rw [upd_ne _ _ hneq.symm] at q1; have q2 := hmS.rn.atN hun; have q3 := hmS.rc.atB hun; have q4 := hmS.rc.frozen u; by_cases hle : s.num u ≤ s.low v
       ·
        have ep : s.pop v u root = { s with stack := u :: r', low := upd s.low u (s.low v), kids := s.kids, cut := upd s.cut u true } := by rw [He.out, if_neg hur, if_pos ⟨hur, hle⟩]
        rw [ep] at hT2 hL2; have g4 : decide ((s.num u : Int) ≤ (s.low v : Int)) = true := by simpa using hle
        have hbd : ∀ k, Below ws.heap.size ws (ws.drewN k) := fun k => below_drewN (bl_refl _) k; clear ep hur c4 c5 c6 f6; go_wp2_with fail; go_quiet (fail)
        go_wp2_with fail; go_roundg (gk - 1)
        case measure => have := Hq.out; simp only [List.length_cons] at this; omega
        case rel =>
         have h1 := Hq.out; have h3 := Hk.out; simp only [List.length_cons] at h1 h3; exact ⟨{ s with stack := u :: r', low := upd s.low u (s.low v), kids := s.kids, cut := upd s.cut u true }, u :: r', gs, cs, rfl, rfl, rfl, by simp, (hmS.ext (hbd _)).set_cut u true, (bl_trans hbS (hbd _)).setCell (by simp) _, hT2, hL2, by simp only [List.length_cons]; omega, by simp only [List.length_cons]; omega⟩
       ·
        have ep : s.pop v u root = { s with stack := u :: r', low := upd s.low u (s.low v), kids := s.kids, cut := s.cut } := by rw [He.out, if_neg hur, if_neg (fun h => hle h.2)]
        rw [ep] at hT2 hL2; have g4 : decide ((s.num u : Int) ≤ (s.low v : Int)) = false := by simp; omega
        clear ep hur c4 c5 c6 f6; go_wp2_with fail; go_quiet (fail)
        go_wp2_with fail; go_roundg (gk - 1)
        case measure => have := Hq.out; simp only [List.length_cons] at this; omega
        case rel =>
         have h1 := Hq.out; have h3 := Hk.out; simp only [List.length_cons] at h1 h3; exact ⟨{ s with stack := u :: r', low := upd s.low u (s.low v), kids := s.kids, cut := s.cut }, u :: r', gs, cs, rfl, rfl, rfl, by simp, hmS.ext (below_drewN (bl_refl _) _), below_drewN hbS _, hT2, hL2, by simp only [List.length_cons]; omega, by simp only [List.length_cons]; omega⟩
     ·
      skip; have em : min (s.low u) (s.low v) = s.low u := (Nat.min_eq_left (Nat.le_of_not_lt hmin))
      rw [em] at hT2 e; rw [← e] at hT2; have Hem := Lib.hid em; clear em; have hmS := (hm.set_low u (s.low u)).ext (bl_refl _).drew; have hbS : Below w.heap.size w ((wd.setCell ⟨gl, u, none⟩ (vN (s.low u))).drew) := (hb.setCell (by simpa using hm.lo.2.1) _).drew; have hstk : (s.pop v u root).stack = u :: r' := by rw [e]
      unfold vN at hmS hbS; have Hstk := Lib.hid hstk; have He := Lib.hid e; clear e hstk; go_upto_region 29 with (fail)
      refine regionT (fun w' => w'.cell? ⟨gl, u, none⟩ = some (.int .i64 (s.low u : Int)) ∧ w'.cell? ⟨gl, v, none⟩ = some (.int .i64 (s.low v : Int))) 12 (by kernel_rfl) ?_; have hS : wd.drew.cell? ⟨gl, u, none⟩ = some (.int .i64 (s.low u : Int)) ∧ wd.drew.cell? ⟨gl, v, none⟩ = some (.int .i64 (s.low v : Int)) := ⟨c6, c5⟩
      refine tkT 0 ?_ rfl hS ?_ ?_ (by kernel_rfl) (fun _ _ _ h => h) (by rfl); rotate_left; (· intro wS hSw; (try dsimp only at hSw); go_simp; try with_reducible rfl); simp only [Act.put, zA, z0, z1]; refine tkT 1 ?_ rfl hS ?_ ?_ (by kernel_rfl) (fun _ _ _ h => h) (by rfl); rotate_left; (· intro wS hSw; (try dsimp only at hSw); go_simp; try with_reducible rfl); simp only [Act.put, zA, z0, z1]; refine tkT 2 ?_ rfl hS ?_ ?_ (by kernel_rfl) (fun _ _ _ h => h) (by rfl); rotate_left; (· intro wS hSw; (try dsimp only at hSw); go_simp; try with_reducible rfl); simp only [Act.put, zA, z0, z1]; refine tkT 3 ?_ rfl hS ?_ ?_ (by kernel_rfl) (fun _ _ _ h => h) (by rfl); rotate_left; (· intro wS hSw; (try dsimp only at hSw); go_simp; try with_reducible rfl); simp only [Act.put, zA, z0, z1]; refine tkT 4 ?_ rfl hS ?_ ?_ (by kernel_rfl) (fun _ _ _ h => h) (by rfl); rotate_left; (· intro wS hSw; (try dsimp only at hSw); go_simp; try with_reducible rfl); simp only [Act.put, zA, z0, z1]; refine tkT 5 ?_ rfl hS ?_ ?_ (by kernel_rfl) (fun _ _ _ h => h) (by rfl); rotate_left; (· intro wS hSw; (try dsimp only at hSw); go_simp; try with_reducible rfl); simp only [Act.put, zA, z0, z1]; refine tkT 6 ?_ rfl hS ?_ ?_ (by kernel_rfl) (fun _ _ _ h => h) (by rfl); rotate_left; (· intro wS hSw; (try dsimp only at hSw); go_simp; try with_reducible rfl); simp only [Act.put, zA, z0, z1]; refine tkT 7 ?_ rfl hS ?_ ?_ (by kernel_rfl) (fun _ _ _ h => h) (by rfl); rotate_left; (· intro wS hSw; (try dsimp only at hSw); go_simp; try with_reducible rfl); simp only [Act.put, zA, z0, z1]
      refine tkT 8 ?_ rfl hS ?_ ?_ (by kernel_rfl) (fun _ _ _ h => h) (by rfl); rotate_left; (· intro wS hSw; (try dsimp only at hSw); go_simp; try with_reducible rfl); simp only [Act.put, zA, z0, z1]; refine tkT 9 ?_ rfl hS ?_ ?_ (by kernel_rfl) (fun _ _ _ h => h) (by rfl); rotate_left; (· intro wS hSw; (try dsimp only at hSw); go_simp; try with_reducible rfl); simp only [Act.put, zA, z0, z1]; refine tkT 10 ?_ rfl hS ?_ ?_ (by kernel_rfl) (fun _ _ _ h => h) (by rfl); rotate_left; (· intro wS hSw; (try dsimp only at hSw); go_simp; try with_reducible rfl); simp only [Act.put, zA, z0, z1]; refine tkT 11 ?_ rfl hS ?_ ?_ (by kernel_rfl) (fun _ _ _ h => h) (by rfl); rotate_left; (· intro wS hSw; (try dsimp only at hSw); go_simp; try with_reducible rfl); simp only [Act.put, zA, z0, z1]; refine oneT (i := 12) rfl (by kernel_rfl) (fun K hK => ?_); go_simp; try rw [show min ((s.low u : Nat) : Int) ((s.low v : Nat) : Int) = ((s.low u : Nat) : Int) from by omega]
      refine hK _ _ (fun h => absurd h (by omega)) ?_; clear hK K hS; refine doneT (by kernel_rfl) ?_ _; generalize (wd.setCell ⟨gl, u, none⟩ (.int .i64 ((s.low u : Nat) : Int))).drew = ws at hmS hbS ⊢; by_cases hur : u = root
      ·
       have g3 : ((u : Int) == (root : Int)) = true := by simp [hur]
       have ep : s.pop v u root = { s with stack := u :: r', low := upd s.low u (s.low u), kids := s.kids + 1, cut := s.cut } := by rw [He.out, if_pos hur, if_neg (fun h => h.1 hur)]
       rw [ep] at hT2 hL2; have hk3 : s.kids + 1 ≤ 200000001 := by have := Hk.out; simp only [List.length_cons] at this; omega
       clear ep hur c4 c5 c6 f6; go_wp2_with fail; go_roundg (gk - 1)
       case measure => have := Hq.out; simp only [List.length_cons] at this; omega
       case rel =>
        have h1 := Hq.out; have h3 := Hk.out; simp only [List.length_cons] at h1 h3; exact ⟨{ s with stack := u :: r', low := upd s.low u (s.low u), kids := s.kids + 1, cut := s.cut }, u :: r', gs, cs, rfl, rfl, by simp, by simp, hmS, hbS, hT2, hL2, by simp only [List.length_cons]; omega, by simp only [List.length_cons]; omega⟩
      ·
       have g3 : ((u : Int) == (root : Int)) = false := by simp; omega
       have q1 := hmS.rl.atN hvn; rw [upd_ne _ _ hneq.symm] at q1; have q2 := hmS.rn.atN hun; have q3 := hmS.rc.atB hun; have q4 := hmS.rc.frozen u; by_cases hle : s.num u ≤ s.low v
       ·
        have ep : s.pop v u root = { s with stack := u :: r', low := upd s.low u (s.low u), kids := s.kids, cut := upd s.cut u true } := by rw [He.out, if_neg hur, if_pos ⟨hur, hle⟩]
        rw [ep] at hT2 hL2; have g4 : decide ((s.num u : Int) ≤ (s.low v : Int)) = true := by simpa using hle
        have hbd : ∀ k, Below ws.heap.size ws (ws.drewN k) := fun k => below_drewN (bl_refl _) k; clear ep hur c4 c5 c6 f6; go_wp2_with fail; go_quiet (fail)
        go_wp2_with fail; go_roundg (gk - 1)
        case measure => have := Hq.out; simp only [List.length_cons] at this; omega
        case rel =>
         have h1 := Hq.out; have h3 := Hk.out; simp only [List.length_cons] at h1 h3; exact ⟨{ s with stack := u :: r', low := upd s.low u (s.low u), kids := s.kids, cut := upd s.cut u true }, u :: r', gs, cs, rfl, rfl, rfl, by simp, (hmS.ext (hbd _)).set_cut u true, (bl_trans hbS (hbd _)).setCell (by simp) _, hT2, hL2, by simp only [List.length_cons]; omega, by simp only [List.length_cons]; omega⟩
       ·
        have ep : s.pop v u root = { s with stack := u :: r', low := upd s.low u (s.low u), kids := s.kids, cut := s.cut } := by rw [He.out, if_neg hur, if_neg (fun h => hle h.2)]
        rw [ep] at hT2 hL2; have g4 : decide ((s.num u : Int) ≤ (s.low v : Int)) = false := by simp; omega
        clear ep hur c4 c5 c6 f6; go_wp2_with fail; go_quiet (fail)
        go_wp2_with fail; go_roundg (gk - 1)
        case measure => have := Hq.out; simp only [List.length_cons] at this; omega
        case rel =>
         have h1 := Hq.out; have h3 := Hk.out; simp only [List.length_cons] at h1 h3; exact ⟨{ s with stack := u :: r', low := upd s.low u (s.low u), kids := s.kids, cut := s.cut }, u :: r', gs, cs, rfl, rfl, rfl, by simp, hmS.ext (below_drewN (bl_refl _) _), below_drewN hbS _, hT2, hL2, by simp only [List.length_cons]; omega, by simp only [List.length_cons]; omega⟩
end Go.Proofs.YtagcbnpahgfgmaaGreat
namespace Go.Proofs.YtagcbnpahgfgmaaGreat
open Go Go.RowKit Go.Sort
def RetZs (w : World) (zs : List Int) (e : Ending) (w' : World) : Prop :=
 ∃ a c, e = .returned (.slice a zs.length c) ∧ RdI w' a zs ∧ (∀ ad, a = some ad → w.heap.size ≤ ad.block) ∧ zs.length ≤ c ∧ c ≤ maxLen ∧ Below w.heap.size w w'
theorem sort_row (g cap : Nat) (zs : List Int) (w : World) (h : Row w g 3 1 cap (zs.map (Value.int .i64))) (hsz : zs.length < 1000000) :
  Calls Tryz.prog 44 #[.slice (some ⟨g, 0, none⟩) zs.length cap] w fun e w' => e = .returned (.tuple #[]) ∧
   Row w' g 3 1 cap ((zs.mergeSort fun x y => decide (x ≤ y)).map (Value.int .i64)) ∧ w.grownBy w' (some g) := by
 obtain ⟨cur, hg, hs, hl, hm, ht⟩ := h
 have ht' : cur.toList.take zs.length = zs.map (Value.int .i64) := by simpa using ht
 have hH := holds_of_blockI (ss := zs) hg ht'
 refine (Tryz.slices_Sort_int g 0 cap zs w hH (Array.getElem?_eq_some_iff.1 hg).1 (by omega)).mono ?_
 rintro e w' ⟨rfl, n, os, rfl⟩
 refine ⟨rfl, ?_, grownBy_sortedI _⟩
 have hlen : (zs.mergeSort fun x y => decide (x ≤ y)).length = zs.length := by simp
 refine ⟨_, heap_sortedI _ hg, by simpa [Sort.putCells] using hs, by simpa [hlen] using hl, hm, ?_⟩
 rw [List.length_map]
 exact take_putCellsI cur _ (by simp at hl; omega)
theorem grow_none (w : World) : grow w #[] = w := by cases w; simp [grow]
theorem compact_len_le (zs : List Int) : (Lib.compact zs).length ≤ zs.length := by
 unfold Lib.compact Lib.compactUpTo
 rw [List.length_map]
 have := List.length_filter_le (Lib.keeps zs.toArray) (List.range zs.length)
 simpa using this
theorem compact_row (g cap : Nat) (zs : List Int) (w : World) (h : Row w g 3 1 cap (zs.map (Value.int .i64))) (hsz : zs.length < 1000000) :
  Calls Tryz.prog 46 #[.slice (some ⟨g, 0, none⟩) zs.length cap] w fun e w' => e = .returned (.slice (some ⟨g, 0, none⟩) (Lib.compact zs).length cap) ∧
   Row w' g 3 1 cap ((Lib.compact zs).map (Value.int .i64)) ∧ w.grownBy w' (some g) := by
 obtain ⟨cur, hg, hs, hl, hm, ht⟩ := h
 have ht' : cur.toList.take zs.length = zs.map (Value.int .i64) := by simpa using ht
 have hH := holds_of_blockI (ss := zs) hg ht'
 have hlc : zs.length ≤ cap := by simpa using hl
 refine (Tryz.slices_Compact_int g 0 cap zs w hH (by omega) hlc).mono ?_
 rintro e w' ⟨rfl, q, rfl⟩
 obtain ⟨ts, hts⟩ : ∃ ts, ts = Lib.compact zs ++ List.replicate (zs.length - (Lib.compact zs).length) 0 := ⟨_, rfl⟩
 have hcl := compact_len_le zs
 have htl : ts.length = zs.length := by rw [hts]; simp; omega
 refine ⟨rfl, ?_, ?_⟩
 ·
  rw [← hts]
  have h1 := heap_sortedI (n := q) (os := #[]) ts.toArray hg
  rw [grow_none] at h1
  have h2 : Row (putRow (Value.int .i64) (Sort.ahead w q) g 0 ts.toArray) g 3 1 cap (ts.map (Value.int .i64)) := by
   refine ⟨_, h1, by simpa [Sort.putCells] using hs, by simpa [htl] using hl, hm, ?_⟩; rw [List.length_map]; exact take_putCellsI cur _ (by simp at hl; omega)
  have h3 := h2.take (Lib.compact zs).length
  have e3 : (ts.map (Value.int .i64)).take (Lib.compact zs).length = (Lib.compact zs).map (Value.int .i64) := by
   rw [hts, List.map_append, List.take_append_of_le_length (by simp), List.take_of_length_le (by simp)]
  rw [e3] at h3
  exact h3
 ·
  have h1 := grownBy_sortedI (w := w) (g := g) (n := q) (os := #[]) (Lib.compact zs ++ List.replicate (zs.length - (Lib.compact zs).length) 0).toArray
  rw [grow_none] at h1; exact h1
theorem clip_walk (a : Option Addr) (n c : Nat) (w : World) (h : n ≤ c) (hn : n ≤ 1000000) (hc : c ≤ maxLen) :
  Calls Tryz.prog 45 #[.slice a n c] w fun e w' => e = .returned (.slice a n n) ∧ w = w' := by
 have h1 : (n : Int) ≤ (c : Int) := by omega
 unfold maxLen at hc
 cases a with
 | none =>
  go_enter Tryz.func45, Tryz.ntmps45
  go_wp2_with fail
  go_ret
  exact ⟨rfl, rfl⟩
 | some ad =>
  go_enter Tryz.func45, Tryz.ntmps45
  go_wp2_with fail
  go_ret
  exact ⟨rfl, rfl⟩
theorem ends_take (ls : List Lk) (k : Nat) (h : k < ls.length) : endsL (ls.take (k + 1)) = endsL (ls.take k) ++ [ls[k].1, ls[k].2.1] := by
 unfold endsL
 rw [List.take_succ_eq_append_getElem h, List.flatMap_append]
 simp
set_option maxHeartbeats 2000000 in
theorem verts_walk (a : Option Addr) (cap : Nat) (ls : List Lk) (w : World) (hr : RdL w a ls) (hle : ls.length ≤ 100000) :
  Calls Tryz.prog 13 #[.slice a ls.length cap] w (RetZs w (vertsL ls)) := by
 have hc1 := vertsL_compact ls
 have Hc1 := Lib.hid hc1; clear hc1
 go_enter Tryz.func13, Tryz.ntmps13
 go_wp2_with fail
 go_loopg [3, 8] ls.length (fun r vo i wr => ∃ k : Nat, k + r = ls.length ∧ i = .int .i64 k ∧ Below w.heap.size w wr ∧ Own wr vo 3 1 (endsL (ls.take k)).length ((endsL (ls.take k)).map (Value.int .i64)) ∧ (∀ g, vo.ownBlock = some g → w.heap.size ≤ g))
 case atStart => exact ⟨0, by omega, rfl, bl_refl _, by simpa [endsL] using own_nil w 3 1, fun g hg => by simp [Value.ownBlock] at hg⟩
 case round =>
  obtain ⟨k, hk, rfl, hB, hown, hnew⟩ := hrel
  rename_i vo
  by_cases hlt : k < ls.length
  ·
   obtain ⟨b, o, rfl, c0, c1, c2⟩ := (hr.below hB).at k hlt; have het := ends_take ls k hlt; obtain ⟨⟨x, y, z⟩, hx⟩ : ∃ x : Lk, ls[k] = x := ⟨_, rfl⟩
   rw [hx] at c0 c1 c2 het; simp only at c0 c1 c2 het; have hel : (endsL (ls.take k)).length = k * 2 := by rw [endsL_length, List.length_take]; omega
   obtain ⟨E, hE⟩ : ∃ E, E = endsL (ls.take k) := ⟨_, rfl⟩
   rw [← hE] at hown het hel; have Hk := Lib.hid hk; have Het := Lib.hid het; have HE := Lib.hid hE; have Hnew := Lib.hid hnew; have hel2 : E.length ≤ 200000 := by omega
   clear hk het hx hE hel hnew; have hown2 := (hown.alloc (.cells #[.int .i64 x, .int .i64 y, .int .i64 z] 38)).alloc (.cells #[.int .i64 x, .int .i64 y] 3); obtain ⟨wa, hwa⟩ : ∃ wa, wa = wr.alloc (.cells #[.int .i64 x, .int .i64 y, .int .i64 z] 38) := ⟨_, rfl⟩
   go_wp2_with (at_builtin; refine wpList_append_row _ rfl (.tmp 12) (.tmp 17) 33 rfl 3 (.int .i64 0) 1 8 Tryz.underlying33 int_info rfl _ _ _ rfl hown2 ⟨wr.heap.size + 1, 0, none⟩ 2 2 [.int .i64 x, .int .i64 y] rfl rfl ?c1 ?c2 (by omega) (by unfold maxLen; omega) (by omega) ?_)
   case c1 =>
    intro j u hj; match j with
    | 0 => simp at hj; subst hj; simp [Addr.add]
    | 1 => simp at hj; subst hj; simp [Addr.add]
    | j + 2 => simp at hj
   case c2 => intro u hu; simp at hu; rcases hu with rfl | rfl <;> rfl
   intro g c w3 hr3 hc3 hgr3 hor3; have hb3 : Below w.heap.size w w3 := (bl_trans (bl_trans hB (bl_alloc _ _)) (bl_alloc _ _)).grown hgr3 (by simp; have := hB.size; omega) (fun j hj => Hnew.out j hj); have hg3 : w.heap.size ≤ g := by
    rcases hor3 with h | h
    · exact Hnew.out g h
    · have := hB.size; omega
   clear hown hown2 hwa hgr3 hor3; go_wp2_with fail; go_roundg (gk - 1)
   case measure => have := Hk.out; omega
   case rel =>
    refine ⟨k + 1, by have := Hk.out; omega, by go_num, hb3, ?_, fun j hj => by cases hj; exact hg3⟩; rw [Het.out]; have h1 := hr3.own1; simpa using h1
  ·
   have hkl : k = ls.length := by omega
   subst hkl; rw [List.take_length] at hown; obtain ⟨E, hE⟩ : ∃ E, E = endsL ls := ⟨_, rfl⟩
   rw [← hE] at hown; have hEl : E.length ≤ 200000 := by rw [hE, endsL_length]; omega
   have Hc2 := Hc1.out; rw [← hE] at Hc2; have HE := Lib.hid hE; have Hc := Lib.hid Hc2; clear hE Hc2; rcases hown.2 with ⟨rfl, h0⟩ | ⟨g, cg, rfl, hcg, hrow⟩
   ·
    obtain rfl := List.eq_nil_of_length_eq_zero h0; have hv : vertsL ls = [] := by rw [← Hc.out]; simp [Lib.compact, Lib.compactUpTo]
    clear hown; go_wp2_with fail; refine (Tryz.slices_Sort_int_none none 0 _).mono ?_; rintro e w' ⟨rfl, rfl⟩; go_wp2_with fail; refine (Tryz.slices_Compact_int_empty none 0 _).mono ?_; rintro e w' ⟨rfl, rfl⟩; go_wp2_with fail; refine (clip_walk none 0 0 _ (Nat.le_refl _) (by omega) (by unfold maxLen; omega)).mono ?_; rintro e w' ⟨rfl, rfl⟩; go_wp2_with fail; go_ret; rw [hv]; exact ⟨none, 0, rfl, by intro i u hu; simp at hu, (fun ad h => by cases h), Nat.le_refl _, by unfold maxLen; omega, hB⟩
   ·
    have hgl := hnew g rfl; clear hown hnew; go_wp2_with fail; refine (sort_row g cg E _ hrow (by omega)).mono ?_; rintro e w2 ⟨rfl, hr2, hg2⟩; have hb2 : Below w.heap.size w w2 := hB.grown hg2 (by have := hB.size; omega) (fun j hj => by cases hj; exact hgl); have hlen2 : (E.mergeSort fun x y => decide (x ≤ y)).length = E.length := by simp
    have hcc := compact_row g cg (E.mergeSort fun x y => decide (x ≤ y)) w2 hr2 (by omega); rw [Hc.out, hlen2] at hcc; clear hr2 hg2 hrow hlen2; go_wp2_with fail; refine hcc.mono ?_; rintro e w3 ⟨rfl, hr3, hg3⟩; have hb3 : Below w.heap.size w w3 := hb2.grown hg3 (by have := hb2.size; omega) (fun j hj => by cases hj; exact hgl); have hvl : (vertsL ls).length ≤ 200000 := by have := vertsL_length ls; omega
    have hvc : (vertsL ls).length ≤ cg := by have := hr3.len_le; simpa using this
    have hcm := hr3.cap_le; go_wp2_with fail; refine (clip_walk (some ⟨g, 0, none⟩) (vertsL ls).length cg _ hvc (by omega) hcm).mono ?_; rintro e w' ⟨rfl, rfl⟩; go_wp2_with fail; go_ret; refine ⟨some ⟨g, 0, none⟩, (vertsL ls).length, rfl, hr3.at_, fun ad h => by cases h; exact hgl, Nat.le_refl _, by omega, hb3⟩
end Go.Proofs.YtagcbnpahgfgmaaGreat
namespace Go.Proofs.YtagcbnpahgfgmaaGreat
open Go Go.RowKit
theorem joined_walk (a : Option Addr) (cap : Nat) (ls : List Lk) (w : World) (hr : RdL w a ls) (hcap : ls.length ≤ 9223372036854775807) :
  Calls Tryz.prog 57 #[.slice a ls.length cap] w fun e w' => e = .returned (.bool (joinedL ls)) ∧ Below w.heap.size w w' := by
 obtain ⟨g, hg⟩ : ∃ g, g = groupsL ls [] := ⟨_, rfl⟩
 have hgl : g.length ≤ 1000000 := by
  rw [hg]; unfold groupsL
  split
  ·
   rename_i h; rw [List.length_map, gIdx_length]; have := firsts_length_le (compC ls.length (bsL ls [])) ls.length; have := ((rightL_iff ls).1 h).1; omega
  · simp
 have hj : ((g.length : Int) == 1) = joinedL ls := by unfold joinedL; rw [← hg, Bool.eq_iff_iff]; simp; omega
 have Hj := Lib.hid hj; have Hg := Lib.hid hg; clear hj
 go_enter Tryz.func57, Tryz.ntmps57
 go_wp2_with fail
 refine (groups_walk a cap ls none 0 [] _ hr hcap (by intro i u hu; simp at hu) (by simp) (fun z hz => by simp at hz)).mono ?_
 rintro e w1 ⟨vo, vals, rfl, hL, hb⟩
 rw [← Hg.out] at hL
 obtain ⟨ao, co, rfl, _⟩ := hL.read
 clear hL hg
 go_wp2_with fail
 go_ret
 exact ⟨by rw [← Hj.out] <;> rfl, hb⟩
theorem ints_info2 : (Tryz.prog.info? 33).map (fun i => (i.zero, i.size, i.bytes)) = some (some (.slice none 0 0), 1, 24) := by kernel_rfl
def nbRows (n : Nat) (vs : List Int) (ls : List Lk) : List (List Value) := (List.range n).map fun i => (nbN vs ls i).map vN
theorem nbRows_get {n : Nat} {vs : List Int} {ls : List Lk} {i : Nat} (h : i < n) : (nbRows n vs ls)[i]? = some ((nbN vs ls i).map vN) := by simp [nbRows, h]
theorem nbN_take (vs : List Int) (ls : List Lk) (k : Nat) (h : k < ls.length) (i : Nat) : nbN vs (ls.take (k + 1)) i = nbN vs (ls.take k) i ++ if vs.idxOf ls[k].1 = i then [vs.idxOf ls[k].2.1] else if vs.idxOf ls[k].2.1 = i then [vs.idxOf ls[k].1] else [] := by
 unfold nbN
 rw [List.take_succ_eq_append_getElem h, List.flatMap_append]
 simp
theorem nbRows_step {n : Nat} {vs : List Int} {ls : List Lk} {k : Nat} (h : k < ls.length) {a b : Nat} (ha : vs.idxOf ls[k].1 = a) (hb : vs.idxOf ls[k].2.1 = b) (hab : a ≠ b) (_han : a < n) (hbn : b < n) :
  ((nbRows n vs (ls.take k)).set a ((nbN vs (ls.take k) a).map vN ++ [vN b])).set b ((nbN vs (ls.take k) b).map vN ++ [vN a]) = nbRows n vs (ls.take (k + 1)) := by
 apply List.ext_getElem (by simp [nbRows])
 intro i h1 h2
 simp only [nbRows, List.length_set, List.length_map, List.length_range] at h1
 simp only [nbRows, List.getElem_set, List.getElem_map, List.getElem_range]
 rw [nbN_take vs ls k h, ha, hb]
 by_cases e1 : b = i
 ·
  subst e1
  rw [if_pos rfl, if_neg (fun e => hab e), if_pos rfl]; simp
 ·
  rw [if_neg e1]
  by_cases e2 : a = i
  · subst e2; rw [if_pos rfl, if_pos rfl]; simp
  · rw [if_neg e2, if_neg e2, if_neg e1]; simp
theorem restS_le {n M : Nat} {bs : Nat → List Nat} (h : ∀ v, v < n → (bs v).length ≤ M) : restS n bs (fun _ => 0) ≤ n * M := by
 unfold restS
 induction n with
 | zero => simp [sumR]
 | succ n ih =>
  rw [sumR, Nat.succ_mul]
  have h1 := ih fun v hv => h v (by omega)
  have h2 := h n (by omega)
  simp only [Nat.sub_zero] at h1 ⊢
  omega
theorem nbN_take_len (vs : List Int) (ls : List Lk) (k i : Nat) (h : ls.length ≤ 1000) : (nbN vs (ls.take k) i).length ≤ 1000 := by
 have := nbN_len vs (ls.take k) i
 rw [List.length_take] at this; omega
theorem contains_true (g n : Nat) (cut : Nat → Bool) (w : World) (h : Row w g 4 1 n (rowB n cut)) (hn : n ≤ 1000000) :
  Calls Tryz.prog 69 #[.slice (some ⟨g, 0, none⟩) n n, .bool true] w fun e w' => e = .returned (.bool ((List.range n).any cut)) ∧ w = w' := by
 have hc : ∀ j, j < ((List.range n).map cut).length → w.cell? ⟨g, 0 + j, none⟩ = some (Value.bool ((List.range n).map cut)[j]!) := fun j hj => by
  have hj' : j < n := by simpa using hj
  rw [Nat.zero_add, h.atB hj']
  simp [hj']
 have h1 := Tryz.slices_Contains (α := Bool) Value.bool _ (EqlAt.bool _ Tryz.underlying4) g 0 n n ((List.range n).map cut) true w (by simp) (by omega) hc
 refine h1.mono ?_
 rintro e w' ⟨rfl, rfl⟩
 refine ⟨?_, rfl⟩
 congr 2
 rw [List.take_of_length_le (by simp), List.any_map]
 congr 1
 funext i
 simp
set_option maxRecDepth 100000 in
set_option maxHeartbeats 8000000 in
theorem two_walk (a : Option Addr) (cap : Nat) (ls : List Lk) (w : World) (hr : RdL w a ls) (hcap : ls.length ≤ 9223372036854775807) :
  Calls Tryz.prog 33 #[.slice a ls.length cap] w fun e w' => e = .returned (.bool (twoL ls)) ∧ Below w.heap.size w w' := by
 cases hrt : rightL ls with
 | false =>
  have h2 : twoL ls = false := by unfold twoL joinedL groupsL; rw [hrt]; rfl
  have Hrt := Lib.hid hrt; have H2 := Lib.hid h2; clear hrt h2
  go_enter Tryz.func33, Tryz.ntmps33
  go_wp2_with fail
  refine (lright_walk a cap ls _ hr hcap).mono ?_
  rw [Hrt.out]
  rintro e w1 ⟨rfl, hb1⟩
  go_wp2_with fail
  go_ret
  exact ⟨by rw [H2.out] <;> rfl, hb1⟩
 | true =>
  have hR := (rightL_iff ls).1 hrt
  have hn := hR.1
  have HR := Lib.hid hR; have Hrt := Lib.hid hrt
  clear hR hrt
  by_cases h0 : ls.length = 0
  ·
   obtain rfl := List.eq_nil_of_length_eq_zero h0; have h2 : twoL [] = false := by decide
   have H2 := Lib.hid h2; clear h2; go_enter Tryz.func33, Tryz.ntmps33; go_wp2_with fail; refine (lright_walk a cap [] _ hr hcap).mono ?_; rw [Hrt.out]; rintro e w1 ⟨rfl, hb1⟩; go_wp2_with fail; go_ret; exact ⟨by rw [H2.out] <;> rfl, hb1⟩
  have hne : ls ≠ [] := fun e => h0 (by rw [e]; rfl)
  have Hne := Lib.hid hne; clear hne
  have g0 : ((ls.length : Int) == 0) = false := by simp only [beq_eq_false_iff_ne, ne_eq]; omega
  obtain ⟨vs, hvs⟩ : ∃ vs, vs = vertsL ls := ⟨_, rfl⟩
  have hvl : vs.length ≤ 2000 := by rw [hvs]; have := vertsL_length ls; omega
  have Hvs := Lib.hid hvs; clear hvs
  have hmm := run_makeMapZ
  have hmk := run_make_row' (P := Tryz.prog) 63 33 (.slice none 0 0) 24 Tryz.underlying63 ints_info2 rfl .i64 .i64 vs.length (by omega) (by omega)
  go_enter Tryz.func33, Tryz.ntmps33
  go_wp2_with fail
  refine (lright_walk a cap ls _ hr hcap).mono ?_
  rw [Hrt.out]
  rintro e w1 ⟨rfl, hb1⟩
  have hr1 := hr.below hb1
  go_wp2_with fail
  refine (verts_walk a cap ls _ hr1 (by omega)).mono ?_
  rw [← Hvs.out]
  rintro e w2 ⟨av, cv, rfl, hrv, _, hvc, hvm, hb2⟩
  have hr2 := hr1.below hb2
  have hB2 := bl_trans hb1 hb2
  clear hr1 hb1 hb2 hr
  by_cases h3 : vs.length < 3
  ·
   have h2 := two_few Hrt.out Hne.out (by rw [← Hvs.out]; exact h3); have H2 := Lib.hid h2; clear h2; go_wp2_with fail; go_ret; exact ⟨by rw [H2.out] <;> rfl, hB2⟩
  have hvn : vs.Nodup := by rw [Hvs.out]; exact verts_nodup ls
  have Hvn := Lib.hid hvn; clear hvn
  go_wp2_with fail
  go_loopg [32] vs.length (fun r i wr => ∃ (k c : Nat) (F : Int → Option Int), k + r = vs.length ∧ i = .int .i64 k ∧ c ≤ k ∧ MZ wr w2.heap.size c F ∧ (∀ (j : Nat) (x : Int), j < k → vs[j]? = some x → F x = some (j : Int)) ∧ Below w2.heap.size w2 wr)
  case atStart => exact ⟨0, 0, _, by omega, rfl, Nat.le_refl _, MZ.made w2, fun j x hj => by omega, bl_alloc _ _⟩
  case round =>
   obtain ⟨k, c, F, hk, rfl, hck, hm, hF, hb⟩ := hrel; by_cases hlt : k < vs.length
   ·
    obtain ⟨bv, ov, rfl, c0⟩ := (hrv.below hb).at k hlt; obtain ⟨z, hz⟩ : ∃ z, vs[k] = z := ⟨_, rfl⟩
    rw [hz] at c0; have hzm : z ∈ vertsL ls := by rw [← Hvs.out, ← hz]; exact List.getElem_mem hlt
    have hzb : 0 ≤ z ∧ z ≤ 1048576 := by
     obtain ⟨q, hq, e⟩ := (mem_vertsL ls z).1 hzm; have ok := HR.out.2.1 q hq; unfold OkL at ok; rcases e with rfl | rfl <;> omega
    have hwz : WfZ z := wfZ_of (by omega); have hF2 : ∀ (j : Nat) (x : Int), j < k + 1 → vs[j]? = some x → updF F z k x = some (j : Int) := fun j x hj hx => by
     by_cases e : j = k
     ·
      subst e; rw [List.getElem?_eq_getElem hlt, hz] at hx; cases hx; exact updF_same _ _ _
     ·
      have hjl := (List.getElem?_eq_some_iff.1 hx).1; rw [updF_ne _ _ fun e2 => ?_]
      · exact hF j x (by omega) hx
      ·
       rw [List.getElem?_eq_getElem hjl] at hx; exact e ((List.getElem_inj Hvn.out).1 ((Option.some.inj hx).trans (e2.trans hz.symm)))
    have HF2 := Lib.hid hF2; have Hwz := Lib.hid hwz; have Hk := Lib.hid hk; clear hF2 hwz hz hk hF hzm hzb; go_wp2_with (at_mapUpdate; refine wpList_put_MZ rfl _ _ _ rfl hm rfl rfl rfl Hwz.out (wfZ_of (by omega)) (by omega) ?_; intro w5 hm5 hg5); have hb5 : Below w2.heap.size w2 w5 := hb.grown hg5 hb.size (fun j hj => by cases hj; exact Nat.le_refl _); have hc5 : (if (F z).isSome then c else c + 1) ≤ k + 1 := by split <;> omega
    clear hg5 hm; go_roundg (gk - 1)
    case measure => have := Hk.out; omega
    case rel => exact ⟨k + 1, _, _, by have := Hk.out; omega, by go_num, hc5, hm5, HF2.out, hb5⟩
   ·
    have hkl : k = vs.length := by omega
    subst hkl; obtain ⟨w3, rfl⟩ : ∃ w3 : World, w3 = wr := ⟨_, rfl⟩
    have hr3 := hr2.below hb; have hB3 := bl_trans hB2 hb; have hF0 : ∀ x, x ∈ vertsL ls → F x = some ((vs.idxOf x : Nat) : Int) := fun x hx => by
     rw [← Hvs.out] at hx; exact hF _ x (List.idxOf_lt_length_of_mem hx) (get_idxOf hx)
    have HF := Lib.hid hF0; clear hF hF0 hk hr2 hB2 hb hrv; have hok0 : nbRows vs.length vs (ls.take 0) = List.replicate vs.length [] := by
     apply List.ext_getElem (by simp [nbRows]); intro i h1 h2; simp [nbRows, nbN]
    have Hok0 := Lib.hid hok0; clear hok0; have hzm3 := hm.lt; go_wp2_with fail; go_loopg [46] ls.length (fun r i wr => ∃ (k : Nat) (vals : List Value), k + r = ls.length ∧ i = .int .i64 k ∧ OwnRows wr w3.heap.size 33 3 vs.length vals (nbRows vs.length vs (ls.take k)) ∧ Below w3.heap.size w3 wr ∧ w3.heap.size < wr.heap.size)
    case atStart => exact ⟨0, _, by omega, rfl, by rw [Hok0.out]; exact ownRows_made w3 vs.length _ _ (by unfold maxLen; omega), bl_alloc _ _, by simp⟩
    case round =>
     obtain ⟨k, vals, hk, rfl, hO, hb, hsz⟩ := hrel; by_cases hlt : k < ls.length
     ·
      obtain ⟨b, o, rfl, c0, c1, c2⟩ := (hr3.below hb).at k hlt; have hok := HR.out.2.1 _ (List.getElem_mem hlt); have hmemk := List.getElem_mem hlt; have hstep := fun (A B : Nat) (hA : vs.idxOf ls[k].1 = A) (hBe : vs.idxOf ls[k].2.1 = B) => nbRows_step (n := vs.length) (vs := vs) hlt hA hBe; obtain ⟨⟨x, y, z⟩, hx⟩ : ∃ x : Lk, ls[k] = x := ⟨_, rfl⟩
      rw [hx] at c0 c1 c2 hok hmemk hstep; obtain ⟨k0, k1, k2, k3, k4⟩ := hok; simp only at c0 c1 c2 k0 k1 k2 k3 k4 hstep; have hxm : x ∈ vertsL ls := (mem_vertsL ls x).2 ⟨_, hmemk, .inl rfl⟩; have hym : y ∈ vertsL ls := (mem_vertsL ls y).2 ⟨_, hmemk, .inr rfl⟩; obtain ⟨A, hA⟩ : ∃ A, vs.idxOf x = A := ⟨_, rfl⟩
      obtain ⟨B, hBe⟩ : ∃ B, vs.idxOf y = B := ⟨_, rfl⟩
      have hAn : A < vs.length := by rw [← hA]; exact List.idxOf_lt_length_of_mem (by rw [Hvs.out]; exact hxm)
      have hBn : B < vs.length := by rw [← hBe]; exact List.idxOf_lt_length_of_mem (by rw [Hvs.out]; exact hym)
      have hAB : A ≠ B := fun e => by
       have := idxOf_inj (vs := vs) (by rw [Hvs.out]; exact hxm) (by rw [Hvs.out]; exact hym) (by rw [hA, hBe, e]); omega
      have hst := hstep A B hA hBe hAB hAn hBn; have hFx := HF.out x hxm; have hFy := HF.out y hym; rw [hA] at hFx; rw [hBe] at hFy; have hl1 : ∀ n, (Instr.lookup 35 (.map (some w2.heap.size)) (.int .i64 x) false).run Tryz.prog ((wr.alloc (.cells #[.int .i64 x, .int .i64 y, .int .i64 z] 38)).drewN n) = .ok (.int .i64 A) ((wr.alloc (.cells #[.int .i64 x, .int .i64 y, .int .i64 z] 38)).drewN n) := fun n => by
       have := ((hm.below (bl_trans hb (bl_alloc wr (.cells #[.int .i64 x, .int .i64 y, .int .i64 z] 38)))).block (w' := (wr.alloc (.cells #[.int .i64 x, .int .i64 y, .int .i64 z] 38)).drewN n) rfl).look (v := x) (wfZ_of (by omega)); rw [hFx] at this; exact this
      have hl2 : ∀ n, (Instr.lookup 35 (.map (some w2.heap.size)) (.int .i64 y) false).run Tryz.prog ((wr.alloc (.cells #[.int .i64 x, .int .i64 y, .int .i64 z] 38)).drewN n) = .ok (.int .i64 B) ((wr.alloc (.cells #[.int .i64 x, .int .i64 y, .int .i64 z] 38)).drewN n) := fun n => by
       have := ((hm.below (bl_trans hb (bl_alloc wr (.cells #[.int .i64 x, .int .i64 y, .int .i64 z] 38)))).block (w' := (wr.alloc (.cells #[.int .i64 x, .int .i64 y, .int .i64 z] 38)).drewN n) rfl).look (v := y) (wfZ_of (by omega)); rw [hFy] at this; exact this
      have Hst := Lib.hid hst; have Hk := Lib.hid hk; clear hst hstep hx hk hmemk hxm hym hA hBe hFx hFy; go_wp2_with fail; go_quiet (fail)
      have hO1 := (hO.alloc (.cells #[.int .i64 x, .int .i64 y, .int .i64 z] 38)).drewN nq; have hbl1 : Below w3.heap.size w3 ((wr.alloc (.cells #[.int .i64 x, .int .i64 y, .int .i64 z] 38)).drewN nq) := below_drewN (bl_trans hb (bl_alloc _ _)) _; have hsz1 : w3.heap.size < ((wr.alloc (.cells #[.int .i64 x, .int .i64 y, .int .i64 z] 38)).drewN nq).heap.size := by simp; omega
      generalize (wr.alloc (.cells #[.int .i64 x, .int .i64 y, .int .i64 z] 38)).drewN nq = wX at hO1 hbl1 hsz1 ⊢; clear hl1 hl2 hO hb c0 c1 c2; have hvl0 : vals.length = vs.length := by rw [hO1.len]; simp [nbRows]
      obtain ⟨u, hu⟩ : ∃ u, vals[A]? = some u := ⟨vals[A]'(by omega), by simp⟩
      have hrA := nbRows_get (vs := vs) (ls := ls.take k) hAn; have hown := hO1.own A u _ hu hrA; rw [List.length_map] at hown; have hln := nbN_take_len vs ls k A hn; have hln2 := nbN_take_len vs ls k B hn; have hcA : wX.cell? ⟨w3.heap.size, A, none⟩ = some u := by rw [hO1.outer.cell? A (by omega)]; exact hu
      have hfA := hO1.outer.frozen A; have hneA := hO1.ne_outer hu; obtain ⟨rA, hrAe⟩ : ∃ r, r = nbN vs (ls.take k) A := ⟨_, rfl⟩
      obtain ⟨rB, hrBe⟩ : ∃ r, r = nbN vs (ls.take k) B := ⟨_, rfl⟩
      rw [← hrAe] at hrA hown hln; rw [← hrBe] at hln2; have hrB := nbRows_get (vs := vs) (ls := ls.take k) hBn; have Hst2 := Hst.out; rw [← hrBe] at hrB Hst2; rw [← hrAe] at Hst2; have HO1 := Lib.hid hO1; have HrA := Lib.hid hrA; have HrB := Lib.hid hrB; have Hu := Lib.hid hu; have Hst3 := Lib.hid Hst2; have Hvl0 := Lib.hid hvl0; clear hO1 hrA hrB hu Hst2 hvl0 hrAe hrBe Hst; have iA0 : (0 : Int) ≤ (A : Int) := by omega
      have iA1 : (A : Int) < (vs.length : Int) := by omega
      have iB0 : (0 : Int) ≤ (B : Int) := by omega
      have iB1 : (B : Int) < (vs.length : Int) := by omega
      go_upto_region 18 with (at_builtin; refine wpList_append_row _ rfl (.tmp 63) (.tmp 65) 33 rfl 3 (.int .i64 0) 1 8 Tryz.underlying33 int_info rfl u _ _ rfl (hown.alloc _) ⟨wX.heap.size, 0, none⟩ 1 1 [.int .i64 B] rfl rfl (one_new (cell_new1 rfl)) (one_ok _ _) (by omega) (by unfold maxLen; omega) (by omega) ?_; intro g5 cc5 w5 hr5 hc5 hg5 hor5; obtain ⟨q1⟩ : PLift (w5.cell? ⟨w3.heap.size, A, none⟩ = some u) := ⟨grown_cell hg5 (keep_cell (bl_alloc _ _) hcA) hneA⟩; obtain ⟨q2⟩ : PLift (w5.frozen? ⟨w3.heap.size, A, none⟩ = false) := ⟨grown_frozen hg5 (by simp; omega) ((((bl_alloc wX (.cells #[.int .i64 B] 3)).frozen (p := ⟨w3.heap.size, A, none⟩) hsz1)).trans hfA) hneA⟩)
      have hst1 := (HO1.out.alloc (.cells #[.int .i64 B] 3)).stored Hu.out HrA.out hr5 hg5 (hor5.imp id (fun h => by simpa using h)); have hbl5 : Below w3.heap.size w3 (w5.setCell ⟨w3.heap.size, A, none⟩ (.slice (some ⟨g5, 0, none⟩) (rA.length + 1) cc5)) := ((bl_trans hbl1 (bl_alloc _ _)).grown hg5 (by simp; omega) (fun j hj => by have := (HO1.out.young A u j Hu.out hj); omega)).setCell (by simp) _; rw [show (rA.map vN ++ [Value.int .i64 (B : Int)]) = rA.map vN ++ [vN B] from rfl, show (rA.map vN ++ [vN B]).length = rA.length + 1 by simp] at hst1; have hsz5 : w3.heap.size < (w5.setCell ⟨w3.heap.size, A, none⟩ (.slice (some ⟨g5, 0, none⟩) (rA.length + 1) cc5)).heap.size := by have := hg5.size; simp at this ⊢; omega
      generalize w5.setCell ⟨w3.heap.size, A, none⟩ (.slice (some ⟨g5, 0, none⟩) (rA.length + 1) cc5) = wY at hst1 hbl5 hsz5 ⊢; clear hr5 hg5 hor5 q1 q2 hcA hfA hneA hown hbl1 hsz1; generalize vals.set A (.slice (some ⟨g5, 0, none⟩) (rA.length + 1) cc5) = vals2 at hst1; have hvl2 : vals2.length = vs.length := by rw [hst1.len]; simp [nbRows]
      obtain ⟨u2, hu2⟩ : ∃ u, vals2[B]? = some u := ⟨vals2[B]'(by omega), by simp⟩
      have hrB2 : ((nbRows vs.length vs (ls.take k)).set A (rA.map vN ++ [vN B]))[B]? = some (rB.map vN) := by rw [List.getElem?_set, if_neg hAB]; exact HrB.out
      have hown2 := hst1.own B u2 _ hu2 hrB2; rw [List.length_map] at hown2; have hcB : wY.cell? ⟨w3.heap.size, B, none⟩ = some u2 := by rw [hst1.outer.cell? B (by omega)]; exact hu2
      have hfB := hst1.outer.frozen B; have hneB := hst1.ne_outer hu2; have HS1 := Lib.hid hst1; have HrB2 := Lib.hid hrB2; have Hu2 := Lib.hid hu2; clear hst1 hrB2 hu2 hvl2; go_upto_region 19 with (at_builtin; refine wpList_append_row _ rfl (.tmp 73) (.tmp 75) 33 rfl 3 (.int .i64 0) 1 8 Tryz.underlying33 int_info rfl u2 _ _ rfl (hown2.alloc _) ⟨wY.heap.size, 0, none⟩ 1 1 [.int .i64 A] rfl rfl (one_new (cell_new1 rfl)) (one_ok _ _) (by omega) (by unfold maxLen; omega) (by omega) ?_; intro g6 cc6 w6 hr6 hc6 hg6 hor6; obtain ⟨q1⟩ : PLift (w6.cell? ⟨w3.heap.size, B, none⟩ = some u2) := ⟨grown_cell hg6 (keep_cell (bl_alloc _ _) hcB) hneB⟩; obtain ⟨q2⟩ : PLift (w6.frozen? ⟨w3.heap.size, B, none⟩ = false) := ⟨grown_frozen hg6 (by simp; omega) ((((bl_alloc wY (.cells #[.int .i64 A] 3)).frozen (p := ⟨w3.heap.size, B, none⟩) hsz5)).trans hfB) hneB⟩)
      have hst2 := (HS1.out.alloc (.cells #[.int .i64 A] 3)).stored Hu2.out HrB2.out hr6 hg6 (hor6.imp id (fun h => by simpa using h)); have hbl6 : Below w3.heap.size w3 (w6.setCell ⟨w3.heap.size, B, none⟩ (.slice (some ⟨g6, 0, none⟩) (rB.length + 1) cc6)) := ((bl_trans hbl5 (bl_alloc _ _)).grown hg6 (by simp; omega) (fun j hj => by have := (HS1.out.young B u2 j Hu2.out hj); omega)).setCell (by simp) _; rw [show (rB.map vN ++ [Value.int .i64 (A : Int)]) = rB.map vN ++ [vN A] from rfl, show (rB.map vN ++ [vN A]).length = rB.length + 1 by simp, Hst3.out] at hst2; have hsz6 : w3.heap.size < (w6.setCell ⟨w3.heap.size, B, none⟩ (.slice (some ⟨g6, 0, none⟩) (rB.length + 1) cc6)).heap.size := by have := hg6.size; simp at this ⊢; omega
      clear hr6 hg6 hor6 q1 q2 hcB hfB hneB hown2 hbl5 hsz5; go_wp2_with fail; go_roundg (gk - 1)
      case measure => have := Hk.out; omega
      case rel => exact ⟨k + 1, _, by have := Hk.out; omega, by go_num, hst2, hbl6, hsz6⟩
     ·
      have hkl : k = ls.length := by omega
      subst hkl; rw [List.take_length] at hO; have hok := HR.out.2.1; have hG : RdG wr w3.heap.size vs.length (nbN vs ls) := fun v hv => by
       have hvl0 : vals.length = vs.length := by rw [hO.len]; simp [nbRows]
       obtain ⟨u, hu⟩ : ∃ u, vals[v]? = some u := ⟨vals[v]'(by omega), by simp⟩
       have hrA := nbRows_get (vs := vs) (ls := ls) hv; have hown := hO.own v u _ hu hrA; have hc : wr.cell? ⟨w3.heap.size, v, none⟩ = some u := by rw [hO.outer.cell? v (by omega)]; exact hu
       rcases hown.2 with ⟨rfl, h0⟩ | ⟨g, c', rfl, _, hrow⟩
       ·
        rw [List.length_map] at h0; have hnil := List.eq_nil_of_length_eq_zero h0; exact ⟨none, 0, by rw [hc, hnil]; rfl, by rw [hnil]; intro i u hu; simp at hu⟩
       ·
        rw [List.length_map] at hc; exact ⟨some ⟨g, 0, none⟩, c', hc, hrow.at_⟩
      have hsy : ∀ a b, b ∈ nbN vs ls a → a ∈ nbN vs ls b := by rw [Hvs.out]; exact nbN_symm hok
      have hlt2 : ∀ v, v < vs.length → ∀ x ∈ nbN vs ls v, x < vs.length := fun v _ x hx => by
       rw [Hvs.out] at hx ⊢; exact (nbN_lt hok hx).1
      have hlen : ∀ v, v < vs.length → (nbN vs ls v).length ≤ 1000 := fun v _ => by have := nbN_len vs ls v; omega
      have hsum : restS vs.length (nbN vs ls) (fun _ => 0) ≤ 100000000 := by
       have h1 := restS_le hlen; have h2 : vs.length * 1000 ≤ 2000 * 1000 := Nat.mul_le_mul_right _ hvl; omega
      have hcuts := cuts_walk w3.heap.size vs.length (nbN vs ls) (-1) wr hG hsy hlt2 (by omega) (fun v hv => by have := hlen v hv; omega) hsum (by omega) (by omega); have hB4 := bl_trans hB3 hb; have h3n : ¬ vs.length < 3 := h3; clear hO hG hsy hlt2 hlen hsum hr3 hm hk hok hb; go_wp2_with fail; refine hcuts.mono ?_; rintro e w4 ⟨j, cut, gc, rfl, hrc, hgc, hb4, hspec⟩; have hB5 := bl_trans hB4 hb4; rw [Hvs.out] at hspec h3n; have hfin := two_many Hrt.out (by omega) hspec; rw [← Hvs.out] at hfin; have Hfin := Lib.hid hfin; clear hfin hspec hcuts h3n; cases j with
      | false =>
       go_wp2_with fail; go_ret; exact ⟨by rw [← Hfin.out] <;> rfl, hB5⟩
      | true =>
       go_wp2_with fail; refine (contains_true gc vs.length cut _ hrc (by omega)).mono ?_; rintro e w' ⟨rfl, rfl⟩; have hf2 := Hfin.out; rw [Bool.true_and] at hf2; have Hf2 := Lib.hid hf2; clear hf2; go_wp2_with fail; go_ret; exact ⟨by rw [← Hf2.out] <;> rfl, hB5⟩
end Go.Proofs.YtagcbnpahgfgmaaGreat
namespace Go.Proofs.YtagcbnpahgfgmaaGreat
open Go Go.RowKit
def RetC (w : World) (r : List (List Lk) × Int) (e : Ending) (w' : World) : Prop :=
 ∃ vo vals, e = .returned (.tuple #[vo, .int .i64 r.2]) ∧ LRows w' w.heap.size vo vals r.1 ∧ Below w.heap.size w w'
def RetF (w : World) (r : Int × Int × Bool × Int) (e : Ending) (w' : World) : Prop :=
 e = .returned (.tuple #[.int .i64 r.1, .int .i64 r.2.1, .bool r.2.2.1, .int .i64 r.2.2.2]) ∧ Below w.heap.size w w'
theorem getD_at {l : List Int} {j : Nat} (h : j < l.length) : l.getD j 0 = l[j] := by simp [List.getD, h]
theorem two_cells (w : World) (x y : Value) (t : TypeId) {g : Nat} (hg : g = w.heap.size) : (w.alloc (.cells #[x, y] t)).cell? ⟨g, 0, none⟩ = some x ∧ (w.alloc (.cells #[x, y] t)).cell? ⟨g, 1, none⟩ = some y := by
 subst hg; simp
set_option maxRecDepth 100000 in
set_option maxHeartbeats 4000000 in
theorem classes_walk (a : Option Addr) (cap : Nat) (ls : List Lk) (p q : Int) (w : World) (hr : RdL w a ls) (hcap : ls.length ≤ 9223372036854775807) (hp : WfZ p) (hq : WfZ q) :
  Calls Tryz.prog 92 #[.slice a ls.length cap, .int .i64 p, .int .i64 q] w (RetC w (classesL ls p q)) := by
 cases h2 : twoL ls with
 | false =>
  have hc : classesL ls p q = ([], 130) := by unfold classesL mayB; rw [h2]; simp
  have H2 := Lib.hid h2; have Hc := Lib.hid hc; clear h2 hc hp hq
  go_enter Tryz.func92, Tryz.ntmps92
  go_wp2_with fail
  refine (two_walk a cap ls _ hr hcap).mono ?_
  rw [H2.out]
  rintro e w1 ⟨rfl, hb1⟩
  go_wp2_with fail
  go_ret2
  rw [Hc.out]
  exact ⟨_, [], rfl, LRows.start _ _, hb1⟩
 | true =>
  by_cases hpq : p = q
  ·
   have hc : classesL ls p q = ([], 130) := by unfold classesL mayB; rw [hpq]; simp
   have e1 : (p == q) = true := by simpa using hpq
   have H2 := Lib.hid h2; have Hc := Lib.hid hc; clear h2 hc hp hq hpq; go_enter Tryz.func92, Tryz.ntmps92; go_wp2_with fail; refine (two_walk a cap ls _ hr hcap).mono ?_; rw [H2.out]; rintro e w1 ⟨rfl, hb1⟩; go_wp2_with fail; go_ret2; rw [Hc.out]; exact ⟨_, [], rfl, LRows.start _ _, hb1⟩
  ·
   have e1 : (p == q) = false := by simpa using hpq
   obtain ⟨vs, hvs⟩ : ∃ vs, vs = vertsL ls := ⟨_, rfl⟩
   have hvl : vs.length ≤ 2000 := by rw [hvs]; have := vertsL_length ls; have := (two_right h2).1; omega
   have hv0 : 0 < vs.length := by rw [hvs]; have := two_verts h2; omega
   have hn := (two_right h2).1; have hso : vs.Pairwise (· ≤ ·) := by rw [hvs]; exact (vertsL_sorted ls).imp fun h => by omega
   have hcl : classesL ls p q = if vs.contains p && vs.contains q then (groupsL ls [p, q], 0) else ([], 130) := by unfold classesL mayB; rw [h2, e1, ← hvs]; simp
   have Hvs := Lib.hid hvs; have Hso := Lib.hid hso; have Hcl := Lib.hid hcl; have H2 := Lib.hid h2; have Hp := Lib.hid hp; have Hq := Lib.hid hq; clear hvs hso hcl h2 hp hq hpq; have i0 : ∀ w, (Instr.index 62 (.agg #[.int .i64 p, .int .i64 q]) (.int .i64 ((0 : Nat) : Int))).run Tryz.prog w = .ok (.int .i64 p) w := fun _ => by kernel_rfl
   have j0 : ∀ w, (Instr.index 62 (.agg #[.int .i64 p, .int .i64 q]) (.int .i64 0)).run Tryz.prog w = .ok (.int .i64 p) w := fun _ => by kernel_rfl
   have j1 : ∀ w, (Instr.index 62 (.agg #[.int .i64 p, .int .i64 q]) (.int .i64 1)).run Tryz.prog w = .ok (.int .i64 q) w := fun _ => by kernel_rfl
   have i1 : ∀ w, (Instr.index 62 (.agg #[.int .i64 p, .int .i64 q]) (.int .i64 ((1 : Nat) : Int))).run Tryz.prog w = .ok (.int .i64 q) w := fun _ => by kernel_rfl
   go_enter Tryz.func92, Tryz.ntmps92; go_wp2_with fail; refine (two_walk a cap ls _ hr hcap).mono ?_; rw [H2.out]; rintro e w1 ⟨rfl, hb1⟩; go_wp2_with fail; refine (verts_walk a cap ls _ (hr.below hb1) (by omega)).mono ?_; rw [← Hvs.out]; rintro e w2 ⟨av, cv, rfl, hrv, _, hvc, hvm, hb2⟩; obtain ⟨b0, o0, rfl, _⟩ := hrv.at 0 hv0; have hB2 := bl_trans hb1 hb2; have hr2 := hr.below hB2; clear hb1 hb2 hr; go_wp2_with fail; go_loopg [26] 2 (fun r iv wj => ∃ k : Nat, k + r = 2 ∧ iv = .int .i64 k ∧ (1 ≤ k → vs.contains p = true) ∧ (2 ≤ k → vs.contains q = true) ∧ ∃ d, wj = w2.drewN d)
   case atStart => exact ⟨0, rfl, rfl, fun h => absurd h (by omega), fun h => absurd h (by omega), 0, rfl⟩
   case round =>
    obtain ⟨k, hk, rfl, h1, h2, d, rfl⟩ := hrel; have Hk := Lib.hid hk; have H1 := Lib.hid h1; have H2' := Lib.hid h2; clear h1 h2; rcases (show k = 0 ∨ k = 1 ∨ k = 2 by omega) with rfl | rfl | rfl
    ·
     clear hk; go_wp2_with fail; refine (Tryz.slices_BinarySearch_int b0 o0 vs.length cv vs p _ (Nat.le_refl _) (by omega) ?_ ?_).mono ?_
     ·
      intro j hj; obtain ⟨b', o', e', c'⟩ := hrv.at j hj; cases e'; rw [getD_at hj]; exact c'
     · rw [List.take_length]; exact Hso.out
     rintro e w' ⟨rfl, d', rfl⟩; rw [List.take_length]; cases hc : vs.contains p with
     | false =>
      have hcl : classesL ls p q = ([], 130) := by rw [Hcl.out, hc]; simp
      have Hcl2 := Lib.hid hcl; clear hcl hc; go_wp2_with fail; go_ret2; rw [Hcl2.out]; exact ⟨_, [], rfl, LRows.start _ _, below_drewN hB2 _⟩
     | true =>
      have Hc := Lib.hid hc; clear hc; go_wp2_with fail; go_roundg (gk - 1)
      case measure => have := Hk.out; omega
      case rel => exact ⟨1, by have := Hk.out; omega, by go_num, fun _ => Hc.out, fun h => absurd h (by omega), _, rfl⟩
    ·
     clear hk; go_wp2_with fail; refine (Tryz.slices_BinarySearch_int b0 o0 vs.length cv vs q _ (Nat.le_refl _) (by omega) ?_ ?_).mono ?_
     ·
      intro j hj; obtain ⟨b', o', e', c'⟩ := hrv.at j hj; cases e'; rw [getD_at hj]; exact c'
     · rw [List.take_length]; exact Hso.out
     rintro e w' ⟨rfl, d', rfl⟩; rw [List.take_length]; cases hc : vs.contains q with
     | false =>
      have hcl : classesL ls p q = ([], 130) := by rw [Hcl.out, hc]; simp
      have Hcl2 := Lib.hid hcl; clear hcl hc; go_wp2_with fail; go_ret2; rw [Hcl2.out]; exact ⟨_, [], rfl, LRows.start _ _, below_drewN hB2 _⟩
     | true =>
      have Hc := Lib.hid hc; clear hc; go_wp2_with fail; go_roundg (gk - 1)
      case measure => have := Hk.out; omega
      case rel => exact ⟨2, by have := Hk.out; omega, by go_num, fun _ => H1.out (by omega), fun _ => Hc.out, _, rfl⟩
    ·
     clear hk; have hcl2 : classesL ls p q = (groupsL ls [p, q], 0) := by rw [Hcl.out, H1.out (by omega), H2'.out (by omega)]; rfl
     have Hcl2 := Lib.hid hcl2; clear hcl2 i0 i1 j0 j1; have hbA := bl_trans (below_drewN (bl_refl w2) d) (bl_alloc (w2.drewN d) (.cells #[.int .i64 p, .int .i64 q] 3)); have hpq2 : RdI ((w2.drewN d).alloc (.cells #[.int .i64 p, .int .i64 q] 3)) (some ⟨w2.heap.size, 0, none⟩) [p, q] := by
      intro j v hj; refine ⟨w2.heap.size, 0, rfl, ?_⟩; have hsz : (w2.drewN d).heap.size = w2.heap.size := by simp
      match j with
      | 0 => simp at hj; subst hj; exact (two_cells _ _ _ _ hsz.symm).1
      | 1 => simp at hj; subst hj; exact (two_cells _ _ _ _ hsz.symm).2
      | j + 2 => simp at hj
     have hr3 := hr2.below hbA; have hwo : ∀ z ∈ [p, q], WfZ z := fun z hz => by
      simp at hz; rcases hz with rfl | rfl
      · exact Hp.out
      · exact Hq.out
     have Hwo := Lib.hid hwo; clear hwo; have hB3 := bl_trans hB2 hbA; go_wp2_with fail; refine (groups_walk a cap ls _ _ [p, q] _ hr3 hcap hpq2 (by simp) Hwo.out).mono ?_; rintro e w3 ⟨vo, vals, rfl, hL, hb3⟩; have hB4 := bl_trans hB3 hb3; have hszB := hB3.size; go_wp2_with fail; go_ret2; rw [Hcl2.out]; exact ⟨vo, vals, rfl, { hL with lo := fun g hg => by have := hL.lo g hg; omega, rlo := fun i u g hu hg => by have h1 := hL.rlo i u g hu hg; exact ⟨by omega, h1.2⟩ }, hB4⟩
end Go.Proofs.YtagcbnpahgfgmaaGreat
namespace Go.Proofs.YtagcbnpahgfgmaaGreat
open Go Go.RowKit
def RetNb (w : World) (n : Nat) (bs : Nat → List Nat) (e : Ending) (w' : World) : Prop :=
 ∃ g, e = .returned (.slice (some ⟨g, 0, none⟩) n n) ∧ RdG w' g n bs ∧ w.heap.size ≤ g ∧ Below w.heap.size w w'
set_option maxRecDepth 100000 in
set_option maxHeartbeats 8000000 in
theorem neighbours_walk (a : Option Addr) (cap : Nat) (ls : List Lk) (av : Option Addr) (cv : Nat) (vs : List Int) (w : World) (hr2 : RdL w a ls) (hRR : RightL ls) (hvs : vs = vertsL ls) (hrv : RdI w av vs) (hvc : vs.length ≤ cv) :
  Calls Tryz.prog 87 #[.slice a ls.length cap, .slice av vs.length cv] w (RetNb w vs.length (nbN vs ls)) := by
 have hn := hRR.1
 have HR := Lib.hid hRR; clear hRR
 have hvl : vs.length ≤ 2000 := by rw [hvs]; have := vertsL_length ls; omega
 have Hvs := Lib.hid hvs; clear hvs
 have hvn : vs.Nodup := by rw [Hvs.out]; exact verts_nodup ls
 have Hvn := Lib.hid hvn; clear hvn
 have hmm := run_makeMapZ
 have hmk := run_make_row' (P := Tryz.prog) 63 33 (.slice none 0 0) 24 Tryz.underlying63 ints_info2 rfl .i64 .i64 vs.length (by omega) (by omega)
 go_enter Tryz.func87, Tryz.ntmps87
 go_wp2_with fail
 go_loopg [18] vs.length (fun r i wr => ∃ (k c : Nat) (F : Int → Option Int), k + r = vs.length ∧ i = .int .i64 k ∧ c ≤ k ∧ MZ wr w.heap.size c F ∧ (∀ (j : Nat) (x : Int), j < k → vs[j]? = some x → F x = some (j : Int)) ∧ Below w.heap.size w wr)
 case atStart => exact ⟨0, 0, _, by omega, rfl, Nat.le_refl _, MZ.made w, fun j x hj => by omega, bl_alloc _ _⟩
 case round =>
  obtain ⟨k, c, F, hk, rfl, hck, hm, hF, hb⟩ := hrel
  by_cases hlt : k < vs.length
  ·
   obtain ⟨bv, ov, rfl, c0⟩ := (hrv.below hb).at k hlt; obtain ⟨z, hz⟩ : ∃ z, vs[k] = z := ⟨_, rfl⟩
   rw [hz] at c0; have hzm : z ∈ vertsL ls := by rw [← Hvs.out, ← hz]; exact List.getElem_mem hlt
   have hzb : 0 ≤ z ∧ z ≤ 1048576 := by
    obtain ⟨q, hq, e⟩ := (mem_vertsL ls z).1 hzm; have ok := HR.out.2.1 q hq; unfold OkL at ok; rcases e with rfl | rfl <;> omega
   have hwz : WfZ z := wfZ_of (by omega); have hF2 : ∀ (j : Nat) (x : Int), j < k + 1 → vs[j]? = some x → updF F z k x = some (j : Int) := fun j x hj hx => by
    by_cases e : j = k
    ·
     subst e; rw [List.getElem?_eq_getElem hlt, hz] at hx; cases hx; exact updF_same _ _ _
    ·
     have hjl := (List.getElem?_eq_some_iff.1 hx).1; rw [updF_ne _ _ fun e2 => ?_]
     · exact hF j x (by omega) hx
     ·
      rw [List.getElem?_eq_getElem hjl] at hx; exact e ((List.getElem_inj Hvn.out).1 ((Option.some.inj hx).trans (e2.trans hz.symm)))
   have HF2 := Lib.hid hF2; have Hwz := Lib.hid hwz; have Hk := Lib.hid hk; clear hF2 hwz hz hk hF hzm hzb; go_wp2_with (at_mapUpdate; refine wpList_put_MZ rfl _ _ _ rfl hm rfl rfl rfl Hwz.out (wfZ_of (by omega)) (by omega) ?_; intro w5 hm5 hg5); have hb5 : Below w.heap.size w w5 := hb.grown hg5 hb.size (fun j hj => by cases hj; exact Nat.le_refl _); have hc5 : (if (F z).isSome then c else c + 1) ≤ k + 1 := by split <;> omega
   clear hg5 hm; go_roundg (gk - 1)
   case measure => have := Hk.out; omega
   case rel => exact ⟨k + 1, _, _, by have := Hk.out; omega, by go_num, hc5, hm5, HF2.out, hb5⟩
  ·
   have hkl : k = vs.length := by omega
   subst hkl; obtain ⟨w3, rfl⟩ : ∃ w3 : World, w3 = wr := ⟨_, rfl⟩
   have hr3 := hr2.below hb; have hB3 := hb; have hF0 : ∀ x, x ∈ vertsL ls → F x = some ((vs.idxOf x : Nat) : Int) := fun x hx => by
    rw [← Hvs.out] at hx; exact hF _ x (List.idxOf_lt_length_of_mem hx) (get_idxOf hx)
   have HF := Lib.hid hF0; clear hF hF0 hk hr2 hb hrv; have hok0 : nbRows vs.length vs (ls.take 0) = List.replicate vs.length [] := by
    apply List.ext_getElem (by simp [nbRows]); intro i h1 h2; simp [nbRows, nbN]
   have Hok0 := Lib.hid hok0; clear hok0; have hzm3 := hm.lt; go_wp2_with fail; go_loopg [32] ls.length (fun r i wr => ∃ (k : Nat) (vals : List Value), k + r = ls.length ∧ i = .int .i64 k ∧ OwnRows wr w3.heap.size 33 3 vs.length vals (nbRows vs.length vs (ls.take k)) ∧ Below w3.heap.size w3 wr ∧ w3.heap.size < wr.heap.size)
   case atStart => exact ⟨0, _, by omega, rfl, by rw [Hok0.out]; exact ownRows_made w3 vs.length _ _ (by unfold maxLen; omega), bl_alloc _ _, by simp⟩
   case round =>
    obtain ⟨k, vals, hk, rfl, hO, hb, hsz⟩ := hrel; by_cases hlt : k < ls.length
    ·
     obtain ⟨b, o, rfl, c0, c1, c2⟩ := (hr3.below hb).at k hlt; have hok := HR.out.2.1 _ (List.getElem_mem hlt); have hmemk := List.getElem_mem hlt; have hstep := fun (A B : Nat) (hA : vs.idxOf ls[k].1 = A) (hBe : vs.idxOf ls[k].2.1 = B) => nbRows_step (n := vs.length) (vs := vs) hlt hA hBe; obtain ⟨⟨x, y, z⟩, hx⟩ : ∃ x : Lk, ls[k] = x := ⟨_, rfl⟩
     rw [hx] at c0 c1 c2 hok hmemk hstep; obtain ⟨k0, k1, k2, k3, k4⟩ := hok; simp only at c0 c1 c2 k0 k1 k2 k3 k4 hstep; have hxm : x ∈ vertsL ls := (mem_vertsL ls x).2 ⟨_, hmemk, .inl rfl⟩; have hym : y ∈ vertsL ls := (mem_vertsL ls y).2 ⟨_, hmemk, .inr rfl⟩; obtain ⟨A, hA⟩ : ∃ A, vs.idxOf x = A := ⟨_, rfl⟩
     obtain ⟨B, hBe⟩ : ∃ B, vs.idxOf y = B := ⟨_, rfl⟩
     have hAn : A < vs.length := by rw [← hA]; exact List.idxOf_lt_length_of_mem (by rw [Hvs.out]; exact hxm)
     have hBn : B < vs.length := by rw [← hBe]; exact List.idxOf_lt_length_of_mem (by rw [Hvs.out]; exact hym)
     have hAB : A ≠ B := fun e => by
      have := idxOf_inj (vs := vs) (by rw [Hvs.out]; exact hxm) (by rw [Hvs.out]; exact hym) (by rw [hA, hBe, e]); omega
     have hst := hstep A B hA hBe hAB hAn hBn; have hFx := HF.out x hxm; have hFy := HF.out y hym; rw [hA] at hFx; rw [hBe] at hFy; have hl1 : ∀ n, (Instr.lookup 35 (.map (some w.heap.size)) (.int .i64 x) false).run Tryz.prog ((wr.alloc (.cells #[.int .i64 x, .int .i64 y, .int .i64 z] 38)).drewN n) = .ok (.int .i64 A) ((wr.alloc (.cells #[.int .i64 x, .int .i64 y, .int .i64 z] 38)).drewN n) := fun n => by
      have := ((hm.below (bl_trans hb (bl_alloc wr (.cells #[.int .i64 x, .int .i64 y, .int .i64 z] 38)))).block (w' := (wr.alloc (.cells #[.int .i64 x, .int .i64 y, .int .i64 z] 38)).drewN n) rfl).look (v := x) (wfZ_of (by omega)); rw [hFx] at this; exact this
     have hl2 : ∀ n, (Instr.lookup 35 (.map (some w.heap.size)) (.int .i64 y) false).run Tryz.prog ((wr.alloc (.cells #[.int .i64 x, .int .i64 y, .int .i64 z] 38)).drewN n) = .ok (.int .i64 B) ((wr.alloc (.cells #[.int .i64 x, .int .i64 y, .int .i64 z] 38)).drewN n) := fun n => by
      have := ((hm.below (bl_trans hb (bl_alloc wr (.cells #[.int .i64 x, .int .i64 y, .int .i64 z] 38)))).block (w' := (wr.alloc (.cells #[.int .i64 x, .int .i64 y, .int .i64 z] 38)).drewN n) rfl).look (v := y) (wfZ_of (by omega)); rw [hFy] at this; exact this
     have Hst := Lib.hid hst; have Hk := Lib.hid hk; clear hst hstep hx hk hmemk hxm hym hA hBe hFx hFy; go_wp2_with fail; go_quiet (fail)
     have hO1 := (hO.alloc (.cells #[.int .i64 x, .int .i64 y, .int .i64 z] 38)).drewN nq; have hbl1 : Below w3.heap.size w3 ((wr.alloc (.cells #[.int .i64 x, .int .i64 y, .int .i64 z] 38)).drewN nq) := below_drewN (bl_trans hb (bl_alloc _ _)) _; have hsz1 : w3.heap.size < ((wr.alloc (.cells #[.int .i64 x, .int .i64 y, .int .i64 z] 38)).drewN nq).heap.size := by simp; omega
     generalize (wr.alloc (.cells #[.int .i64 x, .int .i64 y, .int .i64 z] 38)).drewN nq = wX at hO1 hbl1 hsz1 ⊢; clear hl1 hl2 hO hb c0 c1 c2; have hvl0 : vals.length = vs.length := by rw [hO1.len]; simp [nbRows]
     obtain ⟨u, hu⟩ : ∃ u, vals[A]? = some u := ⟨vals[A]'(by omega), by simp⟩
     have hrA := nbRows_get (vs := vs) (ls := ls.take k) hAn; have hown := hO1.own A u _ hu hrA; rw [List.length_map] at hown; have hln := nbN_take_len vs ls k A hn; have hln2 := nbN_take_len vs ls k B hn; have hcA : wX.cell? ⟨w3.heap.size, A, none⟩ = some u := by rw [hO1.outer.cell? A (by omega)]; exact hu
     have hfA := hO1.outer.frozen A; have hneA := hO1.ne_outer hu; obtain ⟨rA, hrAe⟩ : ∃ r, r = nbN vs (ls.take k) A := ⟨_, rfl⟩
     obtain ⟨rB, hrBe⟩ : ∃ r, r = nbN vs (ls.take k) B := ⟨_, rfl⟩
     rw [← hrAe] at hrA hown hln; rw [← hrBe] at hln2; have hrB := nbRows_get (vs := vs) (ls := ls.take k) hBn; have Hst2 := Hst.out; rw [← hrBe] at hrB Hst2; rw [← hrAe] at Hst2; have HO1 := Lib.hid hO1; have HrA := Lib.hid hrA; have HrB := Lib.hid hrB; have Hu := Lib.hid hu; have Hst3 := Lib.hid Hst2; have Hvl0 := Lib.hid hvl0; clear hO1 hrA hrB hu Hst2 hvl0 hrAe hrBe Hst; have iA0 : (0 : Int) ≤ (A : Int) := by omega
     have iA1 : (A : Int) < (vs.length : Int) := by omega
     have iB0 : (0 : Int) ≤ (B : Int) := by omega
     have iB1 : (B : Int) < (vs.length : Int) := by omega
     go_upto_region 13 with (at_builtin; refine wpList_append_row _ rfl (.tmp 49) (.tmp 51) 33 rfl 3 (.int .i64 0) 1 8 Tryz.underlying33 int_info rfl u _ _ rfl (hown.alloc _) ⟨wX.heap.size, 0, none⟩ 1 1 [.int .i64 B] rfl rfl (one_new (cell_new1 rfl)) (one_ok _ _) (by omega) (by unfold maxLen; omega) (by omega) ?_; intro g5 cc5 w5 hr5 hc5 hg5 hor5; obtain ⟨q1⟩ : PLift (w5.cell? ⟨w3.heap.size, A, none⟩ = some u) := ⟨grown_cell hg5 (keep_cell (bl_alloc _ _) hcA) hneA⟩; obtain ⟨q2⟩ : PLift (w5.frozen? ⟨w3.heap.size, A, none⟩ = false) := ⟨grown_frozen hg5 (by simp; omega) ((((bl_alloc wX (.cells #[.int .i64 B] 3)).frozen (p := ⟨w3.heap.size, A, none⟩) hsz1)).trans hfA) hneA⟩)
     have hst1 := (HO1.out.alloc (.cells #[.int .i64 B] 3)).stored Hu.out HrA.out hr5 hg5 (hor5.imp id (fun h => by simpa using h)); have hbl5 : Below w3.heap.size w3 (w5.setCell ⟨w3.heap.size, A, none⟩ (.slice (some ⟨g5, 0, none⟩) (rA.length + 1) cc5)) := ((bl_trans hbl1 (bl_alloc _ _)).grown hg5 (by simp; omega) (fun j hj => by have := (HO1.out.young A u j Hu.out hj); omega)).setCell (by simp) _; rw [show (rA.map vN ++ [Value.int .i64 (B : Int)]) = rA.map vN ++ [vN B] from rfl, show (rA.map vN ++ [vN B]).length = rA.length + 1 by simp] at hst1; have hsz5 : w3.heap.size < (w5.setCell ⟨w3.heap.size, A, none⟩ (.slice (some ⟨g5, 0, none⟩) (rA.length + 1) cc5)).heap.size := by have := hg5.size; simp at this ⊢; omega
     generalize w5.setCell ⟨w3.heap.size, A, none⟩ (.slice (some ⟨g5, 0, none⟩) (rA.length + 1) cc5) = wY at hst1 hbl5 hsz5 ⊢; clear hr5 hg5 hor5 q1 q2 hcA hfA hneA hown hbl1 hsz1; generalize vals.set A (.slice (some ⟨g5, 0, none⟩) (rA.length + 1) cc5) = vals2 at hst1; have hvl2 : vals2.length = vs.length := by rw [hst1.len]; simp [nbRows]
     obtain ⟨u2, hu2⟩ : ∃ u, vals2[B]? = some u := ⟨vals2[B]'(by omega), by simp⟩
     have hrB2 : ((nbRows vs.length vs (ls.take k)).set A (rA.map vN ++ [vN B]))[B]? = some (rB.map vN) := by rw [List.getElem?_set, if_neg hAB]; exact HrB.out
     have hown2 := hst1.own B u2 _ hu2 hrB2; rw [List.length_map] at hown2; have hcB : wY.cell? ⟨w3.heap.size, B, none⟩ = some u2 := by rw [hst1.outer.cell? B (by omega)]; exact hu2
     have hfB := hst1.outer.frozen B; have hneB := hst1.ne_outer hu2; have HS1 := Lib.hid hst1; have HrB2 := Lib.hid hrB2; have Hu2 := Lib.hid hu2; clear hst1 hrB2 hu2 hvl2; go_upto_region 14 with (at_builtin; refine wpList_append_row _ rfl (.tmp 59) (.tmp 61) 33 rfl 3 (.int .i64 0) 1 8 Tryz.underlying33 int_info rfl u2 _ _ rfl (hown2.alloc _) ⟨wY.heap.size, 0, none⟩ 1 1 [.int .i64 A] rfl rfl (one_new (cell_new1 rfl)) (one_ok _ _) (by omega) (by unfold maxLen; omega) (by omega) ?_; intro g6 cc6 w6 hr6 hc6 hg6 hor6; obtain ⟨q1⟩ : PLift (w6.cell? ⟨w3.heap.size, B, none⟩ = some u2) := ⟨grown_cell hg6 (keep_cell (bl_alloc _ _) hcB) hneB⟩; obtain ⟨q2⟩ : PLift (w6.frozen? ⟨w3.heap.size, B, none⟩ = false) := ⟨grown_frozen hg6 (by simp; omega) ((((bl_alloc wY (.cells #[.int .i64 A] 3)).frozen (p := ⟨w3.heap.size, B, none⟩) hsz5)).trans hfB) hneB⟩)
     have hst2 := (HS1.out.alloc (.cells #[.int .i64 A] 3)).stored Hu2.out HrB2.out hr6 hg6 (hor6.imp id (fun h => by simpa using h)); have hbl6 : Below w3.heap.size w3 (w6.setCell ⟨w3.heap.size, B, none⟩ (.slice (some ⟨g6, 0, none⟩) (rB.length + 1) cc6)) := ((bl_trans hbl5 (bl_alloc _ _)).grown hg6 (by simp; omega) (fun j hj => by have := (HS1.out.young B u2 j Hu2.out hj); omega)).setCell (by simp) _; rw [show (rB.map vN ++ [Value.int .i64 (A : Int)]) = rB.map vN ++ [vN A] from rfl, show (rB.map vN ++ [vN A]).length = rB.length + 1 by simp, Hst3.out] at hst2; have hsz6 : w3.heap.size < (w6.setCell ⟨w3.heap.size, B, none⟩ (.slice (some ⟨g6, 0, none⟩) (rB.length + 1) cc6)).heap.size := by have := hg6.size; simp at this ⊢; omega
     clear hr6 hg6 hor6 q1 q2 hcB hfB hneB hown2 hbl5 hsz5; go_wp2_with fail; go_roundg (gk - 1)
     case measure => have := Hk.out; omega
     case rel => exact ⟨k + 1, _, by have := Hk.out; omega, by go_num, hst2, hbl6, hsz6⟩
    ·
     have hkl : k = ls.length := by omega
     subst hkl; rw [List.take_length] at hO; have hok := HR.out.2.1; have hG : RdG wr w3.heap.size vs.length (nbN vs ls) := fun v hv => by
      have hvl0 : vals.length = vs.length := by rw [hO.len]; simp [nbRows]
      obtain ⟨u, hu⟩ : ∃ u, vals[v]? = some u := ⟨vals[v]'(by omega), by simp⟩
      have hrA := nbRows_get (vs := vs) (ls := ls) hv; have hown := hO.own v u _ hu hrA; have hc : wr.cell? ⟨w3.heap.size, v, none⟩ = some u := by rw [hO.outer.cell? v (by omega)]; exact hu
      rcases hown.2 with ⟨rfl, h0⟩ | ⟨g, c', rfl, _, hrow⟩
      ·
       rw [List.length_map] at h0; have hnil := List.eq_nil_of_length_eq_zero h0; exact ⟨none, 0, by rw [hc, hnil]; rfl, by rw [hnil]; intro i u hu; simp at hu⟩
      ·
       rw [List.length_map] at hc; exact ⟨some ⟨g, 0, none⟩, c', hc, hrow.at_⟩
     have hB4 := bl_trans hB3 hb; have hszw := hB3.size; clear hO hr3 hm hk hok hb; go_wp2_with fail; go_ret; exact ⟨_, rfl, hG, hszw, hB4⟩
end Go.Proofs.YtagcbnpahgfgmaaGreat
