/- joint.Cuts, walked. -/
import Derived.Test.YtagcbnpahgfgmaaCutsM
namespace Go.Proofs.Ytagcbnpahgfgmaa
open Go Go.RowKit

set_option maxRecDepth 100000 in
set_option maxHeartbeats 4000000 in
theorem cuts_walk (G n : Nat) (bs : Nat → List Nat) (gone : Int) (w : World) (hG : RdG w G n bs) (hsy : ∀ a b, b ∈ bs a → a ∈ bs b) (hbs : ∀ v, v < n → ∀ x ∈ bs v, x < n)
    (hn : n ≤ 100000) (hlen : ∀ v, v < n → (bs v).length ≤ 100000) (hsum : restS n bs (fun _ => 0) ≤ 100000000) (hg : -1 ≤ gone) (hgn : gone < n) :
    Calls Try.prog 13 #[.slice (some ⟨G, 0, none⟩) n n, .int .i64 gone] w (RetCuts w n bs gone) := by
  obtain ⟨left, hleft⟩ : ∃ l : Nat, l = ((List.range n).filter (presB gone)).length := ⟨_, rfl⟩
  have hleft2 := left_len n gone hg hgn
  rw [← hleft] at hleft2
  obtain ⟨root, hroot⟩ : ∃ r : Nat, r = if gone = 0 then 1 else 0 := ⟨_, rfl⟩
  have Hleft := Lib.hid hleft; have Hleft2 := Lib.hid hleft2; have Hroot := Lib.hid hroot; have Hsy := Lib.hid hsy; have Hbs := Lib.hid hbs; have Hlen := Lib.hid hlen; have Hsum := Lib.hid hsum
  clear hleft hleft2 hroot hsy hbs hlen hsum
  have hmi := run_make_row' (P := Try.prog) 38 3 (.int .i64 0) 8 Try.underlying38 int_info rfl .i64 .i64 n (by omega) (by omega)
  have hmb := run_make_row' (P := Try.prog) 42 4 (.bool false) 1 Try.underlying42 bool_info rfl .i64 .i64 n (by omega) (by omega)
  go_enter Try.func13, Try.ntmps13
  go_upto_if 26 with (fail)
  obtain ⟨w0, hw0⟩ : ∃ w0, w0 = w.alloc (.cells (madeCells #[.bool false] n) 4) := ⟨_, rfl⟩
  rw [← hw0]
  have hb0 : Below w.heap.size w w0 := by rw [hw0]; exact bl_alloc _ _
  have hrc0 : Row w0 w.heap.size 4 1 n (rowB n fun _ => false) := by
    have := row_made w (.bool false) n 4 (by unfold maxLen; omega)
    rw [rowB_zero] at this
    rw [hw0]; exact this
  have hz0 : w0.heap.size = w.heap.size + 1 := by rw [hw0]; simp
  have Hz0 := Lib.hid hz0; clear hw0 hz0
  go_cut [8, 9] (fun r l wx => r = .int .i64 (root : Int) ∧ l = .int .i64 (left : Int) ∧ w0 = wx)
  case first =>
    by_cases h0 : 0 ≤ gone
    · by_cases h1 : gone = 0
      · subst h1
        have e1 : root = 1 := by rw [Hroot.out]; simp
        have e2 : (left : Int) = (n : Int) - 1 := by rw [Hleft2.out]; simp
        go_wp2_with fail
        go_meet
        exact ⟨by rw [e1]; rfl, by rw [e2], rfl⟩
      · have g1 : (gone == 0) = false := by simpa using h1
        have e1 : root = 0 := by rw [Hroot.out, if_neg h1]
        have e2 : (left : Int) = (n : Int) - 1 := by rw [Hleft2.out, if_pos h0]
        go_wp2_with fail
        go_meet
        exact ⟨by rw [e1]; rfl, by rw [e2], rfl⟩
    · have e1 : root = 0 := by rw [Hroot.out, if_neg (by omega)]
      have e2 : (left : Int) = (n : Int) := by rw [Hleft2.out, if_neg h0]
      go_wp2_with fail
      go_meet
      exact ⟨by rw [e1]; rfl, by rw [e2], rfl⟩
  case rest =>
  obtain ⟨rfl, rfl, rfl⟩ := hcut
  by_cases hl : left = 0
  · have hno : ∀ v, ¬ Pres n gone v := fun v hv => by
      have h1 : v ∈ (List.range n).filter (presB gone) := by simp only [List.mem_filter, List.mem_range, presB, decide_eq_true_eq]; exact hv
      have := List.length_pos_of_mem h1
      rw [← Hleft.out] at this; omega
    have Hno := Lib.hid hno; clear hno
    have hl' : (left : Int) < 1 := by omega
    go_wp2_with fail
    go_ret2
    exact ⟨true, fun _ => false, w.heap.size, rfl, hrc0, Nat.le_refl _, hb0, cut_none Hno.out⟩
  have hpres : Pres n gone root := by
    have h2 := Hleft2.out
    rw [Hroot.out]
    by_cases h1 : gone = 0
    · rw [if_pos h1]; rw [if_pos (by omega)] at h2; exact ⟨by omega, by omega⟩
    · rw [if_neg h1]
      refine ⟨?_, by simp; omega⟩
      by_cases h3 : 0 ≤ gone
      · rw [if_pos h3] at h2; omega
      · rw [if_neg h3] at h2; omega
  have hrn0 := hpres.1
  have Hpres := Lib.hid hpres; clear hpres
  have hl' : (1 : Int) ≤ (left : Int) := by omega
  have hleftn : left ≤ n := by have := Hleft2.out; split at this <;> omega
  have hmade : ∀ W : World, Row (W.alloc (.cells (madeCells #[.int .i64 0] n) 3)) W.heap.size 3 1 n (rowN n fun _ => 0) := fun W => by
    have := row_made W (.int .i64 0) n 3 (by unfold maxLen; omega)
    rwa [rowN_zero] at this
  have htwo : ∀ W : World, Row (((W.alloc (.cells (madeCells #[.int .i64 0] n) 3)).alloc (.cells (madeCells #[.int .i64 0] n) 3)).drew) W.heap.size 3 1 n (rowN n fun _ => 0) ∧
      Row (((W.alloc (.cells (madeCells #[.int .i64 0] n) 3)).alloc (.cells (madeCells #[.int .i64 0] n) 3)).drew) (W.heap.size + 1) 3 1 n (rowN n fun _ => 0) ∧
      Below W.heap.size W (((W.alloc (.cells (madeCells #[.int .i64 0] n) 3)).alloc (.cells (madeCells #[.int .i64 0] n) 3)).drew) := fun W => by
    refine ⟨((hmade W).alloc _).drew, ?_, Below.drew (bl_trans (bl_alloc _ _) (bl_alloc _ _))⟩
    have := (hmade (W.alloc (.cells (madeCells #[.int .i64 0] n) 3))).drew
    simpa using this
  have Htwo := Lib.hid htwo; clear hmade htwo
  go_upto_region 10 with (fail)
  go_cut [10, 11] (fun a b wx => ∃ gn gl, a = .slice (some ⟨gn, 0, none⟩) n n ∧ b = .slice (some ⟨gl, 0, none⟩) n n ∧ Row wx gn 3 1 n (rowN n fun _ => 0) ∧ Row wx gl 3 1 n (rowN n fun _ => 0) ∧ gn ≠ gl ∧ w0.heap.size ≤ gn ∧ w0.heap.size ≤ gl ∧ Below w0.heap.size w0 wx)
  case first =>
    obtain ⟨t1, t2, t3⟩ := Htwo.out w0
    go_region
    · go_wp2_with fail
      go_meet
      first
        | exact ⟨_, _, rfl, rfl, t1, t2, by omega, by omega, by omega, t3⟩
        | exact ⟨_, _, rfl, rfl, t2, t1, by omega, by omega, by omega, t3⟩
    · go_wp2_with fail
      go_meet
      first
        | exact ⟨_, _, rfl, rfl, t1, t2, by omega, by omega, by omega, t3⟩
        | exact ⟨_, _, rfl, rfl, t2, t1, by omega, by omega, by omega, t3⟩
  case rest =>
  obtain ⟨gn, gl, rfl, rfl, hrn, hrl, hnl, hgn0, hgl0, hb1⟩ := hcut
  have hrc1 := hrc0.below hb1 hrc0.lt
  have hB1 := bl_trans hb0 hb1
  have hz1 := hb1.size
  have hzn := hrn.lt
  have hzl := hrl.lt
  have hz0 : w.heap.size < w0.heap.size := by rw [Hz0.out]; omega
  clear hrc0 hb0 hb1
  obtain ⟨w1, hw1⟩ : ∃ w1 : World, w1 = wc := ⟨_, rfl⟩
  subst hw1
  go_upto_region 11 with (fail)
  go_cut [12, 13] (fun a b wx => ∃ gu ga, a = .slice (some ⟨gu, 0, none⟩) n n ∧ b = .slice (some ⟨ga, 0, none⟩) n n ∧ Row wx gu 3 1 n (rowN n fun _ => 0) ∧ Row wx ga 3 1 n (rowN n fun _ => 0) ∧ gu ≠ ga ∧ w1.heap.size ≤ gu ∧ w1.heap.size ≤ ga ∧ Below w1.heap.size w1 wx)
  case first =>
    obtain ⟨t1, t2, t3⟩ := Htwo.out w1
    go_region
    · go_wp2_with fail
      go_meet
      first
        | exact ⟨_, _, rfl, rfl, t1, t2, by omega, by omega, by omega, t3⟩
        | exact ⟨_, _, rfl, rfl, t2, t1, by omega, by omega, by omega, t3⟩
    · go_wp2_with fail
      go_meet
      first
        | exact ⟨_, _, rfl, rfl, t1, t2, by omega, by omega, by omega, t3⟩
        | exact ⟨_, _, rfl, rfl, t2, t1, by omega, by omega, by omega, t3⟩
  case rest =>
  obtain ⟨gu, ga, rfl, rfl, hru, hra, hua, hgu0, hga0, hb2⟩ := hcut
  have hrc2 := hrc1.below hb2 hrc1.lt
  have hrn2 := hrn.below hb2 hrn.lt
  have hrl2 := hrl.below hb2 hrl.lt
  have hB2 := bl_trans hB1 hb2
  have hzu := hru.lt
  have hza := hra.lt
  obtain ⟨w2, hw2⟩ : ∃ w2 : World, w2 = wc := ⟨_, rfl⟩
  subst hw2
  have hm1 : CM (((w2.setCell ⟨gn, root, none⟩ (vN 1)).setCell ⟨gl, root, none⟩ (vN 1)).alloc (.cells #[.int .i64 root] 3)) w.heap.size gn gl gu ga w.heap.size w2.heap.size 1 n (CS.start root).num (CS.start root).low (CS.start root).up (CS.start root).at_ (CS.start root).cut [root] := by
    have q1 := ((hrn2.set root (vN 1)).other (a := ⟨gl, root, none⟩) hnl (vN 1)).alloc (.cells #[.int .i64 root] 3)
    have q2 := ((hrl2.other (a := ⟨gn, root, none⟩) hnl.symm (vN 1)).set root (vN 1)).alloc (.cells #[.int .i64 root] 3)
    rw [rowN_set] at q1 q2
    have q : ∀ {g e vs} (_ : Row w2 g e 1 n vs), g ≠ gn → g ≠ gl → Row (((w2.setCell ⟨gn, root, none⟩ (vN 1)).setCell ⟨gl, root, none⟩ (vN 1)).alloc (.cells #[.int .i64 root] 3)) g e 1 n vs := fun h h1 h2 => ((h.other (a := ⟨gn, root, none⟩) h1 _).other (a := ⟨gl, root, none⟩) h2 _).alloc _
    refine ⟨q1, q2, q hru (by omega) (by omega), q hra (by omega) (by omega), q hrc2 (by omega) (by omega), ?_, ⟨hnl, by omega, by omega, by omega, by omega, by omega, by omega, hua, by omega, by omega⟩, ⟨by omega, by omega, by omega, by omega, by omega⟩, ⟨by omega, by omega, by omega, by omega, by omega, by omega⟩⟩
    have := row_lit ((w2.setCell ⟨gn, root, none⟩ (vN 1)).setCell ⟨gl, root, none⟩ (vN 1)) [vN root] 3 (by unfold maxLen; simp)
    simpa [vN] using this
  have hB3 : Below w.heap.size w (((w2.setCell ⟨gn, root, none⟩ (vN 1)).setCell ⟨gl, root, none⟩ (vN 1)).alloc (.cells #[.int .i64 root] 3)) := ((hB2.setCell (by simp; omega) _).setCell (by simp; omega) _).alloc (by simp; omega) _
  have f1 := hrn2.atN hrn0
  have f2 := hrn2.frozen root
  have f3 : (w2.setCell ⟨gn, root, none⟩ (.int .i64 1)).cell? ⟨gl, root, none⟩ = some (.int .i64 0) := by rw [World.cell?_setCell_far _ _ _ _ (by simpa using hnl)]; exact hrl2.atN hrn0
  have f4 := (hrl2.other (a := ⟨gn, root, none⟩) hnl.symm (.int .i64 1)).frozen root
  have ir1 : (root : Int) < (n : Int) := by omega
  have ir0 : (0 : Int) ≤ (root : Int) := by omega
  go_wp2_with fail
  go_loopg [14, 15, 16] (2 * restS n bs (fun _ => 0) + 1) (fun q vm vk vs wr => ∃ (s : CS) (st : List Nat) (gs cs : Nat), s.stack = st ∧ vm = .int .i64 (s.met : Int) ∧ vk = .int .i64 (s.kids : Int) ∧ vs = .slice (some ⟨gs, 0, none⟩) st.length cs ∧
    CM wr w.heap.size gn gl gu ga w.heap.size gs cs n s.num s.low s.up s.at_ s.cut st ∧ Below w.heap.size w wr ∧ CT n bs gone root s ∧ CL n bs gone root s ∧ 2 * restS n bs s.at_ + st.length ≤ q ∧ s.kids + 2 * restS n bs s.at_ + st.length ≤ 200000001)
  case atStart =>
    have h1 := Hsum.out
    exact ⟨CS.start root, [root], w2.heap.size, 1, rfl, rfl, rfl, rfl, hm1, hB3, CT.start Hpres.out, CL.start, Nat.le_refl _, by show 0 + 2 * restS n bs (fun _ => 0) + 1 ≤ _; omega⟩
  case round =>
    clear hm1 hB3 f1 f2 f3 f4
    obtain ⟨s, st, gs, cs, hst, rfl, rfl, rfl, hm, hb, hT, hL, hq, hk⟩ := hrel
    have hmet := hT.met_le
    cases st with
    | nil =>
      have hend := cut_end hT hL Hsy.out hst left Hleft.out
      have Hend := Lib.hid hend; have Hst := Lib.hid hst
      clear hend hst hT hL
      have hrc := hm.rc
      have c1 := hrc.atB hrn0
      have c2 := hrc.frozen root
      have hrc' := hrc.set root (.bool (decide (1 < s.kids)))
      rw [rowB_set] at hrc'
      have e1 : decide ((1 : Int) < (s.kids : Int)) = decide (1 < s.kids) := by rw [decide_eq_decide]; omega
      have e2 : ((s.met : Int) == (left : Int)) = decide (s.met = left) := by rw [Bool.eq_iff_iff]; simp; omega
      have E1 := Lib.hid e1; have E2 := Lib.hid e2
      clear e1 e2 hm
      go_wp2_with fail
      go_ret2
      refine ⟨decide (s.met = left), upd s.cut root (decide (1 < s.kids)), w.heap.size, by rw [E2.out] <;> rfl, ?_, Nat.le_refl _, hb.setCell (by simp) _, Hend.out⟩
      rw [E1.out]; exact hrc'
    | cons v r =>
      have hvs : v ∈ s.stack := by rw [hst]; simp
      have hvz := hT.stV v hvs
      have hvn : v < n := (hT.numP v hvz).1
      have hta := hT.atLe v
      have hlv := Hlen.out v hvn
      have c1 : wr.cell? ⟨gs, r.length, none⟩ = some (.int .i64 v) := by rw [hm.rs.cell? r.length (by simp)]; simp [vN]
      obtain ⟨au, cu, c2, hau⟩ := (hG.below hb) v hvn
      have c3 := hm.ra.atN hvn
      have hrl : r.length ≤ 200000001 := by simp only [List.length_cons] at hk; omega
      have iv0 : (0 : Int) ≤ (v : Int) := by omega
      have iv1 : (v : Int) < (n : Int) := by omega
      have ir2 : (0 : Int) ≤ (r.length : Int) := by omega
      by_cases hlt : s.at_ v < (bs v).length
      · obtain ⟨x, hx⟩ : ∃ x, (bs v)[s.at_ v]? = some x := ⟨(bs v)[s.at_ v], by simp⟩
        have hxn : x < n := Hbs.out v hvn x (List.mem_of_getElem? hx)
        obtain ⟨b, o, rfl, c4⟩ := hau (s.at_ v) (vN x) (by simp [hx])
        simp only [vN] at c4
        have it0 : (0 : Int) ≤ (s.at_ v : Int) := by omega
        have it1 : (s.at_ v : Int) < ((bs v).length : Int) := by omega
        have ix0 : (0 : Int) ≤ (x : Int) := by omega
        have ix1 : (x : Int) < (n : Int) := by omega
        have hrest := restS_inc hvn hlt
        have Hrest := Lib.hid hrest; have Hx := Lib.hid hx; have Hst := Lib.hid hst; have Hq := Lib.hid hq; have Hk := Lib.hid hk
        clear hrest hx hst hq hk hau
        go_wp2_with fail
        go_quiet (fail)
        go_wp2_with fail
        go_quiet (fail)
        go_upto_region 19 with (fail)
        generalize hN : World.drewN _ _ = wd
        have hbd : Below wr.heap.size wr wd := by subst hN; exact below_drewN (below_drewN (Below.refl _ _) _) _
        clear hN
        replace hm := hm.ext hbd
        replace hb := bl_trans hb hbd
        replace c3 := keep_cell hbd c3
        have f3 := hm.ra.frozen v
        clear hbd c1 c2 c4
        have hmT := hm.set_at v (s.at_ v + 1)
        rw [show vN (s.at_ v + 1) = Value.int .i64 ((s.at_ v : Int) + 1) by simp [vN]] at hmT
        have hbT : Below w.heap.size w (wd.setCell ⟨ga, v, none⟩ (Value.int .i64 ((s.at_ v : Int) + 1))) := hb.setCell (by simpa using hm.lo.2.2.2.1) _
        go_upto_region 20 with (fail)
        generalize wd.setCell ⟨ga, v, none⟩ (Value.int .i64 ((s.at_ v : Int) + 1)) = wt at hmT hbT ⊢
        clear hm hb c3 f3
        by_cases hgone : (x : Int) = gone
        · have g1 : ((x : Int) == gone) = true := by simpa using hgone
          have Hgone := Lib.hid hgone; clear hgone
          go_wp2_with fail
          go_roundg (gk - 1)
          case measure => have := Hq.out; have := Hrest.out; omega
          case rel =>
            have h1 := Hq.out; have h2 := Hrest.out; have h3 := Hk.out
            exact ⟨s.skip v, v :: r, gs, cs, Hst.out, rfl, rfl, rfl, hmT, hbT, hT.skipLike Hst.out Hx.out (fun hp => absurd Hgone.out hp.2) s.low, hL.skip Hx.out (fun hp => hp.2 Hgone.out),
              by show 2 * restS n bs (upd s.at_ v (s.at_ v + 1)) + _ ≤ _; omega, by show s.kids + 2 * restS n bs (upd s.at_ v (s.at_ v + 1)) + _ ≤ _; omega⟩
        · have g1 : ((x : Int) == gone) = false := by simpa using hgone
          have hpx : Pres n gone x := ⟨hxn, hgone⟩
          have Hpx := Lib.hid hpx; clear hgone hpx
          by_cases hnum : s.num x = 0
          · have c5 : wt.cell? ⟨gn, x, none⟩ = some (.int .i64 0) := by rw [hmT.rn.atN hxn, hnum]; rfl
            have f5 := hmT.rn.frozen x
            have Hnum := Lib.hid hnum; clear hnum
            have hm1 := hmT.set_num x (s.met + 1)
            have hm2 := hm1.set_low x (s.met + 1)
            have hm3 := hm2.set_up x v
            have ev : vN (s.met + 1) = Value.int .i64 ((s.met : Int) + 1) := by simp [vN]
            rw [ev] at hm1 hm2 hm3
            have c6 := hm1.rl.atN hxn
            have f6 := hm1.rl.frozen x
            have c7 := hm2.ru.atN hxn
            have f7 := hm2.ru.frozen x
            have hb3 : Below w.heap.size w (((wt.setCell ⟨gn, x, none⟩ (.int .i64 ((s.met : Int) + 1))).setCell ⟨gl, x, none⟩ (.int .i64 ((s.met : Int) + 1))).setCell ⟨gu, x, none⟩ (vN v)) :=
              ((hbT.setCell (by simpa using hmT.lo.1) _).setCell (by simpa using hmT.lo.2.1) _).setCell (by simpa using hmT.lo.2.2.1) _
            clear ev hm1 hm2 hmT hbT
            unfold vN at hm3 hb3
            go_upto_region 24 with (fail)
            generalize ((wt.setCell ⟨gn, x, none⟩ (.int .i64 ((s.met : Int) + 1))).setCell ⟨gl, x, none⟩ (.int .i64 ((s.met : Int) + 1))).setCell ⟨gu, x, none⟩ (.int .i64 (v : Int)) = ws at hm3 hb3 ⊢
            clear c5 f5 c6 f6 c7 f7
            have hown := (hm3.ext (bl_alloc ws (.cells #[.int .i64 x] 3))).rs.own1
            rw [List.length_map, List.length_reverse] at hown
            go_wp2_with (at_builtin; refine wpList_append_row _ rfl (.tmp 107) (.tmp 109) 38 rfl 3 (.int .i64 0) 1 8 Try.underlying38 int_info rfl _ _ _ rfl hown ⟨ws.heap.size, 0, none⟩ 1 1 [.int .i64 x] rfl rfl (one_new (by simp)) (one_ok _ _) (by omega) (by unfold maxLen; simp; omega) (by simp; omega) ?_)
            intro g2 c2 w3 hr2 hc2 hgr2 hor2
            have hm4 := (hm3.ext (bl_alloc ws (.cells #[.int .i64 x] 3))).push (x := x) (g' := g2) (c' := c2) (by simpa [vN] using hr2) hgr2 (hor2.imp id (fun h => by simpa using h))
            have hb4 : Below w.heap.size w w3 := (bl_trans hb3 (bl_alloc _ _)).grown hgr2 (by simp; have := hb3.size; omega) (fun k hk => by cases hk; exact hm3.lo.2.2.2.2.2)
            clear hm3 hb3 hr2 hgr2 hor2 hown
            go_wp2_with fail
            go_roundg (gk - 1)
            case measure => have := Hq.out; have := Hrest.out; omega
            case rel =>
              have h1 := Hq.out; have h2 := Hrest.out; have h3 := Hk.out
              simp only [List.length_cons] at h1 h3
              exact ⟨s.disc v x, x :: v :: r, g2, c2, by show x :: s.stack = _; rw [Hst.out], by show _ = Value.int .i64 ((s.met + 1 : Nat) : Int); simp, rfl, by simp, hm4, hb4, hT.disc Hst.out Hx.out Hpx.out Hnum.out, hL.disc hT Hst.out Hx.out Hpx.out Hnum.out,
                by show 2 * restS n bs (upd s.at_ v (s.at_ v + 1)) + _ ≤ _; simp only [List.length_cons]; omega, by show s.kids + 2 * restS n bs (upd s.at_ v (s.at_ v + 1)) + _ ≤ _; simp only [List.length_cons]; omega⟩
          · have c5 := hmT.rn.atN hxn
            have c6 := hmT.rl.atN hvn
            have f6 := hmT.rl.frozen v
            have g2 : ((s.num x : Int) == 0) = false := by simpa using hnum
            have Hnum := Lib.hid hnum; clear hnum
            clear it0 it1 ir2
            by_cases hmin : s.num x < s.low v
            · skip
              have em : min (s.low v) (s.num x) = s.num x := (Nat.min_eq_right (Nat.le_of_lt hmin))
              have hmS := (hmT.set_low v (s.num x)).ext (bl_refl _).drew
              have hbS : Below w.heap.size w ((wt.setCell ⟨gl, v, none⟩ (vN (s.num x))).drew) := (hbT.setCell (by simpa using hmT.lo.2.1) _).drew
              unfold vN at hmS hbS
              have Hem := Lib.hid em; clear em
              go_upto_region 25 with (fail)
              refine regionT (fun w' => w'.cell? ⟨gl, v, none⟩ = some (.int .i64 (s.low v : Int)) ∧ w'.cell? ⟨gn, x, none⟩ = some (.int .i64 (s.num x : Int))) 12 (by kernel_rfl) ?_
              have hS : wt.drew.cell? ⟨gl, v, none⟩ = some (.int .i64 (s.low v : Int)) ∧ wt.drew.cell? ⟨gn, x, none⟩ = some (.int .i64 (s.num x : Int)) := ⟨c6, c5⟩
              refine takeT (i := 0) (v := ?_) rfl (by kernel_rfl) (fun _ _ _ h => h) (Or.inl ⟨rfl, ?_⟩) hS ?_
              rotate_left
              · (intro wS hSw; (try dsimp only at hSw); go_simp; try (with_reducible rfl))
              simp only [Act.put, List.setIfInBounds_toArray, List.set_cons_zero, List.set_cons_succ]
              refine takeT (i := 1) (v := ?_) rfl (by kernel_rfl) (fun _ _ _ h => h) (Or.inl ⟨rfl, ?_⟩) hS ?_
              rotate_left
              · (intro wS hSw; (try dsimp only at hSw); go_simp; try (with_reducible rfl))
              simp only [Act.put, List.setIfInBounds_toArray, List.set_cons_zero, List.set_cons_succ]
              refine takeT (i := 2) (v := ?_) rfl (by kernel_rfl) (fun _ _ _ h => h) (Or.inl ⟨rfl, ?_⟩) hS ?_
              rotate_left
              · (intro wS hSw; (try dsimp only at hSw); go_simp; try (with_reducible rfl))
              simp only [Act.put, List.setIfInBounds_toArray, List.set_cons_zero, List.set_cons_succ]
              refine takeT (i := 3) (v := ?_) rfl (by kernel_rfl) (fun _ _ _ h => h) (Or.inl ⟨rfl, ?_⟩) hS ?_
              rotate_left
              · (intro wS hSw; (try dsimp only at hSw); go_simp; try (with_reducible rfl))
              simp only [Act.put, List.setIfInBounds_toArray, List.set_cons_zero, List.set_cons_succ]
              refine takeT (i := 4) (v := ?_) rfl (by kernel_rfl) (fun _ _ _ h => h) (Or.inl ⟨rfl, ?_⟩) hS ?_
              rotate_left
              · (intro wS hSw; (try dsimp only at hSw); go_simp; try (with_reducible rfl))
              simp only [Act.put, List.setIfInBounds_toArray, List.set_cons_zero, List.set_cons_succ]
              refine takeT (i := 5) (v := ?_) rfl (by kernel_rfl) (fun _ _ _ h => h) (Or.inl ⟨rfl, ?_⟩) hS ?_
              rotate_left
              · (intro wS hSw; (try dsimp only at hSw); go_simp; try (with_reducible rfl))
              simp only [Act.put, List.setIfInBounds_toArray, List.set_cons_zero, List.set_cons_succ]
              refine takeT (i := 6) (v := ?_) rfl (by kernel_rfl) (fun _ _ _ h => h) (Or.inl ⟨rfl, ?_⟩) hS ?_
              rotate_left
              · (intro wS hSw; (try dsimp only at hSw); go_simp; try (with_reducible rfl))
              simp only [Act.put, List.setIfInBounds_toArray, List.set_cons_zero, List.set_cons_succ]
              refine takeT (i := 7) (v := ?_) rfl (by kernel_rfl) (fun _ _ _ h => h) (Or.inl ⟨rfl, ?_⟩) hS ?_
              rotate_left
              · (intro wS hSw; (try dsimp only at hSw); go_simp; try (with_reducible rfl))
              simp only [Act.put, List.setIfInBounds_toArray, List.set_cons_zero, List.set_cons_succ]
              refine takeT (i := 8) (v := ?_) rfl (by kernel_rfl) (fun _ _ _ h => h) (Or.inl ⟨rfl, ?_⟩) hS ?_
              rotate_left
              · (intro wS hSw; (try dsimp only at hSw); go_simp; try (with_reducible rfl))
              simp only [Act.put, List.setIfInBounds_toArray, List.set_cons_zero, List.set_cons_succ]
              refine takeT (i := 9) (v := ?_) rfl (by kernel_rfl) (fun _ _ _ h => h) (Or.inl ⟨rfl, ?_⟩) hS ?_
              rotate_left
              · (intro wS hSw; (try dsimp only at hSw); go_simp; try (with_reducible rfl))
              simp only [Act.put, List.setIfInBounds_toArray, List.set_cons_zero, List.set_cons_succ]
              refine takeT (i := 10) (v := ?_) rfl (by kernel_rfl) (fun _ _ _ h => h) (Or.inl ⟨rfl, ?_⟩) hS ?_
              rotate_left
              · (intro wS hSw; (try dsimp only at hSw); go_simp; try (with_reducible rfl))
              simp only [Act.put, List.setIfInBounds_toArray, List.set_cons_zero, List.set_cons_succ]
              refine takeT (i := 11) (v := ?_) rfl (by kernel_rfl) (fun _ _ _ h => h) (Or.inl ⟨rfl, ?_⟩) hS ?_
              rotate_left
              · (intro wS hSw; (try dsimp only at hSw); go_simp; try (with_reducible rfl))
              simp only [Act.put, List.setIfInBounds_toArray, List.set_cons_zero, List.set_cons_succ]
              refine oneT (i := 12) rfl (by kernel_rfl) (fun K hK => ?_)
              go_simp
              refine hK _ _ (fun h => absurd h (by omega)) ?_
              clear hK K
              refine doneT (by kernel_rfl) ?_ _
              go_wp2_with fail
              go_roundg (gk - 1)
              case measure => have := Hq.out; have := Hrest.out; omega
              case rel =>
                have h1 := Hq.out; have h2 := Hrest.out; have h3 := Hk.out
                have hT2 := hT.skipLike Hst.out Hx.out (fun _ => Hnum.out) (upd s.low v (min (s.low v) (s.num x)))
                have hL2 := hL.exam hT Hst.out Hx.out Hnum.out
                have he : s.exam v x = { s with at_ := upd s.at_ v (s.at_ v + 1), low := upd s.low v (s.num x) } := by unfold CS.exam; rw [Hem.out]
                rw [Hem.out] at hT2
                rw [he] at hL2
                exact ⟨{ s with at_ := upd s.at_ v (s.at_ v + 1), low := upd s.low v (s.num x) }, v :: r, gs, cs, Hst.out, rfl, rfl, rfl, hmS, hbS, hT2, hL2,
                  by show 2 * restS n bs (upd s.at_ v (s.at_ v + 1)) + _ ≤ _; omega, by show s.kids + 2 * restS n bs (upd s.at_ v (s.at_ v + 1)) + _ ≤ _; omega⟩
            · skip
              have em : min (s.low v) (s.num x) = s.low v := (Nat.min_eq_left (Nat.le_of_not_lt hmin))
              have hmS := (hmT.set_low v (s.low v)).ext (bl_refl _).drew
              have hbS : Below w.heap.size w ((wt.setCell ⟨gl, v, none⟩ (vN (s.low v))).drew) := (hbT.setCell (by simpa using hmT.lo.2.1) _).drew
              unfold vN at hmS hbS
              have Hem := Lib.hid em; clear em
              go_upto_region 25 with (fail)
              refine regionT (fun w' => w'.cell? ⟨gl, v, none⟩ = some (.int .i64 (s.low v : Int)) ∧ w'.cell? ⟨gn, x, none⟩ = some (.int .i64 (s.num x : Int))) 12 (by kernel_rfl) ?_
              have hS : wt.drew.cell? ⟨gl, v, none⟩ = some (.int .i64 (s.low v : Int)) ∧ wt.drew.cell? ⟨gn, x, none⟩ = some (.int .i64 (s.num x : Int)) := ⟨c6, c5⟩
              refine takeT (i := 0) (v := ?_) rfl (by kernel_rfl) (fun _ _ _ h => h) (Or.inl ⟨rfl, ?_⟩) hS ?_
              rotate_left
              · (intro wS hSw; (try dsimp only at hSw); go_simp; try (with_reducible rfl))
              simp only [Act.put, List.setIfInBounds_toArray, List.set_cons_zero, List.set_cons_succ]
              refine takeT (i := 1) (v := ?_) rfl (by kernel_rfl) (fun _ _ _ h => h) (Or.inl ⟨rfl, ?_⟩) hS ?_
              rotate_left
              · (intro wS hSw; (try dsimp only at hSw); go_simp; try (with_reducible rfl))
              simp only [Act.put, List.setIfInBounds_toArray, List.set_cons_zero, List.set_cons_succ]
              refine takeT (i := 2) (v := ?_) rfl (by kernel_rfl) (fun _ _ _ h => h) (Or.inl ⟨rfl, ?_⟩) hS ?_
              rotate_left
              · (intro wS hSw; (try dsimp only at hSw); go_simp; try (with_reducible rfl))
              simp only [Act.put, List.setIfInBounds_toArray, List.set_cons_zero, List.set_cons_succ]
              refine takeT (i := 3) (v := ?_) rfl (by kernel_rfl) (fun _ _ _ h => h) (Or.inl ⟨rfl, ?_⟩) hS ?_
              rotate_left
              · (intro wS hSw; (try dsimp only at hSw); go_simp; try (with_reducible rfl))
              simp only [Act.put, List.setIfInBounds_toArray, List.set_cons_zero, List.set_cons_succ]
              refine takeT (i := 4) (v := ?_) rfl (by kernel_rfl) (fun _ _ _ h => h) (Or.inl ⟨rfl, ?_⟩) hS ?_
              rotate_left
              · (intro wS hSw; (try dsimp only at hSw); go_simp; try (with_reducible rfl))
              simp only [Act.put, List.setIfInBounds_toArray, List.set_cons_zero, List.set_cons_succ]
              refine takeT (i := 5) (v := ?_) rfl (by kernel_rfl) (fun _ _ _ h => h) (Or.inl ⟨rfl, ?_⟩) hS ?_
              rotate_left
              · (intro wS hSw; (try dsimp only at hSw); go_simp; try (with_reducible rfl))
              simp only [Act.put, List.setIfInBounds_toArray, List.set_cons_zero, List.set_cons_succ]
              refine takeT (i := 6) (v := ?_) rfl (by kernel_rfl) (fun _ _ _ h => h) (Or.inl ⟨rfl, ?_⟩) hS ?_
              rotate_left
              · (intro wS hSw; (try dsimp only at hSw); go_simp; try (with_reducible rfl))
              simp only [Act.put, List.setIfInBounds_toArray, List.set_cons_zero, List.set_cons_succ]
              refine takeT (i := 7) (v := ?_) rfl (by kernel_rfl) (fun _ _ _ h => h) (Or.inl ⟨rfl, ?_⟩) hS ?_
              rotate_left
              · (intro wS hSw; (try dsimp only at hSw); go_simp; try (with_reducible rfl))
              simp only [Act.put, List.setIfInBounds_toArray, List.set_cons_zero, List.set_cons_succ]
              refine takeT (i := 8) (v := ?_) rfl (by kernel_rfl) (fun _ _ _ h => h) (Or.inl ⟨rfl, ?_⟩) hS ?_
              rotate_left
              · (intro wS hSw; (try dsimp only at hSw); go_simp; try (with_reducible rfl))
              simp only [Act.put, List.setIfInBounds_toArray, List.set_cons_zero, List.set_cons_succ]
              refine takeT (i := 9) (v := ?_) rfl (by kernel_rfl) (fun _ _ _ h => h) (Or.inl ⟨rfl, ?_⟩) hS ?_
              rotate_left
              · (intro wS hSw; (try dsimp only at hSw); go_simp; try (with_reducible rfl))
              simp only [Act.put, List.setIfInBounds_toArray, List.set_cons_zero, List.set_cons_succ]
              refine takeT (i := 10) (v := ?_) rfl (by kernel_rfl) (fun _ _ _ h => h) (Or.inl ⟨rfl, ?_⟩) hS ?_
              rotate_left
              · (intro wS hSw; (try dsimp only at hSw); go_simp; try (with_reducible rfl))
              simp only [Act.put, List.setIfInBounds_toArray, List.set_cons_zero, List.set_cons_succ]
              refine takeT (i := 11) (v := ?_) rfl (by kernel_rfl) (fun _ _ _ h => h) (Or.inl ⟨rfl, ?_⟩) hS ?_
              rotate_left
              · (intro wS hSw; (try dsimp only at hSw); go_simp; try (with_reducible rfl))
              simp only [Act.put, List.setIfInBounds_toArray, List.set_cons_zero, List.set_cons_succ]
              refine oneT (i := 12) rfl (by kernel_rfl) (fun K hK => ?_)
              go_simp
              refine hK _ _ (fun h => absurd h (by omega)) ?_
              clear hK K
              refine doneT (by kernel_rfl) ?_ _
              go_wp2_with fail
              go_roundg (gk - 1)
              case measure => have := Hq.out; have := Hrest.out; omega
              case rel =>
                have h1 := Hq.out; have h2 := Hrest.out; have h3 := Hk.out
                have hT2 := hT.skipLike Hst.out Hx.out (fun _ => Hnum.out) (upd s.low v (min (s.low v) (s.num x)))
                have hL2 := hL.exam hT Hst.out Hx.out Hnum.out
                have he : s.exam v x = { s with at_ := upd s.at_ v (s.at_ v + 1), low := upd s.low v (s.low v) } := by unfold CS.exam; rw [Hem.out]
                rw [Hem.out] at hT2
                rw [he] at hL2
                exact ⟨{ s with at_ := upd s.at_ v (s.at_ v + 1), low := upd s.low v (s.low v) }, v :: r, gs, cs, Hst.out, rfl, rfl, rfl, hmS, hbS, hT2, hL2,
                  by show 2 * restS n bs (upd s.at_ v (s.at_ v + 1)) + _ ≤ _; omega, by show s.kids + 2 * restS n bs (upd s.at_ v (s.at_ v + 1)) + _ ≤ _; omega⟩
      · have hfull : s.at_ v = (bs v).length := by omega
        have hcp : r.length + 1 ≤ cs := by have := hm.rs.len_le; simpa using this
        have hcp2 : (r.length : Int) ≤ (cs : Int) := by omega
        have Hfull := Lib.hid hfull; have Hst := Lib.hid hst; have Hq := Lib.hid hq; have Hk := Lib.hid hk
        clear hfull hst hq hk hau
        go_wp2_with fail
        go_quiet (fail)
        go_upto_region 27 with (fail)
        generalize hN : World.drewN _ _ = wd
        have hbd : Below wr.heap.size wr wd := by subst hN; exact below_drewN (Below.refl _ _) _
        clear hN
        replace hm := (hm.ext hbd).pop
        replace hb := bl_trans hb hbd
        clear hbd c1 c2 c3
        by_cases hroot : v = root
        · subst hroot
          have hr : r = [] := by
            cases r with
            | nil => rfl
            | cons u r' =>
              have h1 := hT.stS; rw [Hst.out] at h1
              have h2 := (List.pairwise_cons.1 h1).1 u (by simp)
              have h3 := hT.stV u (by rw [Hst.out]; simp)
              have := hT.root1; omega
          subst hr
          have e : s.drop = { s with stack := [], low := s.low, kids := s.kids, cut := s.cut } := by unfold CS.drop; rw [Hst.out]; rfl
          have hT2 := hT.popLike Hst.out Hfull.out s.low s.kids s.cut
          rw [← e] at hT2
          have hL2 := hL.drop Hst.out
          have He := Lib.hid e; clear e
          have g1 : ((v : Int) == (v : Int)) = true := by simp
          go_wp2_with fail
          go_roundg (gk - 1)
          case measure => have := Hq.out; simp at this; omega
          case rel =>
            have h1 := Hq.out; have h3 := Hk.out
            simp only [List.length_cons, List.length_nil] at h1 h3
            exact ⟨s.drop, [], gs, cs, by show s.stack.tail = _; rw [Hst.out]; rfl, rfl, rfl, rfl, hm, hb, hT2, hL2, by show 2 * restS n bs s.at_ + _ ≤ _; simp only [List.length_nil]; omega, by show s.kids + 2 * restS n bs s.at_ + _ ≤ _; simp only [List.length_nil]; omega⟩
        · obtain ⟨u, r', rfl, hup, huv⟩ := hT.two Hst.out hroot
          have hus : u ∈ s.stack := by rw [Hst.out]; simp
          have hun : u < n := (hT.numP u (hT.stV u hus)).1
          have hneq : u ≠ v := fun e => by subst e; omega
          have g1 : ((v : Int) == (root : Int)) = false := by simp; omega
          have c4 : wd.cell? ⟨gu, v, none⟩ = some (.int .i64 (u : Int)) := by rw [hm.ru.atN hvn, hup]
          have c5 := hm.rl.atN hvn
          have c6 := hm.rl.atN hun
          have f6 := hm.rl.frozen u
          have iu0 : (0 : Int) ≤ (u : Int) := by omega
          have iu1 : (u : Int) < (n : Int) := by omega
          have hT2 := hT.popLike Hst.out Hfull.out (upd s.low u (min (s.low u) (s.low v))) (if u = root then s.kids + 1 else s.kids) (if u ≠ root ∧ s.num u ≤ s.low v then upd s.cut u true else s.cut)
          have e : s.pop v u root = { s with stack := u :: r', low := upd s.low u (min (s.low u) (s.low v)), kids := if u = root then s.kids + 1 else s.kids, cut := if u ≠ root ∧ s.num u ≤ s.low v then upd s.cut u true else s.cut } := by unfold CS.pop; rw [Hst.out]; rfl
          have hL2 := hL.pop hT Hsy.out Hst.out Hfull.out
          have Hup := Lib.hid hup
          clear hroot hup
          simp only [List.length_cons] at hcp hcp2 hrl ir2
          by_cases hmin : s.low v < s.low u
          · skip
            have em : min (s.low u) (s.low v) = s.low v := (Nat.min_eq_right (Nat.le_of_lt hmin))
            rw [em] at hT2 e
            rw [← e] at hT2
            have Hem := Lib.hid em; clear em
            have hmS := (hm.set_low u (s.low v)).ext (bl_refl _).drew
            have hbS : Below w.heap.size w ((wd.setCell ⟨gl, u, none⟩ (vN (s.low v))).drew) := (hb.setCell (by simpa using hm.lo.2.1) _).drew
            have hstk : (s.pop v u root).stack = u :: r' := by rw [e]
            unfold vN at hmS hbS
            have Hstk := Lib.hid hstk; have He := Lib.hid e
            clear e hstk
            go_upto_region 29 with (fail)
            refine regionT (fun w' => w'.cell? ⟨gl, u, none⟩ = some (.int .i64 (s.low u : Int)) ∧ w'.cell? ⟨gl, v, none⟩ = some (.int .i64 (s.low v : Int))) 12 (by kernel_rfl) ?_
            have hS : wd.drew.cell? ⟨gl, u, none⟩ = some (.int .i64 (s.low u : Int)) ∧ wd.drew.cell? ⟨gl, v, none⟩ = some (.int .i64 (s.low v : Int)) := ⟨c6, c5⟩
            refine takeT (i := 0) (v := ?_) rfl (by kernel_rfl) (fun _ _ _ h => h) (Or.inl ⟨rfl, ?_⟩) hS ?_
            rotate_left
            · (intro wS hSw; (try dsimp only at hSw); go_simp; try (with_reducible rfl))
            simp only [Act.put, List.setIfInBounds_toArray, List.set_cons_zero, List.set_cons_succ]
            refine takeT (i := 1) (v := ?_) rfl (by kernel_rfl) (fun _ _ _ h => h) (Or.inl ⟨rfl, ?_⟩) hS ?_
            rotate_left
            · (intro wS hSw; (try dsimp only at hSw); go_simp; try (with_reducible rfl))
            simp only [Act.put, List.setIfInBounds_toArray, List.set_cons_zero, List.set_cons_succ]
            refine takeT (i := 2) (v := ?_) rfl (by kernel_rfl) (fun _ _ _ h => h) (Or.inl ⟨rfl, ?_⟩) hS ?_
            rotate_left
            · (intro wS hSw; (try dsimp only at hSw); go_simp; try (with_reducible rfl))
            simp only [Act.put, List.setIfInBounds_toArray, List.set_cons_zero, List.set_cons_succ]
            refine takeT (i := 3) (v := ?_) rfl (by kernel_rfl) (fun _ _ _ h => h) (Or.inl ⟨rfl, ?_⟩) hS ?_
            rotate_left
            · (intro wS hSw; (try dsimp only at hSw); go_simp; try (with_reducible rfl))
            simp only [Act.put, List.setIfInBounds_toArray, List.set_cons_zero, List.set_cons_succ]
            refine takeT (i := 4) (v := ?_) rfl (by kernel_rfl) (fun _ _ _ h => h) (Or.inl ⟨rfl, ?_⟩) hS ?_
            rotate_left
            · (intro wS hSw; (try dsimp only at hSw); go_simp; try (with_reducible rfl))
            simp only [Act.put, List.setIfInBounds_toArray, List.set_cons_zero, List.set_cons_succ]
            refine takeT (i := 5) (v := ?_) rfl (by kernel_rfl) (fun _ _ _ h => h) (Or.inl ⟨rfl, ?_⟩) hS ?_
            rotate_left
            · (intro wS hSw; (try dsimp only at hSw); go_simp; try (with_reducible rfl))
            simp only [Act.put, List.setIfInBounds_toArray, List.set_cons_zero, List.set_cons_succ]
            refine takeT (i := 6) (v := ?_) rfl (by kernel_rfl) (fun _ _ _ h => h) (Or.inl ⟨rfl, ?_⟩) hS ?_
            rotate_left
            · (intro wS hSw; (try dsimp only at hSw); go_simp; try (with_reducible rfl))
            simp only [Act.put, List.setIfInBounds_toArray, List.set_cons_zero, List.set_cons_succ]
            refine takeT (i := 7) (v := ?_) rfl (by kernel_rfl) (fun _ _ _ h => h) (Or.inl ⟨rfl, ?_⟩) hS ?_
            rotate_left
            · (intro wS hSw; (try dsimp only at hSw); go_simp; try (with_reducible rfl))
            simp only [Act.put, List.setIfInBounds_toArray, List.set_cons_zero, List.set_cons_succ]
            refine takeT (i := 8) (v := ?_) rfl (by kernel_rfl) (fun _ _ _ h => h) (Or.inl ⟨rfl, ?_⟩) hS ?_
            rotate_left
            · (intro wS hSw; (try dsimp only at hSw); go_simp; try (with_reducible rfl))
            simp only [Act.put, List.setIfInBounds_toArray, List.set_cons_zero, List.set_cons_succ]
            refine takeT (i := 9) (v := ?_) rfl (by kernel_rfl) (fun _ _ _ h => h) (Or.inl ⟨rfl, ?_⟩) hS ?_
            rotate_left
            · (intro wS hSw; (try dsimp only at hSw); go_simp; try (with_reducible rfl))
            simp only [Act.put, List.setIfInBounds_toArray, List.set_cons_zero, List.set_cons_succ]
            refine takeT (i := 10) (v := ?_) rfl (by kernel_rfl) (fun _ _ _ h => h) (Or.inl ⟨rfl, ?_⟩) hS ?_
            rotate_left
            · (intro wS hSw; (try dsimp only at hSw); go_simp; try (with_reducible rfl))
            simp only [Act.put, List.setIfInBounds_toArray, List.set_cons_zero, List.set_cons_succ]
            refine takeT (i := 11) (v := ?_) rfl (by kernel_rfl) (fun _ _ _ h => h) (Or.inl ⟨rfl, ?_⟩) hS ?_
            rotate_left
            · (intro wS hSw; (try dsimp only at hSw); go_simp; try (with_reducible rfl))
            simp only [Act.put, List.setIfInBounds_toArray, List.set_cons_zero, List.set_cons_succ]
            refine oneT (i := 12) rfl (by kernel_rfl) (fun K hK => ?_)
            go_simp
            refine hK _ _ (fun h => absurd h (by omega)) ?_
            clear hK K hS
            refine doneT (by kernel_rfl) ?_ _
            generalize (wd.setCell ⟨gl, u, none⟩ (.int .i64 ((s.low v : Nat) : Int))).drew = ws at hmS hbS ⊢
            by_cases hur : u = root
            · have g3 : ((u : Int) == (root : Int)) = true := by simp [hur]
              have ep : s.pop v u root = { s with stack := u :: r', low := upd s.low u (s.low v), kids := s.kids + 1, cut := s.cut } := by rw [He.out, if_pos hur, if_neg (fun h => h.1 hur)]
              rw [ep] at hT2 hL2
              have hk3 : s.kids + 1 ≤ 200000001 := by have := Hk.out; simp only [List.length_cons] at this; omega
              clear ep hur c4 c5 c6 f6
              go_wp2_with fail
              go_roundg (gk - 1)
              case measure => have := Hq.out; simp only [List.length_cons] at this; omega
              case rel =>
                have h1 := Hq.out; have h3 := Hk.out
                simp only [List.length_cons] at h1 h3
                exact ⟨{ s with stack := u :: r', low := upd s.low u (s.low v), kids := s.kids + 1, cut := s.cut }, u :: r', gs, cs, rfl, rfl, by simp, by simp, hmS, hbS, hT2, hL2, by simp only [List.length_cons]; omega, by simp only [List.length_cons]; omega⟩
            · have g3 : ((u : Int) == (root : Int)) = false := by simp; omega
              have q1 := hmS.rl.atN hvn
              rw [upd_ne _ _ hneq.symm] at q1
              have q2 := hmS.rn.atN hun
              have q3 := hmS.rc.atB hun
              have q4 := hmS.rc.frozen u
              by_cases hle : s.num u ≤ s.low v
              · have ep : s.pop v u root = { s with stack := u :: r', low := upd s.low u (s.low v), kids := s.kids, cut := upd s.cut u true } := by rw [He.out, if_neg hur, if_pos ⟨hur, hle⟩]
                rw [ep] at hT2 hL2
                have g4 : decide ((s.num u : Int) ≤ (s.low v : Int)) = true := by simpa using hle
                have hbd : ∀ k, Below ws.heap.size ws (ws.drewN k) := fun k => below_drewN (bl_refl _) k
                clear ep hur c4 c5 c6 f6
                go_wp2_with fail
                go_quiet (fail)
                go_wp2_with fail
                go_roundg (gk - 1)
                case measure => have := Hq.out; simp only [List.length_cons] at this; omega
                case rel =>
                  have h1 := Hq.out; have h3 := Hk.out
                  simp only [List.length_cons] at h1 h3
                  exact ⟨{ s with stack := u :: r', low := upd s.low u (s.low v), kids := s.kids, cut := upd s.cut u true }, u :: r', gs, cs, rfl, rfl, rfl, by simp, (hmS.ext (hbd _)).set_cut u true, (bl_trans hbS (hbd _)).setCell (by simp) _, hT2, hL2, by simp only [List.length_cons]; omega, by simp only [List.length_cons]; omega⟩
              · have ep : s.pop v u root = { s with stack := u :: r', low := upd s.low u (s.low v), kids := s.kids, cut := s.cut } := by rw [He.out, if_neg hur, if_neg (fun h => hle h.2)]
                rw [ep] at hT2 hL2
                have g4 : decide ((s.num u : Int) ≤ (s.low v : Int)) = false := by simp; omega
                clear ep hur c4 c5 c6 f6
                go_wp2_with fail
                go_quiet (fail)
                go_wp2_with fail
                go_roundg (gk - 1)
                case measure => have := Hq.out; simp only [List.length_cons] at this; omega
                case rel =>
                  have h1 := Hq.out; have h3 := Hk.out
                  simp only [List.length_cons] at h1 h3
                  exact ⟨{ s with stack := u :: r', low := upd s.low u (s.low v), kids := s.kids, cut := s.cut }, u :: r', gs, cs, rfl, rfl, rfl, by simp, hmS.ext (below_drewN (bl_refl _) _), below_drewN hbS _, hT2, hL2, by simp only [List.length_cons]; omega, by simp only [List.length_cons]; omega⟩
          · skip
            have em : min (s.low u) (s.low v) = s.low u := (Nat.min_eq_left (Nat.le_of_not_lt hmin))
            rw [em] at hT2 e
            rw [← e] at hT2
            have Hem := Lib.hid em; clear em
            have hmS := (hm.set_low u (s.low u)).ext (bl_refl _).drew
            have hbS : Below w.heap.size w ((wd.setCell ⟨gl, u, none⟩ (vN (s.low u))).drew) := (hb.setCell (by simpa using hm.lo.2.1) _).drew
            have hstk : (s.pop v u root).stack = u :: r' := by rw [e]
            unfold vN at hmS hbS
            have Hstk := Lib.hid hstk; have He := Lib.hid e
            clear e hstk
            go_upto_region 29 with (fail)
            refine regionT (fun w' => w'.cell? ⟨gl, u, none⟩ = some (.int .i64 (s.low u : Int)) ∧ w'.cell? ⟨gl, v, none⟩ = some (.int .i64 (s.low v : Int))) 12 (by kernel_rfl) ?_
            have hS : wd.drew.cell? ⟨gl, u, none⟩ = some (.int .i64 (s.low u : Int)) ∧ wd.drew.cell? ⟨gl, v, none⟩ = some (.int .i64 (s.low v : Int)) := ⟨c6, c5⟩
            refine takeT (i := 0) (v := ?_) rfl (by kernel_rfl) (fun _ _ _ h => h) (Or.inl ⟨rfl, ?_⟩) hS ?_
            rotate_left
            · (intro wS hSw; (try dsimp only at hSw); go_simp; try (with_reducible rfl))
            simp only [Act.put, List.setIfInBounds_toArray, List.set_cons_zero, List.set_cons_succ]
            refine takeT (i := 1) (v := ?_) rfl (by kernel_rfl) (fun _ _ _ h => h) (Or.inl ⟨rfl, ?_⟩) hS ?_
            rotate_left
            · (intro wS hSw; (try dsimp only at hSw); go_simp; try (with_reducible rfl))
            simp only [Act.put, List.setIfInBounds_toArray, List.set_cons_zero, List.set_cons_succ]
            refine takeT (i := 2) (v := ?_) rfl (by kernel_rfl) (fun _ _ _ h => h) (Or.inl ⟨rfl, ?_⟩) hS ?_
            rotate_left
            · (intro wS hSw; (try dsimp only at hSw); go_simp; try (with_reducible rfl))
            simp only [Act.put, List.setIfInBounds_toArray, List.set_cons_zero, List.set_cons_succ]
            refine takeT (i := 3) (v := ?_) rfl (by kernel_rfl) (fun _ _ _ h => h) (Or.inl ⟨rfl, ?_⟩) hS ?_
            rotate_left
            · (intro wS hSw; (try dsimp only at hSw); go_simp; try (with_reducible rfl))
            simp only [Act.put, List.setIfInBounds_toArray, List.set_cons_zero, List.set_cons_succ]
            refine takeT (i := 4) (v := ?_) rfl (by kernel_rfl) (fun _ _ _ h => h) (Or.inl ⟨rfl, ?_⟩) hS ?_
            rotate_left
            · (intro wS hSw; (try dsimp only at hSw); go_simp; try (with_reducible rfl))
            simp only [Act.put, List.setIfInBounds_toArray, List.set_cons_zero, List.set_cons_succ]
            refine takeT (i := 5) (v := ?_) rfl (by kernel_rfl) (fun _ _ _ h => h) (Or.inl ⟨rfl, ?_⟩) hS ?_
            rotate_left
            · (intro wS hSw; (try dsimp only at hSw); go_simp; try (with_reducible rfl))
            simp only [Act.put, List.setIfInBounds_toArray, List.set_cons_zero, List.set_cons_succ]
            refine takeT (i := 6) (v := ?_) rfl (by kernel_rfl) (fun _ _ _ h => h) (Or.inl ⟨rfl, ?_⟩) hS ?_
            rotate_left
            · (intro wS hSw; (try dsimp only at hSw); go_simp; try (with_reducible rfl))
            simp only [Act.put, List.setIfInBounds_toArray, List.set_cons_zero, List.set_cons_succ]
            refine takeT (i := 7) (v := ?_) rfl (by kernel_rfl) (fun _ _ _ h => h) (Or.inl ⟨rfl, ?_⟩) hS ?_
            rotate_left
            · (intro wS hSw; (try dsimp only at hSw); go_simp; try (with_reducible rfl))
            simp only [Act.put, List.setIfInBounds_toArray, List.set_cons_zero, List.set_cons_succ]
            refine takeT (i := 8) (v := ?_) rfl (by kernel_rfl) (fun _ _ _ h => h) (Or.inl ⟨rfl, ?_⟩) hS ?_
            rotate_left
            · (intro wS hSw; (try dsimp only at hSw); go_simp; try (with_reducible rfl))
            simp only [Act.put, List.setIfInBounds_toArray, List.set_cons_zero, List.set_cons_succ]
            refine takeT (i := 9) (v := ?_) rfl (by kernel_rfl) (fun _ _ _ h => h) (Or.inl ⟨rfl, ?_⟩) hS ?_
            rotate_left
            · (intro wS hSw; (try dsimp only at hSw); go_simp; try (with_reducible rfl))
            simp only [Act.put, List.setIfInBounds_toArray, List.set_cons_zero, List.set_cons_succ]
            refine takeT (i := 10) (v := ?_) rfl (by kernel_rfl) (fun _ _ _ h => h) (Or.inl ⟨rfl, ?_⟩) hS ?_
            rotate_left
            · (intro wS hSw; (try dsimp only at hSw); go_simp; try (with_reducible rfl))
            simp only [Act.put, List.setIfInBounds_toArray, List.set_cons_zero, List.set_cons_succ]
            refine takeT (i := 11) (v := ?_) rfl (by kernel_rfl) (fun _ _ _ h => h) (Or.inl ⟨rfl, ?_⟩) hS ?_
            rotate_left
            · (intro wS hSw; (try dsimp only at hSw); go_simp; try (with_reducible rfl))
            simp only [Act.put, List.setIfInBounds_toArray, List.set_cons_zero, List.set_cons_succ]
            refine oneT (i := 12) rfl (by kernel_rfl) (fun K hK => ?_)
            go_simp
            refine hK _ _ (fun h => absurd h (by omega)) ?_
            clear hK K hS
            refine doneT (by kernel_rfl) ?_ _
            generalize (wd.setCell ⟨gl, u, none⟩ (.int .i64 ((s.low u : Nat) : Int))).drew = ws at hmS hbS ⊢
            by_cases hur : u = root
            · have g3 : ((u : Int) == (root : Int)) = true := by simp [hur]
              have ep : s.pop v u root = { s with stack := u :: r', low := upd s.low u (s.low u), kids := s.kids + 1, cut := s.cut } := by rw [He.out, if_pos hur, if_neg (fun h => h.1 hur)]
              rw [ep] at hT2 hL2
              have hk3 : s.kids + 1 ≤ 200000001 := by have := Hk.out; simp only [List.length_cons] at this; omega
              clear ep hur c4 c5 c6 f6
              go_wp2_with fail
              go_roundg (gk - 1)
              case measure => have := Hq.out; simp only [List.length_cons] at this; omega
              case rel =>
                have h1 := Hq.out; have h3 := Hk.out
                simp only [List.length_cons] at h1 h3
                exact ⟨{ s with stack := u :: r', low := upd s.low u (s.low u), kids := s.kids + 1, cut := s.cut }, u :: r', gs, cs, rfl, rfl, by simp, by simp, hmS, hbS, hT2, hL2, by simp only [List.length_cons]; omega, by simp only [List.length_cons]; omega⟩
            · have g3 : ((u : Int) == (root : Int)) = false := by simp; omega
              have q1 := hmS.rl.atN hvn
              rw [upd_ne _ _ hneq.symm] at q1
              have q2 := hmS.rn.atN hun
              have q3 := hmS.rc.atB hun
              have q4 := hmS.rc.frozen u
              by_cases hle : s.num u ≤ s.low v
              · have ep : s.pop v u root = { s with stack := u :: r', low := upd s.low u (s.low u), kids := s.kids, cut := upd s.cut u true } := by rw [He.out, if_neg hur, if_pos ⟨hur, hle⟩]
                rw [ep] at hT2 hL2
                have g4 : decide ((s.num u : Int) ≤ (s.low v : Int)) = true := by simpa using hle
                have hbd : ∀ k, Below ws.heap.size ws (ws.drewN k) := fun k => below_drewN (bl_refl _) k
                clear ep hur c4 c5 c6 f6
                go_wp2_with fail
                go_quiet (fail)
                go_wp2_with fail
                go_roundg (gk - 1)
                case measure => have := Hq.out; simp only [List.length_cons] at this; omega
                case rel =>
                  have h1 := Hq.out; have h3 := Hk.out
                  simp only [List.length_cons] at h1 h3
                  exact ⟨{ s with stack := u :: r', low := upd s.low u (s.low u), kids := s.kids, cut := upd s.cut u true }, u :: r', gs, cs, rfl, rfl, rfl, by simp, (hmS.ext (hbd _)).set_cut u true, (bl_trans hbS (hbd _)).setCell (by simp) _, hT2, hL2, by simp only [List.length_cons]; omega, by simp only [List.length_cons]; omega⟩
              · have ep : s.pop v u root = { s with stack := u :: r', low := upd s.low u (s.low u), kids := s.kids, cut := s.cut } := by rw [He.out, if_neg hur, if_neg (fun h => hle h.2)]
                rw [ep] at hT2 hL2
                have g4 : decide ((s.num u : Int) ≤ (s.low v : Int)) = false := by simp; omega
                clear ep hur c4 c5 c6 f6
                go_wp2_with fail
                go_quiet (fail)
                go_wp2_with fail
                go_roundg (gk - 1)
                case measure => have := Hq.out; simp only [List.length_cons] at this; omega
                case rel =>
                  have h1 := Hq.out; have h3 := Hk.out
                  simp only [List.length_cons] at h1 h3
                  exact ⟨{ s with stack := u :: r', low := upd s.low u (s.low u), kids := s.kids, cut := s.cut }, u :: r', gs, cs, rfl, rfl, rfl, by simp, hmS.ext (below_drewN (bl_refl _) _), below_drewN hbS _, hT2, hL2, by simp only [List.length_cons]; omega, by simp only [List.length_cons]; omega⟩
end Go.Proofs.Ytagcbnpahgfgmaa
