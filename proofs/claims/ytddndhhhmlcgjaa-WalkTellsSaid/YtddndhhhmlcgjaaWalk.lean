/- walk.walk. -/
import Derived.Test.YtddndhhhmlcgjaaWalkA
namespace Go.Proofs.Ytddndhhhmlcgjaa
open Go Go.RowKit

set_option maxHeartbeats 2000000 in
theorem walk_walk (G n : Nat) (vals : List Value) (bs : List (List Nat)) (st : Nat) (w : World) (hrows : OwnRows w G 27 3 n vals (rowsV bs)) (hbl : bs.length = n)
    (hbs : ∀ (v : Nat) (r : List Nat), bs[v]? = some r → r.length ≤ 1000 ∧ ∀ x ∈ r, x < n) (hst : st < n) (hn : n ≤ 200) :
    Calls Try.prog 27 #[.slice (some ⟨G, 0, none⟩) n n, .int .i64 st] w (RetWalk w n (walkL bs st)) := by
  have hmk := run_make_row' (P := Try.prog) 27 3 (.int .i64 0) 8 Try.underlying27 int_info rfl .i64 .i64 n (by omega) (by omega)
  have hmb := run_make_row' (P := Try.prog) 44 4 (.bool false) 1 Try.underlying44 bool_info rfl .i64 .i64 n (by omega) (by omega)
  have i1 : (st : Int) < (n : Int) := by omega
  have i2 : (0 : Int) ≤ (st : Int) := by omega
  have hmc : (madeCells #[Value.bool false] n)[st]? = some (.bool false) := by
    rw [← Array.getElem?_toList, toList_madeCells_one, List.getElem?_replicate, if_pos hst]
  go_enter Try.func27, Try.ntmps27
  go_wp2_with fail
  go_step3
  go_wp2_with (go_at_call 41; refine (repeat_walk _ _ (-1) n _ (by simp) (by omega)).mono ?_; rintro e w1 ⟨gu, rfl, hgu, hru, hb1⟩)
  go_step3
  go_wp2_with fail
  have hbw1 : Below w.heap.size w w1 := bl_trans (bl_alloc _ _) hb1
  have hrows1 := hrows.below hbw1
  have hG : G < w.heap.size := hrows.outer.lt
  have hgu2 : w.heap.size < gu := by have := hgu; simp at this; omega
  go_loopg [9, 10] (2 * n) (fun r vo vp wr => ∃ (go gp co cp : Nat) (up : List Int) (met : List Bool) (tried order opn : List Nat), vo = .slice (some ⟨go, 0, none⟩) order.length co ∧ vp = .slice (some ⟨gp, 0, none⟩) opn.length cp ∧
    WM wr w.heap.size gu w1.heap.size (w1.heap.size + 1) go gp co cp n up met tried order opn ∧ Below w.heap.size w wr ∧ WInv bs n r order opn up met tried (walkL bs st))
  case atStart =>
    refine ⟨w1.heap.size + 1 + 1, w1.heap.size + 1 + 1 + 1, 1, 1, List.replicate n (-1), (List.replicate n false).set st true, List.replicate n 0, [st], [st], rfl, rfl, ?_, ?_, WInv.start hbl hst⟩
    · have hgl : gu < w1.heap.size := hru.lt
      have hru' : Row w1 gu 3 1 n ((List.replicate n (-1)).map (Value.int .i64)) := by simpa using hru
      refine ⟨by simp, by simp, by simp, ?_, ?_, ?_, ?_, ?_, by omega, by omega, by omega, by omega, ?_⟩
      · exact (((hru'.alloc _).alloc _).alloc _).alloc _
      · refine Row.alloc (Row.alloc (Row.alloc ?_ _) _) _
        have := row_new w1 ((madeCells #[Value.bool false] n).setIfInBounds st (Value.bool true)) 4 1 n (by simp [size_madeCells]) (by unfold maxLen; omega)
        rw [Array.toList_setIfInBounds, toList_madeCells_one] at this
        simpa [List.map_set] using this
      · refine Row.alloc (Row.alloc ?_ _) _
        have := row_made (w1.alloc (.cells ((madeCells #[Value.bool false] n).setIfInBounds st (Value.bool true)) 4)) (.int .i64 0) n 3 (by unfold maxLen; omega)
        simpa [vN] using this
      · refine Row.alloc ?_ _
        have := row_lit ((w1.alloc (.cells ((madeCells #[Value.bool false] n).setIfInBounds st (Value.bool true)) 4)).alloc (.cells (madeCells #[Value.int IntKind.i64 0] n) 3)) [vN st] 3 (by unfold maxLen; simp)
        simpa [vN] using this
      · have := row_lit (((w1.alloc (.cells ((madeCells #[Value.bool false] n).setIfInBounds st (Value.bool true)) 4)).alloc (.cells (madeCells #[Value.int IntKind.i64 0] n) 3)).alloc (.cells #[Value.int IntKind.i64 st] 3)) [vN st] 3 (by unfold maxLen; simp)
        simpa [vN] using this
      · have := hbw1.size
        omega
    · exact bl_trans hbw1 (bl_trans (bl_trans (bl_trans (bl_alloc _ _) (bl_alloc _ _)) (bl_alloc _ _)) (bl_alloc _ _))
  case round =>
    obtain ⟨go, gp, co, cp, up, met, tried, order, opn, rfl, rfl, hm, hb, hI⟩ := hrel
    cases opn with
    | nil =>
      have hfin := hI.finish
      have Hfin := Lib.hid hfin; clear hfin
      have hbW := hb; have hmW := hm
      go_wp2_with fail
      rw [Exit.noGoto_ret]
      go_ret2
      rw [Hfin.out]
      exact ⟨go, co, gu, rfl, hmW.ro, hmW.ru, hmW.lu, hmW.lo.2.2.2.1, hmW.lo.1, hmW.d1.2.2.1.symm, hbW⟩
    | cons v o =>
      have hvn : v < n := hI.inP v (by simp)
      obtain ⟨r', hr'⟩ : ∃ r', gk = r' + 1 := ⟨gk - 1, by have := hI.rank; simp at this; omega⟩
      subst hr'
      have hop : wr.cell? ⟨gp, o.length, none⟩ = some (vN v) := by
        rw [hm.rp.cell? _ (by simp)]; simp
      have hol : o.length ≤ 400 := by have h1 := hI.rank; have h2 := hI.ol; rw [List.length_cons] at h1; omega
      have hzl : 0 ≤ (o.length : Int) := by omega
      obtain ⟨ro, hro⟩ : ∃ ro, bs[v]? = some ro := ⟨bs[v]'(by omega), by simp⟩
      have hgd : bs.getD v [] = ro := by simp [List.getD, hro]
      obtain ⟨hrl, hrx⟩ := hbs v ro hro
      have hvl : vals.length = n := by rw [hrows.len]; simp [rowsV, hbl]
      obtain ⟨u, hu⟩ : ∃ u, vals[v]? = some u := ⟨vals[v]'(by omega), by simp⟩
      have hrv : (rowsV bs)[v]? = some (ro.map vN) := by simp [rowsV, hro]
      obtain ⟨au, cu, hush, hcu⟩ := Own.shape (hrows.own v u _ hu hrv)
      rw [List.length_map] at hush
      subst hush
      have Hgd := Lib.hid hgd; have Hro := Lib.hid hro; have Hvl := Lib.hid hvl; have Hu := Lib.hid hu; have Hrv := Lib.hid hrv
      clear hgd hro hvl hu hrv
      have hcG : w.cell? ⟨G, v, none⟩ = some (.slice au ro.length cu) := by rw [hrows.outer.cell? v (by rw [Hvl.out]; omega), Hu.out]
      have iv1 : (v : Int) < (n : Int) := by omega
      have iv2 : (0 : Int) ≤ (v : Int) := by omega
      have hco : order.length ≤ 500 := by have := hI.ol; omega
      simp only [vN] at hop
      go_wp2_with fail
      go_loopg [9, 10] (ro.length + 1) (fun q vo vp wi => ∃ (tr : List Nat) (t : Nat), vo = .slice (some ⟨go, 0, none⟩) order.length co ∧ vp = .slice (some ⟨gp, 0, none⟩) (v :: o).length cp ∧
        WM wi w.heap.size gu w1.heap.size (w1.heap.size + 1) go gp co cp n up met tr order (v :: o) ∧ Below w.heap.size w wi ∧ WInv bs n (r' + 1) order (v :: o) up met tr (walkL bs st) ∧ tr[v]? = some t ∧ ro.length + 1 ≤ t + q)
      case atStart =>
        obtain ⟨t, ht, h1, h2⟩ := hI.triedS v hvn
        exact ⟨tried, t, rfl, rfl, hm, hb, hI, ht, by omega⟩
      case round =>
        obtain ⟨tr, t, rfl, rfl, hm2, hb2, hI2, htr, hq⟩ := hrel
        have htl : t ≤ ro.length := by
          obtain ⟨t', ht', h1, h2⟩ := hI2.triedS v hvn
          rw [htr] at ht'; cases ht'; rw [Hgd.out] at h1; exact h1
        have hct : wr.cell? ⟨w1.heap.size + 1, v, none⟩ = some (.int .i64 t) := by rw [hm2.rt.cell? v (by simp [hm2.lt]; omega)]; simp [htr, vN]
        have hcG2 : wr.cell? ⟨G, v, none⟩ = some (.slice au ro.length cu) := keep_cell hb2 hcG
        have hcu2 := hcu.below hb2
        have Htr := Lib.hid htr; have Hq := Lib.hid hq; clear htr hq
        have it0 : (0 : Int) ≤ (t : Int) := by omega
        by_cases hlt : t < ro.length
        · obtain ⟨x, hx⟩ : ∃ x, ro[t]? = some x := ⟨ro[t], by simp⟩
          have hxn : x < n := hrx x (List.mem_of_getElem? hx)
          obtain ⟨b, o2, rfl, hcx⟩ := hcu2 t (vN x) (by simp [hx])
          simp only [vN] at hcx
          have hmx : met[x]? = some (order.contains x) := hI2.metS x hxn
          have hcm : wr.cell? ⟨w1.heap.size, x, none⟩ = some (.bool (order.contains x)) := by rw [hm2.rm.cell? x (by simp [hm2.lm]; omega)]; simp only [List.getElem?_map, hmx]; rfl
          have Hx := Lib.hid hx; have Hmx := Lib.hid hmx; clear hx hmx
          have it1 : (t : Int) < (ro.length : Int) := by omega
          have ix0 : (0 : Int) ≤ (x : Int) := by omega
          have ix1 : (x : Int) < (n : Int) := by omega
          have hft : wr.frozen? ⟨w1.heap.size + 1, v, none⟩ = false := hm2.rt.frozen v
          go_wp2_with fail
          go_quiet (fail)
          go_wp2_with fail
          go_quiet (fail)
          go_upto_region 11 with (fail)
          generalize hN : wr.drewN _ = wd
          have hbd : Below wr.heap.size wr wd := by rw [← hN]; exact below_drewN (Below.refl _ _) _
          have hmT := (hm2.ext hbd).set_tried v (t + 1)
          rw [show vN (t + 1) = Value.int .i64 ((t : Int) + 1) by simp [vN]] at hmT
          have hbT : Below w.heap.size w (wd.setCell ⟨w1.heap.size + 1, v, none⟩ (Value.int .i64 ((t : Int) + 1))) := (bl_trans hb2 hbd).setCell (by simp; have := hbw1.size; omega) _
          generalize wd.setCell ⟨w1.heap.size + 1, v, none⟩ (Value.int .i64 ((t : Int) + 1)) = wt at hmT hbT ⊢
          clear hN hbd hcm hct hcG2 hcu2 hcx hft
          have hcm : wt.cell? ⟨w1.heap.size, x, none⟩ = some (.bool (order.contains x)) := by rw [hmT.rm.cell? x (by simp [hmT.lm]; omega)]; simp only [List.getElem?_map, Hmx.out]; rfl
          cases hcon : order.contains x with
          | true =>
            rw [hcon] at hcm
            have hI3 := hI2.next hvn hm2.lt Htr.out (by rw [Hgd.out]; exact Hx.out) (by simpa using hcon)
            clear hcon
            go_wp2_with fail
            go_roundg (gk - 1)
            case measure => have := Hq.out; omega
            case rel =>
              exact ⟨tr.set v (t + 1), t + 1, rfl, rfl, hmT, hbT, hI3, by rw [List.getElem?_set, if_pos rfl, if_pos (by rw [hm2.lt]; exact hvn)], by have := Hq.out; omega⟩
          | false =>
            rw [hcon] at hcm
            have hI3 := hI2.push hvn hm2.lt Htr.out (by rw [Hgd.out]; exact Hx.out) hxn (by simpa using hcon)
            clear hcon
            have hfm : wt.frozen? ⟨w1.heap.size, x, none⟩ = false := hmT.rm.frozen x
            go_upto_region 12 with (fail)
            have hcu1 : ∃ y, wt.cell? ⟨gu, x, none⟩ = some y := ⟨_, hmT.ru.cell x (by simp [hmT.lu]; omega)⟩
            obtain ⟨y, hcu1⟩ := hcu1
            have hcu3 : (wt.setCell ⟨w1.heap.size, x, none⟩ (.bool true)).cell? ⟨gu, x, none⟩ = some y := by rw [World.cell?_setCell_far _ _ _ _ (by simpa using hmT.d1.1.symm)]; exact hcu1
            have hmT2 := hmT.set_met x true
            have hfu : (wt.setCell ⟨w1.heap.size, x, none⟩ (.bool true)).frozen? ⟨gu, x, none⟩ = false := hmT2.ru.frozen x
            go_upto_region 13 with (fail)
            have hmT3 := hmT2.set_up x (v : Int)
            have hbT3 : Below w.heap.size w ((wt.setCell ⟨w1.heap.size, x, none⟩ (.bool true)).setCell ⟨gu, x, none⟩ (.int .i64 (v : Int))) := (hbT.setCell (by simpa using hbw1.size) _).setCell (by simpa using hmT.lo.1) _
            generalize (wt.setCell ⟨w1.heap.size, x, none⟩ (.bool true)).setCell ⟨gu, x, none⟩ (.int .i64 (v : Int)) = ws at hmT3 hbT3 ⊢
            clear hmT hmT2 hbT hcu1 hcu3 hfu hfm hcm hm2 hb2 hI2
            have hown1 := (hmT3.ext (bl_alloc ws (.cells #[.int .i64 x] 3))).ro.own1
            rw [List.length_map] at hown1
            go_wp2_with (at_builtin; refine wpList_append_row _ rfl (.tmp 76) (.tmp 78) 27 rfl 3 (.int .i64 0) 1 8 Try.underlying27 int_info rfl _ _ _ rfl hown1 ⟨ws.heap.size, 0, none⟩ 1 1 [.int .i64 x] rfl rfl (one_new (by simp)) (one_ok _ _) (by omega) (by unfold maxLen; omega) (by omega) ?_)
            intro g1 c1 w2 hr1 hc1 hgr1 hor1
            have hm4 := (hmT3.ext (bl_alloc ws (.cells #[.int .i64 x] 3))).push_order hr1 hgr1 (hor1.imp id (fun h => by simpa using h))
            have hbT4 : Below w.heap.size w w2 := (bl_trans hbT3 (bl_alloc _ _)).grown hgr1 (by simp; have := hbT3.size; omega) (fun k hk => by cases hk; exact hmT3.lo.2.2.2.1)
            clear hmT3 hr1 hgr1 hor1 hown1 hbT3
            have hown2 := (hm4.ext (bl_alloc w2 (.cells #[.int .i64 x] 3))).rp.own1
            rw [List.length_map, List.length_reverse] at hown2
            go_wp2_with (at_builtin; refine wpList_append_row _ rfl (.tmp 80) (.tmp 82) 27 rfl 3 (.int .i64 0) 1 8 Try.underlying27 int_info rfl _ _ _ rfl hown2 ⟨w2.heap.size, 0, none⟩ 1 1 [.int .i64 x] rfl rfl (one_new (by simp)) (one_ok _ _) (by omega) (by unfold maxLen; simp; omega) (by simp; omega) ?_)
            intro g2 c2 w3 hr2 hc2 hgr2 hor2
            have hm5 := (hm4.ext (bl_alloc w2 (.cells #[.int .i64 x] 3))).push_open (x := x) (g := g2) (c := c2) (by simpa [vN] using hr2) hgr2 (hor2.imp id (fun h => by simpa using h))
            have hbT5 : Below w.heap.size w w3 := (bl_trans hbT4 (bl_alloc _ _)).grown hgr2 (by simp; have := hbT4.size; omega) (fun k hk => by cases hk; exact hm4.lo.2.2.2.2)
            clear hm4 hr2 hgr2 hor2 hown2 hbT4
            go_wp2_with fail
            go_roundg r'
            case measure => omega
            case rel => exact ⟨g1, g2, c1, c2, _, _, _, order ++ [x], x :: v :: o, by simp, by simp, hm5, hbT5, hI3⟩
        · have hcp : o.length + 1 ≤ cp := by have := hm2.rp.len_le; simpa using this
          have hI3 := hI2.pop hvn Htr.out (by rw [Hgd.out]; exact hlt)
          have hcp2 : (o.length : Int) ≤ (cp : Int) := by omega
          have hmP := hm2.pop
          go_wp2_with fail
          go_quiet (fail)
          go_wp2_with fail
          go_roundg r'
          case measure => omega
          case rel =>
            exact ⟨go, gp, co, cp, up, met, tr, order, o, rfl, rfl, hmP.ext (below_drewN (Below.refl _ _) _), below_drewN hb2 _, hI3⟩
end Go.Proofs.Ytddndhhhmlcgjaa
