/- walk.Path. -/
import Derived.Test.YtddndhhhmlcgjaaTop
import Derived.Test.YtddndhhhmlcgjaaPathP
namespace Go.Proofs.Ytddndhhhmlcgjaa
open Go Go.RowKit

def RetPathFn (w : World) (n : Int) (es : List (Int × Int)) (st tt : Int) (e : Ending) (w' : World) : Prop :=
  Below w.heap.size w w' ∧
  ((rightB n es = false ∧ e = .returned (.tuple #[.slice none 0 0, .int .i64 20])) ∨
   (rightB n es = true ∧ (inR n st && inR n tt) = false ∧ e = .returned (.tuple #[.slice none 0 0, .int .i64 2])) ∨
   (rightB n es = true ∧ inR n st = true ∧ inR n tt = true ∧ (awayL (besideL n.toNat es) tt.toNat).getD st.toNat 0 < 0 ∧ e = .returned (.tuple #[.slice none 0 0, .int .i64 60])) ∨
   (rightB n es = true ∧ inR n st = true ∧ inR n tt = true ∧ 0 ≤ (awayL (besideL n.toNat es) tt.toNat).getD st.toNat 0 ∧
     ∃ g c, e = .returned (.tuple #[.slice (some ⟨g, 0, none⟩) (pathL (besideL n.toNat es) st.toNat tt.toNat).length c, .int .i64 0]) ∧
     Row w' g 3 1 c ((pathL (besideL n.toNat es) st.toNat tt.toNat).map vN) ∧ w.heap.size ≤ g))

set_option maxHeartbeats 2000000 in
theorem pathFn_walk (n : Int) (a : Option Addr) (cap : Nat) (es : List (Int × Int)) (st tt : Int) (w : World) (hr : RdP w a es) (hcap : es.length ≤ 9223372036854775807) :
    Calls Try.prog 16 #[.agg #[.int .i64 n, .slice a es.length cap], .int .i64 st, .int .i64 tt] w (RetPathFn w n es st tt) := by
  go_enter Try.func16, Try.ntmps16
  go_wp2_with fail
  refine (start_walk n a cap es _ [st, tt] 2 _ ((hr.below (bl_alloc _ _)).below (bl_alloc _ _)) (rdI_two (by simp) (by simp)) hcap (by simp)).mono ?_
  rintro e w1 ⟨hb1, hcase⟩
  have hB : Below w.heap.size w w1 := bl_trans (bl_trans (bl_alloc _ _) (bl_alloc _ _)) hb1
  rcases hcase with ⟨hright, rfl⟩ | ⟨hright, hin, rfl⟩ | ⟨hright, hin, G, vals, rfl, hG, hrows⟩
  · have Hr := Lib.hid hright; clear hright
    go_wp2_with fail
    go_ret2
    exact ⟨hB, .inl ⟨Hr.out, rfl⟩⟩
  · have Hr := Lib.hid hright; have Hin := Lib.hid hin; clear hright hin
    go_wp2_with fail
    go_ret2
    exact ⟨hB, .inr (.inl ⟨Hr.out, by simpa using Hin.out, rfl⟩)⟩
  · have hin' : inR n st = true ∧ inR n tt = true := by simpa using hin
    obtain ⟨hin1, hin2⟩ := hin'
    obtain ⟨h0, h1⟩ := (inR_iff _ _).1 hin1
    obtain ⟨h2, h3⟩ := (inR_iff _ _).1 hin2
    obtain ⟨m, rfl⟩ : ∃ m : Nat, n = m := ⟨n.toNat, by omega⟩
    obtain ⟨s, rfl⟩ : ∃ s : Nat, st = s := ⟨st.toNat, by omega⟩
    obtain ⟨t, rfl⟩ : ∃ t : Nat, tt = t := ⟨tt.toNat, by omega⟩
    have hok := beside_ok (m := m) rfl hright
    obtain ⟨_, hn2, _⟩ := (rightB_iff _ _).1 hright
    have hsym := adj_sym hright
    have hdist := away_dist hright (st := t) (by omega)
    rw [Int.toNat_natCast] at hrows
    have Hr := Lib.hid hright; have Hin1 := Lib.hid hin1; have Hin2 := Lib.hid hin2; have Hok := Lib.hid hok; clear hright hin hin1 hin2 hok
    obtain ⟨bs, hbs⟩ : ∃ bs, bs = besideL m es := ⟨_, rfl⟩
    have hbl : bs.length = m := by rw [hbs, besideL_length]
    rw [← hbs] at hrows hsym hdist
    have Hok2 : Hid (∀ (v : Nat) (r : List Nat), bs[v]? = some r → r.length ≤ 1000 ∧ ∀ x ∈ r, x < m) := Lib.hid (by rw [hbs]; exact Hok.out)
    have Hbs := Lib.hid hbs; have Hbl := Lib.hid hbl; have Hsym := Lib.hid hsym
    clear hbs Hok hbl hsym
    go_wp2_with (go_at_call 30; refine (away_walk G m vals bs t _ hrows Hbl.out Hok2.out (by omega) (by omega)).mono ?_; rintro e w2 ⟨gf, cf, rfl, hrf, hgf, hb2⟩; obtain ⟨x0, hx0⟩ : ∃ x, (awayL bs t)[s]? = some x := ⟨_, List.getElem?_eq_getElem (by rw [hdist.len]; omega)⟩; have hfl : (awayL bs t).length = m := hdist.len; have hcs : w2.cell? ⟨gf, s, none⟩ = some (.int .i64 x0) := (by rw [hrf.cell? s (by simp; omega)]; simp [hx0]); have Hx0 := Lib.hid hx0; clear hx0; have hsl : (s : Int) < ((awayL bs t).length : Int) := (by omega))
    · have hneg : x0 < 0 := by assumption
      go_ret2
      refine ⟨bl_trans hB hb2, .inr (.inr (.inl ⟨Hr.out, Hin1.out, Hin2.out, ?_, rfl⟩))⟩
      simp only [Int.toNat_natCast]
      rw [← Hbs.out]
      simp [List.getD, Hx0.out, hneg]
    · have hx00 : 0 ≤ x0 := by assumption
      have hx0m : x0 < m := by rcases hdist.val s x0 Hx0.out with h | h <;> omega
      have hB2 : Below w.heap.size w w2 := bl_trans hB hb2
      have hGl : G < w1.heap.size := hrows.outer.lt
      have hgfl : gf < w2.heap.size := hrf.lt
      have hz2 : w1.heap.size ≤ w2.heap.size := hb2.size
      have hz0 : w.heap.size ≤ w1.heap.size := hB.size
      have hrows2 := hrows.below hb2
      obtain ⟨far, hfar⟩ : ∃ far, far = awayL bs t := ⟨_, rfl⟩
      rw [← hfar] at hrf hdist hfl
      have hx0' : far[s]? = some x0 := by rw [hfar]; exact Hx0.out
      have hfin : pathRun bs far x0.toNat s [s] = pathL bs s t := by
        unfold pathL
        rw [← hfar]
        simp [List.getD, hx0']
      have Hfar := Lib.hid hfar; have Hfin := Lib.hid hfin; have HX0 := Lib.hid hx0'
      clear hfar hfin hx0' hsl hcs
      have Hdist := Lib.hid hdist; clear hdist
      have Hfl := Lib.hid hfl; clear hfl
      go_loopg [11, 12] x0.toNat (fun r vw vv wr => ∃ (gw cw v : Nat) (way : List Nat), vw = .slice (some ⟨gw, 0, none⟩) way.length cw ∧ vv = .int .i64 v ∧ v < m ∧ far[v]? = some (r : Int) ∧
        Row wr gw 3 1 cw (way.map vN) ∧ w2.heap.size ≤ gw ∧ Below w2.heap.size w2 wr ∧ pathRun bs far r v way = pathL bs s t ∧ way.length + r ≤ 300)
      case atStart =>
        refine ⟨w2.heap.size, 1, s, [s], rfl, rfl, by omega, by rw [HX0.out]; congr 1; omega, ?_, Nat.le_refl _, bl_alloc _ _, Hfin.out, by simp; omega⟩
        have := row_lit w2 [vN s] 3 (by unfold maxLen; simp)
        simpa [vN] using this
      case round =>
        obtain ⟨gw, cw, v, way, rfl, rfl, hvm, hfv, hrw, hgw, hb3, hrun, hwl⟩ := hrel
        have hvi : (v : Int) < (m : Int) := by omega
        have hv0 : (0 : Int) ≤ (v : Int) := by omega
        cases gk with
        | zero =>
          have hvt : v = t := Hdist.out.zero v hfv
          subst hvt
          have hw : way = pathL bs s v := hrun
          have Hw := Lib.hid hw; clear hw hrun hfv
          go_wp2_with fail
          go_ret2
          refine ⟨bl_trans hB2 hb3, .inr (.inr (.inr ⟨Hr.out, Hin1.out, Hin2.out, ?_, gw, cw, ?_, ?_, by omega⟩))⟩
          · simp only [Int.toNat_natCast]
            rw [← Hbs.out, ← Hfar.out]
            simp [List.getD, HX0.out, hx00]
          · simp only [Int.toNat_natCast]
            rw [← Hbs.out, ← Hw.out]; rfl
          · simp only [Int.toNat_natCast]
            rw [← Hbs.out, ← Hw.out]; exact hrw
        | succ r =>
          have hvt : v ≠ t := fun h => by
            have h0 := Hdist.out.st0
            rw [← h, hfv] at h0; simp at h0; omega
          have hne : ((v : Int) != (t : Int)) = true := by simp; omega
          obtain ⟨ro, hro⟩ : ∃ ro, bs[v]? = some ro := ⟨bs[v]'(by rw [Hbl.out]; omega), by simp⟩
          have hgd : bs.getD v [] = ro := by simp [List.getD, hro]
          obtain ⟨hrl, hrx⟩ := Hok2.out v ro hro
          have hvl : vals.length = m := by rw [hrows.len]; simp [rowsV, Hbl.out]
          obtain ⟨u, hu⟩ : ∃ u, vals[v]? = some u := ⟨vals[v]'(by omega), by simp⟩
          have hrv : (rowsV bs)[v]? = some (ro.map vN) := by simp [rowsV, hro]
          obtain ⟨au, cu, hush, hcu⟩ := Own.shape (hrows2.own v u _ hu hrv)
          rw [List.length_map] at hush
          subst hush
          have hcG2 : w2.cell? ⟨G, v, none⟩ = some (.slice au ro.length cu) := by rw [hrows2.outer.cell? v (by omega), hu]
          have hcG : wr.cell? ⟨G, v, none⟩ = some (.slice au ro.length cu) := keep_cell hb3 hcG2
          have hcv2 : w2.cell? ⟨gf, v, none⟩ = some (.int .i64 ((r + 1 : Nat) : Int)) := by rw [hrf.cell? v (by simp [Hfl.out]; omega)]; simp [hfv]
          have hfg : far.getD v 0 = ((r + 1 : Nat) : Int) := by simp [List.getD, hfv]
          have Hgd := Lib.hid hgd; have Hro := Lib.hid hro; have Hvl := Lib.hid hvl; have Hu := Lib.hid hu; have Hrv := Lib.hid hrv; have Hrun := Lib.hid hrun; have Hfv := Lib.hid hfv; have Hfg := Lib.hid hfg
          clear hgd hro hvl hu hrv hrun hfv hfg
          go_wp2_with fail
          go_loopg [12, 45] ro.length (fun q vv vj wi => ∃ j : Nat, vv = .int .i64 v ∧ vj = .int .i64 j ∧ j + q = ro.length ∧ (∀ i, i < j → ∀ y, ro[i]? = some y → far.getD y 0 ≠ ((r + 1 : Nat) : Int) - 1) ∧
            Row wi gw 3 1 cw (way.map vN) ∧ Below w2.heap.size w2 wi)
          case atStart => exact ⟨0, rfl, rfl, by omega, fun i h => absurd h (by omega), hrw, hb3⟩
          case round =>
            obtain ⟨j, rfl, rfl, hjq, hno, hrw2, hb4⟩ := hrel
            by_cases hjl : j < ro.length
            · obtain ⟨x, hx⟩ : ∃ x, ro[j]? = some x := ⟨ro[j], by simp⟩
              have hxm : x < m := hrx x (List.mem_of_getElem? hx)
              obtain ⟨b, o2, rfl, hcx⟩ := (hcu.below hb4) j (vN x) (by simp [hx])
              simp only [vN] at hcx
              obtain ⟨y, hy⟩ : ∃ y, far[x]? = some y := ⟨far[x]'(by rw [Hfl.out]; exact hxm), by simp⟩
              have hcy : wr.cell? ⟨gf, x, none⟩ = some (.int .i64 y) := keep_cell hb4 (by rw [hrf.cell? x (by simp [Hfl.out]; omega)]; simp [hy])
              have hcv : wr.cell? ⟨gf, v, none⟩ = some (.int .i64 ((r + 1 : Nat) : Int)) := keep_cell hb4 hcv2
              have hgy : far.getD x 0 = y := by simp [List.getD, hy]
              have hyb : -1 ≤ y ∧ y ≤ 300 := by rcases Hdist.out.val x y hy with h | h <;> omega
              have Hx := Lib.hid hx; have Hy := Lib.hid hy; have Hgy := Lib.hid hgy; have Hjq := Lib.hid hjq; have Hno := Lib.hid hno
              clear hx hy hgy hjq hno
              have ix0 : (0 : Int) ≤ (x : Int) := by omega
              have ix1 : (x : Int) < (m : Int) := by omega
              have ixl : (x : Int) < (far.length : Int) := by rw [Hfl.out]; omega
              have ivl : (v : Int) < (far.length : Int) := by rw [Hfl.out]; omega
              have iw : IntKind.i64.wrap (((r + 1 : Nat) : Int) - 1) = (r : Int) := by rw [show (((r + 1 : Nat) : Int) - 1) = r by omega]; exact IntWalk.i64_in _ (by omega)
              have iw2 : IntKind.i64.wrap ((r : Int) + 1 - 1) = (r : Int) := by rw [show ((r : Int) + 1 - 1) = r by omega]; exact IntWalk.i64_in _ (by omega)
              have iw3 : IntKind.i64.wrap (r : Int) = (r : Int) := IntWalk.i64_in _ (by omega)
              by_cases hyr : y = r
              · have hyt : (y == (r : Int)) = true := by simpa using hyr
                have Hyr := Lib.hid hyr; clear hyr
                go_wp2_with fail
                go_quiet (fail)
                go_upto_region 16 with (fail)
                have hnx : nxt bs far v = some x := nxt_at Hgd.out Hfg.out Hno.out Hx.out (by rw [Hgy.out, Hyr.out]; omega)
                have hnext : pathRun bs far r x (way ++ [x]) = pathL bs s t := by
                  have h := Hrun.out
                  rw [pathRun, hnx] at h
                  exact h
                have Hnext := Lib.hid hnext; clear hnx hnext
                generalize hN : wr.drewN _ = wd
                have hbd : Below wr.heap.size wr wd := by rw [← hN]; exact below_drewN (Below.refl _ _) _
                have hb5 := bl_trans hb4 hbd
                have hrw3 := hrw2.below hbd hrw2.lt
                clear hN hbd hb4 hrw2 hcx hcy hcv
                have hown := (hrw3.alloc (.cells #[.int .i64 x] 3)).own1
                rw [List.length_map] at hown
                go_wp2_with (at_builtin; refine wpList_append_row _ rfl (.tmp 61) (.tmp 63) 27 rfl 3 (.int .i64 0) 1 8 Try.underlying27 int_info rfl _ _ _ rfl hown ⟨wd.heap.size, 0, none⟩ 1 1 [.int .i64 x] rfl rfl (one_new (by simp)) (one_ok _ _) (by omega) (by unfold maxLen; omega) (by omega) ?_)
                intro g1 c1 w4 hr1 hc1 hgr1 hor1
                have hlo1 : w2.heap.size ≤ g1 := by
                  rcases hor1 with h | h
                  · have h' : some gw = some g1 := h
                    have := Option.some.inj h'; omega
                  · have := hb5.size; omega
                have hb6 : Below w2.heap.size w2 w4 := (bl_trans hb5 (bl_alloc _ _)).grown hgr1 (by simp; have := hb5.size; omega) (fun k hk => by cases hk; exact hgw)
                clear hown hgr1 hor1 hb5 hrw3
                go_wp2_with fail
                go_roundg r
                case measure => omega
                case rel => exact ⟨g1, c1, x, way ++ [x], by simp, rfl, hxm, by rw [Hy.out, Hyr.out], by simpa [vN] using hr1, hlo1, hb6, Hnext.out, by simp; omega⟩
              · have hyt : (y == (r : Int)) = false := by simpa using hyr
                have Hyr := Lib.hid hyr; clear hyr
                go_wp2_with fail
                go_quiet (fail)
                go_wp2_with fail
                go_roundg (gk - 1)
                case measure => have := Hjq.out; omega
                case rel =>
                  refine ⟨j + 1, rfl, by go_num, by have := Hjq.out; omega, ?_, hrw2.drewN _, below_drewN hb4 _⟩
                  intro i hi y' hy'
                  by_cases hij : i < j
                  · exact Hno.out i hij y' hy'
                  · obtain rfl : i = j := by omega
                    rw [Hx.out] at hy'; cases hy'
                    rw [Hgy.out]
                    have := Hyr.out
                    omega
            · exfalso
              obtain ⟨x, h1, h2⟩ := nxt_ex Hdist.out Hsym.out Hfv.out (by omega)
              rw [Hgd.out] at h1
              obtain ⟨i, hi, rfl⟩ := List.getElem_of_mem h1
              exact hno i (by omega) ro[i] (by simp) (by simp [List.getD, h2])
end Go.Proofs.Ytddndhhhmlcgjaa
