/- walk.away. -/
import Derived.Test.YtddndhhhmlcgjaaWalkA
import Derived.Test.YtddndhhhmlcgjaaBfs
namespace Go.Proofs.Ytddndhhhmlcgjaa
open Go Go.RowKit

/-- What is answered is a row of ints of the call's own. -/
def RetInts (w : World) (xs : List Int) (e : Ending) (w' : World) : Prop :=
  ∃ g c, e = .returned (.slice (some ⟨g, 0, none⟩) xs.length c) ∧ Row w' g 3 1 c (xs.map (Value.int .i64)) ∧ w.heap.size ≤ g ∧ Below w.heap.size w w'

/-- the two rows of 'away' -/
structure AM (w : World) (B gf gm cm n : Nat) (s : List Int × List Nat) : Prop where
  lf : s.1.length = n
  rf : Row w gf 3 1 n (s.1.map (Value.int .i64))
  rm : Row w gm 3 1 cm (s.2.map vN)
  d : gf ≠ gm
  lo : B ≤ gf ∧ B ≤ gm
theorem AM.ext {w w' : World} {B gf gm cm n : Nat} {s : List Int × List Nat} (h : AM w B gf gm cm n s) (hb : Below w.heap.size w w') : AM w' B gf gm cm n s :=
  { h with rf := h.rf.below hb h.rf.lt, rm := h.rm.below hb h.rm.lt }

set_option maxHeartbeats 2000000 in
theorem away_walk (G n : Nat) (vals : List Value) (bs : List (List Nat)) (st : Nat) (w : World) (hrows : OwnRows w G 27 3 n vals (rowsV bs)) (hbl : bs.length = n)
    (hbs : ∀ (v : Nat) (r : List Nat), bs[v]? = some r → r.length ≤ 1000 ∧ ∀ x ∈ r, x < n) (hst : st < n) (hn : n ≤ 200) :
    Calls Try.prog 30 #[.slice (some ⟨G, 0, none⟩) n n, .int .i64 st] w (RetInts w (awayL bs st)) := by
  have i1 : (st : Int) < (n : Int) := by omega
  have i2 : (0 : Int) ≤ (st : Int) := by omega
  go_enter Try.func30, Try.ntmps30
  go_wp2_with (go_at_call 41; refine (repeat_walk _ _ (-1) n _ (by simp) (by omega)).mono ?_; rintro e w1 ⟨gf, rfl, hgf, hrf, hb1⟩; have hst1 : w1.cell? ⟨gf, st, none⟩ = some (.int .i64 (-1)) := (by rw [hrf.cell? st (by simpa using hst)]; simp [hst]); have hst2 : w1.frozen? ⟨gf, st, none⟩ = false := hrf.frozen st)
  have hbw1 : Below w.heap.size w w1 := bl_trans (bl_alloc _ _) hb1
  have hG : G < w.heap.size := hrows.outer.lt
  have hgf2 : w.heap.size < gf := by have := hgf; simp at this; omega
  have hgfl : gf < w1.heap.size := hrf.lt
  go_loopg [6, 7] (n + 1) (fun r vm vi wr => ∃ (gm cm i : Nat) (s : List Int × List Nat), vm = .slice (some ⟨gm, 0, none⟩) s.2.length cm ∧ vi = .int .i64 i ∧ AM wr w.heap.size gf gm cm n s ∧ Below w.heap.size w wr ∧
    AInv n s ∧ awayRun bs r i s = awayL bs st ∧ i + r = n + 1 ∧ i ≤ s.2.length)
  case atStart =>
    refine ⟨w1.heap.size, 1, 0, ((List.replicate n (-1)).set st 0, [st]), rfl, rfl, ?_, ?_, AInv.start hst, by unfold awayL; rw [hbl], by omega, by simp⟩
    · refine ⟨by simp, ?_, ?_, by omega, by omega, by omega⟩
      · refine Row.alloc ?_ _
        have hrf' : Row w1 gf 3 1 n ((List.replicate n (-1)).map (Value.int .i64)) := by simpa using hrf
        have := hrf'.set st (.int .i64 0)
        rwa [← List.map_set] at this
      · have := row_lit (w1.setCell ⟨gf, st, none⟩ (.int .i64 0)) [vN st] 3 (by unfold maxLen; simp)
        simpa [vN] using this
    · exact bl_trans (hbw1.setCell (by simp; omega) _) (bl_alloc _ _)
  case round =>
    obtain ⟨gm, cm, i, s, rfl, rfl, hm, hb, hI, hrun, hir, his⟩ := hrel
    have hsl := hI.le
    by_cases hlt : i < s.2.length
    · obtain ⟨v, hv⟩ : ∃ v, s.2[i]? = some v := ⟨s.2[i], by simp⟩
      have hvn : v < n := hI.inM v (List.mem_of_getElem? hv)
      obtain ⟨d, hd, hd0⟩ := hI.metF v (List.mem_of_getElem? hv)
      obtain ⟨ro, hro⟩ : ∃ ro, bs[v]? = some ro := ⟨bs[v]'(by omega), by simp⟩
      have hgd : bs.getD v [] = ro := by simp [List.getD, hro]
      obtain ⟨hrl, hrx⟩ := hbs v ro hro
      have hvl : vals.length = n := by rw [hrows.len]; simp [rowsV, hbl]
      obtain ⟨u, hu⟩ : ∃ u, vals[v]? = some u := ⟨vals[v]'(by omega), by simp⟩
      have hrv : (rowsV bs)[v]? = some (ro.map vN) := by simp [rowsV, hro]
      obtain ⟨au, cu, hush, hcu⟩ := Own.shape (hrows.own v u _ hu hrv)
      rw [List.length_map] at hush
      subst hush
      have hcG : wr.cell? ⟨G, v, none⟩ = some (.slice au ro.length cu) := keep_cell hb (by rw [hrows.outer.cell? v (by omega), hu])
      have hci : wr.cell? ⟨gm, i, none⟩ = some (.int .i64 v) := by rw [hm.rm.cell? i (by simpa using hlt)]; simp [hv, vN]
      obtain ⟨r', hr'⟩ : ∃ r', gk = r' + 1 := ⟨gk - 1, by omega⟩
      subst hr'
      have hnext : awayRun bs r' (i + 1) (ro.foldl (away1 d) s) = awayL bs st := by
        rw [awayRun, hv] at hrun
        simpa [List.getD, hro, hd] using hrun
      have hdl : d < s.2.length := by rcases hI.val v d hd with h1 | h1 <;> omega
      have Hgd := Lib.hid hgd; have Hro := Lib.hid hro; have Hvl := Lib.hid hvl; have Hu := Lib.hid hu; have Hrv := Lib.hid hrv; have Hv := Lib.hid hv; have Hd := Lib.hid hd; have Hnext := Lib.hid hnext; have Hir := Lib.hid hir
      clear hgd hro hvl hu hrv hv hd hnext hrun hir
      have iv1 : (v : Int) < (n : Int) := by omega
      have iv2 : (0 : Int) ≤ (v : Int) := by omega
      have ii1 : (i : Int) < (s.2.length : Int) := by omega
      go_wp2_with fail
      go_loopg [6, 33] ro.length (fun q vm vj wi => ∃ (gm cm j : Nat) (s2 : List Int × List Nat), vm = .slice (some ⟨gm, 0, none⟩) s2.2.length cm ∧ vj = .int .i64 j ∧ AM wi w.heap.size gf gm cm n s2 ∧ Below w.heap.size w wi ∧
        AInv n s2 ∧ (ro.drop j).foldl (away1 d) s2 = ro.foldl (away1 d) s ∧ j + q = ro.length ∧ s2.1[v]? = some d ∧ s2.2[i]? = some v)
      case atStart => exact ⟨gm, cm, 0, s, rfl, rfl, hm, hb, hI, by simp, by omega, Hd.out, Hv.out⟩
      case round =>
        obtain ⟨gm2, cm2, j, s2, rfl, rfl, hm2, hb2, hI2, hrun, hjq, hd2, hv2⟩ := hrel
        have hsl2 := hI2.le
        by_cases hjl : j < ro.length
        · obtain ⟨x, hx⟩ : ∃ x, ro[j]? = some x := ⟨ro[j], by simp⟩
          have hxn : x < n := hrx x (List.mem_of_getElem? hx)
          obtain ⟨b, o2, rfl, hcx⟩ := (hcu.below hb2) j (vN x) (by simp [hx])
          simp only [vN] at hcx
          obtain ⟨y, hy⟩ : ∃ y, s2.1[x]? = some y := ⟨s2.1[x]'(by rw [hI2.lf]; exact hxn), by simp⟩
          have hcy : wr.cell? ⟨gf, x, none⟩ = some (.int .i64 y) := by rw [hm2.rf.cell? x (by simp [hI2.lf]; omega)]; simp [hy]
          have hcd : wr.cell? ⟨gf, v, none⟩ = some (.int .i64 d) := by rw [hm2.rf.cell? v (by simp [hI2.lf]; omega)]; simp [hd2]
          have hil : i < s2.2.length := (List.getElem?_eq_some_iff.1 hv2).1
          have hci2 : wr.cell? ⟨gm2, i, none⟩ = some (.int .i64 v) := by rw [hm2.rm.cell? i (by simpa using hil)]; simp [hv2, vN]
          have hff : ∀ k, wr.frozen? ⟨gf, k, none⟩ = false := fun k => hm2.rf.frozen k
          have hdrop : ro.drop j = x :: ro.drop (j + 1) := by
            rw [List.drop_eq_getElem_cons hjl]
            rw [List.getElem?_eq_getElem hjl] at hx
            cases hx; rfl
          have hstep : (ro.drop (j + 1)).foldl (away1 d) (away1 d s2 x) = ro.foldl (away1 d) s := by
            rw [hdrop, List.foldl_cons] at hrun; exact hrun
          have hd2l : d < s2.2.length := by rcases hI2.val v d hd2 with h1 | h1 <;> omega
          have hI3 := hI2.step hxn hd0 hd2l
          have hd3 := away1_keep (d := d) (x := x) hd2 hd0
          have hv3 := away1_met (d := d) (x := x) hv2
          have hgy : s2.1.getD x 0 = y := by simp [List.getD, hy]
          have Hstep := Lib.hid hstep; have HI3 := Lib.hid hI3; have Hd3 := Lib.hid hd3; have Hv3 := Lib.hid hv3; have Hgy := Lib.hid hgy; have Hy := Lib.hid hy
          have Hjq := Lib.hid hjq
          clear hstep hI3 hd3 hv3 hgy hdrop hrun hx hd2 hv2 hy hjq
          have ix0 : (0 : Int) ≤ (x : Int) := by omega
          have ix1 : (x : Int) < (n : Int) := by omega
          have ii2 : (i : Int) < (s2.2.length : Int) := by omega
          have idl : d ≤ 1000 := by omega
          by_cases hyn : y < 0
          · go_upto_region 12 with (fail)
            have he : away1 d s2 x = (s2.1.set x (d + 1), s2.2 ++ [x]) := by unfold away1; rw [Hgy.out, if_pos hyn]
            have He := Lib.hid he; clear he
            have hrf2 : Row (wr.setCell ⟨gf, x, none⟩ (.int .i64 (d + 1))) gf 3 1 n ((s2.1.set x (d + 1)).map (Value.int .i64)) := by
              have := hm2.rf.set x (.int .i64 (d + 1)); rwa [← List.map_set] at this
            have hrm2 := hm2.rm.other (a := ⟨gf, x, none⟩) (by simpa using hm2.d.symm) (.int .i64 (d + 1))
            have hbT : Below w.heap.size w (wr.setCell ⟨gf, x, none⟩ (.int .i64 (d + 1))) := hb2.setCell (by simpa using hm2.lo.1) _
            generalize wr.setCell ⟨gf, x, none⟩ (.int .i64 (d + 1)) = wt at hrf2 hrm2 hbT ⊢
            have hd' := hm2.d; have hlo := hm2.lo; have hlf := hm2.lf
            clear hcy hcd hci2 hff hcx hm2
            have hown := (hrm2.below (bl_alloc wt (.cells #[.int .i64 x] 3)) hrm2.lt).own1
            rw [List.length_map] at hown
            go_wp2_with (at_builtin; refine wpList_append_row _ rfl (.tmp 53) (.tmp 55) 27 rfl 3 (.int .i64 0) 1 8 Try.underlying27 int_info rfl _ _ _ rfl hown ⟨wt.heap.size, 0, none⟩ 1 1 [.int .i64 x] rfl rfl (one_new (by simp)) (one_ok _ _) (by omega) (by unfold maxLen; omega) (by omega) ?_)
            intro g1 c1 w2 hr1 hc1 hgr1 hor1
            have hrf3 : Row w2 gf 3 1 n ((s2.1.set x (d + 1)).map (Value.int .i64)) := (hrf2.alloc _).grown hgr1 (by simp [Value.ownBlock]; exact hd'.symm)
            have hne : gf ≠ g1 := by
              rcases hor1 with h | h
              · have h' : some gm2 = some g1 := h
                have := Option.some.inj h'; omega
              · have := hrf2.lt; omega
            have hlo1 : w.heap.size ≤ g1 := by
              rcases hor1 with h | h
              · have h' : some gm2 = some g1 := h
                have := Option.some.inj h'; omega
              · have := hbT.size; omega
            have hbT2 : Below w.heap.size w w2 := (bl_trans hbT (bl_alloc _ _)).grown hgr1 (by simp; have := hbT.size; omega) (fun k hk => by cases hk; exact hlo.2)
            clear hrf2 hrm2 hown hgr1 hor1 hbT
            go_wp2_with fail
            go_roundg (gk - 1)
            case measure => have := Hjq.out; omega
            case rel =>
              refine ⟨g1, c1, j + 1, (s2.1.set x (d + 1), s2.2 ++ [x]), by simp, by go_num, ⟨by simpa using hlf, hrf3, by simpa [vN] using hr1, hne, hlo.1, hlo1⟩, hbT2, by rw [He.out] at HI3; exact HI3.out, by have h := Hstep.out; rwa [He.out] at h, by have := Hjq.out; omega, by have h := Hd3.out; rwa [He.out] at h, by have h := Hv3.out; rwa [He.out] at h⟩
          · have he : away1 d s2 x = s2 := by unfold away1; rw [Hgy.out, if_neg hyn]
            have He := Lib.hid he; clear he
            go_wp2_with fail
            go_roundg (gk - 1)
            case measure => have := Hjq.out; omega
            case rel => exact ⟨gm2, cm2, j + 1, s2, rfl, by go_num, hm2, hb2, by rw [He.out] at HI3; exact HI3.out, by have h := Hstep.out; rwa [He.out] at h, by have := Hjq.out; omega, by have h := Hd3.out; rwa [He.out] at h, by have h := Hv3.out; rwa [He.out] at h⟩
        · have hj : j = ro.length := by omega
          have hs2 : s2 = ro.foldl (away1 d) s := by
            rw [← hrun, hj, List.drop_length]; rfl
          have Hs2 := Lib.hid hs2; clear hs2 hj hrun
          have hil : i < s2.2.length := (List.getElem?_eq_some_iff.1 hv2).1
          clear hd2 hv2
          go_wp2_with fail
          go_roundg r'
          case measure => omega
          case rel => exact ⟨gm2, cm2, i + 1, s2, rfl, by go_num, hm2, hb2, hI2, by rw [Hs2.out]; exact Hnext.out, by have := Hir.out; omega, by omega⟩
    · have hend := awayRun_end (bs := bs) (r := gk) (i := i) (s := s) (by omega)
      rw [hrun] at hend
      have Hend := Lib.hid hend; have hl : (awayL bs st).length = n := by rw [hend]; exact hI.lf
      have Hl := Lib.hid hl
      clear hend hl hrun
      go_wp2_with fail
      go_ret
      exact ⟨gf, n, by rw [Hl.out]; rfl, by rw [Hend.out]; exact hm.rf, hm.lo.1, hb⟩
end Go.Proofs.Ytddndhhhmlcgjaa
