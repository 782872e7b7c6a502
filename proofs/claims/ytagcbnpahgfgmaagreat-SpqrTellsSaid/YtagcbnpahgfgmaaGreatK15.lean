/- Facts that the claim rests on, part 16. -/
import Derived.Test.YtagcbnpahgfgmaaGreatK14
namespace Go.Proofs.YtagcbnpahgfgmaaGreat
open Go Go.RowKit
def pickV (v : Int) (x : List Lk) : List Lk := x.filter fun k => k.2.2 == v
def pickN (v : Int) (x y : List Lk) (i : Nat) : Nat × Nat := ((pickV v (x.take i)).length, (pickV v (y.take (i - x.length))).length)
def manyC (p : Nat × Nat) : List Value := [.int .i64 (p.1 : Nat), .int .i64 (p.2 : Nat)]
theorem pick_one {x : List Lk} {e : Lk} (hn : x.Nodup) (he : e ∈ x) (hu : ∀ k ∈ x, k.2.2 = e.2.2 → k = e) : pickV e.2.2 x = [e] := by
 have h1 : (pickV e.2.2 x).Perm [e] := (List.perm_ext_iff_of_nodup (hn.filter _) (by simp)).2 fun k => by
  rw [List.mem_filter]
  simp only [beq_iff_eq, List.mem_cons, List.not_mem_nil, or_false]
  exact ⟨fun h => hu k h.1 h.2, fun h => by subst h; exact ⟨he, rfl⟩⟩
 exact List.perm_singleton.1 h1
theorem pickV_succ {v : Int} {L : List Lk} {i : Nat} (h : i < L.length) : pickV v (L.take (i + 1)) = pickV v (L.take i) ++ if L[i].2.2 = v then [L[i]] else [] := by
 unfold pickV
 rw [List.take_succ_eq_append_getElem h, List.filter_append]
 congr 1
 by_cases e : L[i].2.2 = v <;> simp [e]
theorem dropV_succ {v : Int} {L : List Lk} {i : Nat} (h : i < L.length) : dropV v (L.take (i + 1)) = dropV v (L.take i) ++ if L[i].2.2 = v then [] else [L[i]] := by
 unfold dropV
 rw [List.take_succ_eq_append_getElem h, List.filter_append]
 congr 1
 by_cases e : L[i].2.2 = v <;> simp [e]
def sideN (x : List Lk) (i : Nat) : Nat := if i < x.length then 0 else 1
theorem many_no {v : Int} {x y : List Lk} {i : Nat} (h : i < (x ++ y).length) (hv : (x ++ y)[i].2.2 ≠ v) : pickN v x y (i + 1) = pickN v x y i := by
 unfold pickN
 rw [List.length_append] at h
 by_cases hi : i < x.length
 ·
  rw [List.getElem_append_left hi] at hv
  rw [pickV_succ hi, if_neg hv, show i + 1 - x.length = 0 by omega, show i - x.length = 0 by omega, List.append_nil]
 ·
  rw [List.getElem_append_right (by omega)] at hv
  rw [show i + 1 - x.length = (i - x.length) + 1 by omega, pickV_succ (L := y) (i := i - x.length) (by omega), if_neg hv, List.append_nil, List.take_of_length_le (l := x) (i := i + 1) (by omega), List.take_of_length_le (l := x) (i := i) (by omega)]
theorem many_yes {v : Int} {x y : List Lk} {i : Nat} (h : i < (x ++ y).length) (hv : (x ++ y)[i].2.2 = v) : ∃ c : Nat, (manyC (pickN v x y i))[sideN x i]? = some (.int .i64 (c : Nat)) ∧ c ≤ i ∧ manyC (pickN v x y (i + 1)) = (manyC (pickN v x y i)).set (sideN x i) (.int .i64 ((c : Int) + 1)) := by
 rw [List.length_append] at h
 have hle : ∀ (z : List Lk) j, (pickV v (z.take j)).length ≤ j := fun z j => by
  have h1 := List.length_filter_le (fun k : Lk => k.2.2 == v) (z.take j)
  rw [List.length_take] at h1
  unfold pickV
  omega
 by_cases hi : i < x.length
 ·
  rw [List.getElem_append_left hi] at hv
  refine ⟨(pickN v x y i).1, ?_, hle _ _, ?_⟩
  · unfold sideN manyC; rw [if_pos hi]; rfl
  ·
   unfold sideN manyC pickN; rw [if_pos hi, pickV_succ hi, if_pos hv, show i + 1 - x.length = 0 by omega, show i - x.length = 0 by omega]; simp
 ·
  rw [List.getElem_append_right (by omega)] at hv
  refine ⟨(pickN v x y i).2, ?_, Nat.le_trans (hle _ _) (by omega), ?_⟩
  · unfold sideN manyC; rw [if_neg hi]; rfl
  ·
   unfold sideN manyC pickN; rw [if_neg hi, show i + 1 - x.length = (i - x.length) + 1 by omega, pickV_succ (L := y) (i := i - x.length) (by omega), if_pos hv, List.take_of_length_le (l := x) (i := i + 1) (by omega), List.take_of_length_le (l := x) (i := i) (by omega)]; simp
theorem pair_eq2 (x y x' y' : Int) (w : World) : (Op.equalIn 10000 62 (.agg #[.int .i64 x, .int .i64 y]) (.agg #[.int .i64 x', .int .i64 y'])).run Tryz.prog w = .ok (x == x' && y == y') w := by
 have hi1 : ∀ w, (sizeOf 3).run Tryz.prog w = .ok 1 w := fun w => by kernel_rfl
 have hi2 : ∀ w, (isAgg 3).run Tryz.prog w = .ok false w := fun w => by kernel_rfl
 have h1 : ∀ (a b : Int) (w : World), (Op.equalIn (9998 + 1) 3 (.int .i64 a) (.int .i64 b)).run Tryz.prog w = .ok (a == b) w := fun a b w => run_equalIn_int w 9998 3 .i64 .i64 a b Tryz.underlying3
 rw [show (10000 : Nat) = 9998 + 1 + 1 from rfl, Op.equalIn]
 generalize Op.equalIn (9998 + 1) = E at h1
 simp [run_underlying Tryz.underlying62, hi1, part, hi2, h1, List.range', List.forIn_cons]
 by_cases hx : x = x' <;> by_cases hy : y = y' <;> simp [hx, hy]
set_option maxRecDepth 100000 in
set_option maxHeartbeats 8000000 in
theorem join14_walk (a a' : Option Addr) (ca cb : Nat) (x y : List Lk) (e : Lk) (w : World) (hrx : RdL w a x) (hry : RdL w a' y)
  (Rx : RightL x) (Ry : RightL y) (hv : 1 ≤ e.2.2 ∧ e.2.2 ≤ 1048576) (hx : e ∈ x) (hy : e ∈ y) (ux : ∀ k ∈ x, k.2.2 = e.2.2 → k = e) (uy : ∀ k ∈ y, k.2.2 = e.2.2 → k = e) (hR : RightL (joinL x y e.2.2)) :
  Calls Tryz.prog 55 #[.slice a x.length ca, .slice a' y.length cb, .int .i64 e.2.2] w (RetJ w (joinL x y e.2.2)) := by
 have hrX := (rightL_iff x).2 Rx
 have hrY := (rightL_iff y).2 Ry
 have hrJ := (rightL_iff _).2 hR
 have hxl := Rx.1; have hyl := Ry.1
 have hends : pickV e.2.2 (x ++ y) = [e, e] := by
  have h1 : pickV e.2.2 (x ++ y) = pickV e.2.2 x ++ pickV e.2.2 y := by unfold pickV; rw [List.filter_append]
  rw [h1, pick_one (right_nodup Rx) hx ux, pick_one (right_nodup Ry) hy uy]; rfl
 have hmany : pickN e.2.2 x y (x ++ y).length = (1, 1) := by
  unfold pickN
  rw [List.length_append, List.take_of_length_le (by omega), List.take_of_length_le (by omega), pick_one (right_nodup Rx) hx ux, pick_one (right_nodup Ry) hy uy]; rfl
 have hout : joinL x y e.2.2 = sortL (dropV e.2.2 (x ++ y)) := by unfold joinL; rw [dropV_append]
 obtain ⟨e1, e2, v⟩ := e
 simp only at hv hends hmany hout hrJ ⊢
 have q1 : decide (v < 1) = false := by simp; omega
 obtain ⟨J, hJ⟩ : ∃ J, J = joinL x y v := ⟨_, rfl⟩
 rw [← hJ] at hout hrJ ⊢
 have HrX := Lib.hid hrX; have HrY := Lib.hid hrY; have Hends := Lib.hid hends; have Hmany := Lib.hid hmany; have Hout := Lib.hid hout; have HrJ := Lib.hid hrJ
 clear ux uy hR hx hy Rx Ry hrX hrY hends hmany hout hrJ hJ
 go_enter Tryz.func55, Tryz.ntmps55
 go_wp2_with fail
 refine (refRight12_walk _ ca x _ hrx (by omega)).mono ?_
 rw [HrX.out]
 rintro e w1 ⟨rfl, hb1⟩
 have hry1 := hry.below hb1
 go_wp2_with fail
 refine (refRight12_walk _ cb y _ hry1 (by omega)).mono ?_
 rw [HrY.out]
 rintro e w2 ⟨rfl, hb2⟩
 have hB2 := bl_trans hb1 hb2
 have hw2 := hB2.size
 have hm0 : Row (w2.alloc (.cells #[.int .i64 0, .int .i64 0] 62)) w2.heap.size 62 1 2 (manyC (pickN v x y 0)) := by
  have h0 : pickN v x y 0 = (0, 0) := by simp [pickN, pickV]
  rw [h0]
  exact row_lit w2 [.int .i64 0, .int .i64 0] 62 (by unfold maxLen; simp)
 have hbA := bl_alloc w2 (.cells #[.int .i64 0, .int .i64 0] 62)
 have ho0 : OwnL (w2.alloc (.cells #[.int .i64 0, .int .i64 0] 62)) (.slice none 0 0) (pickV v ((x ++ y).take 0)) := own_nil _ _ _
 have ho1 : OwnL (w2.alloc (.cells #[.int .i64 0, .int .i64 0] 62)) (.slice none 0 0) (dropV v ((x ++ y).take 0)) := own_nil _ _ _
 obtain ⟨n, hn⟩ : ∃ n, n = x.length + y.length := ⟨_, rfl⟩
 have hnL : n = (x ++ y).length := by rw [hn, List.length_append]
 have HnL := Lib.hid hnL
 clear hnL
 go_upto_region 7 with (fail)
 have hBA := bl_trans hB2 hbA
 obtain ⟨gm, hgm⟩ : ∃ g, g = w2.heap.size := ⟨_, rfl⟩
 have hgl : gm < (w2.alloc (.cells #[.int .i64 0, .int .i64 0] 62)).heap.size := by rw [hgm]; simp
 rw [← hgm] at hm0 hw2 ⊢
 generalize w2.alloc (.cells #[.int .i64 0, .int .i64 0] 62) = wM at hm0 hBA ho0 ho1 hgl ⊢
 clear hgm hbA hB2 hb2 hry1 hb1
 go_loopg [8, 9, 11] n (fun r ev ov iv wj => ∃ i : Nat, i + r = n ∧ iv = .int .i64 i ∧ OwnL wj ev (pickV v ((x ++ y).take i)) ∧ OwnL wj ov (dropV v ((x ++ y).take i)) ∧ Row wj gm 62 1 2 (manyC (pickN v x y i)) ∧ (∀ g, ev.ownBlock = some g → gm < g ∧ ov.ownBlock ≠ some g) ∧ (∀ g, ov.ownBlock = some g → gm < g) ∧ Below w.heap.size w wj)
 case atStart => exact ⟨0, by omega, rfl, ho0, ho1, hm0, fun g hg => by simp [Value.ownBlock] at hg, fun g hg => by simp [Value.ownBlock] at hg, hBA⟩
 case round =>
  as_aux_lemma =>
   clear hm0 hBA ho0 ho1 hgl; obtain ⟨i, hi, rfl, hoe, hoo, hm, hye, hyo, hB⟩ := hrel; have Hi := Lib.hid hi; by_cases hil : i < n
   ·
    clear hi; have hiL : i < (x ++ y).length := by rw [← HnL.out]; exact hil
    have hps := pickV_succ (v := v) hiL; have hds := dropV_succ (v := v) hiL; have hmn := fun h => many_no (v := v) (x := x) (y := y) hiL h; have hmy := fun h => many_yes (v := v) (x := x) (y := y) hiL h; have e1 : decide ((i : Int) < (x.length : Int) + (y.length : Int)) = true := by simp; omega
    have hbZ := bl_alloc wr (.cells #[.int .i64 0, .int .i64 0, .int .i64 0] 38); have hrX := hrx.below (bl_trans hB hbZ); have hrY := hry.below (bl_trans hB hbZ); obtain ⟨⟨x9, y9, z9⟩, hx9⟩ : ∃ u : Lk, (x ++ y)[i] = u := ⟨_, rfl⟩
    rw [hx9] at hps hds hmn hmy; simp only at hps hds hmn hmy; have hsd : sideN x i < 2 := by unfold sideN; split <;> omega
    obtain ⟨sd, hsdd⟩ : ∃ s, s = sideN x i := ⟨_, rfl⟩
    rw [← hsdd] at hmy hsd; have Hps := Lib.hid hps; have Hds := Lib.hid hds; have Hmn := Lib.hid hmn; have Hmy := Lib.hid hmy; have Hx9 := Lib.hid hx9; have Hsd := Lib.hid hsdd; clear hps hds hmn hmy hx9 hsdd hbZ; have Hoe := Lib.hid hoe; have Hoo := Lib.hid hoo; have Hye := Lib.hid hye; have Hyo := Lib.hid hyo; clear hoe hoo hye hyo; go_upto_if 40 with (fail)
    go_cut [12] (fun sv wx => sv = .int .i64 (sd : Nat) ∧ wx = wr.alloc (.cells #[.int .i64 x9, .int .i64 y9, .int .i64 z9] 38))
    case first =>
     by_cases hix : i < x.length
     ·
      have hxx : x[i] = (x9, y9, z9) := by rw [← Hx9.out, List.getElem_append_left hix]
      obtain ⟨b, o, rfl, c0, c1, c2⟩ := hrX.at i hix; rw [hxx] at c0 c1 c2; simp only at c0 c1 c2; have i1 : (i : Int) < (x.length : Int) := by omega
      have hs0 : sd = 0 := by rw [Hsd.out]; unfold sideN; rw [if_pos hix]
      subst hs0; clear hxx; go_wp2_with fail; go_meet
      exact ⟨rfl, rfl⟩
     ·
      have hlt : i - x.length < y.length := by omega
      have hxx : y[i - x.length] = (x9, y9, z9) := by rw [← Hx9.out, List.getElem_append_right (by omega)]
      obtain ⟨b, o, rfl, c0, c1, c2⟩ := hrY.at (i - x.length) hlt; rw [hxx] at c0 c1 c2; simp only at c0 c1 c2; have hs0 : sd = 1 := by rw [Hsd.out]; unfold sideN; rw [if_neg hix]
      subst hs0; obtain ⟨j, hj⟩ : ∃ j, j = i - x.length := ⟨_, rfl⟩
      have hij : i = x.length + j := by omega
      rw [← hj] at c0 c1 c2 hlt; have i1 : decide ((i : Int) < (x.length : Int)) = false := by simp; omega
      have i1' : decide (i < x.length) = false := by simp; omega
      have i2 : (i : Int) - (x.length : Int) = (j : Int) := by omega
      have i3 : (j : Int) < (y.length : Int) := by omega
      clear hxx hj hij; go_wp2_with fail; go_meet
      exact ⟨rfl, rfl⟩
    case rest =>
     obtain ⟨rfl, rfl⟩ := hcut; have hwz := hB.size; have hgw := hm.lt; have hpl : (pickV v ((x ++ y).take i)).length ≤ 2000 := by
      have h1 := List.length_filter_le (fun k : Lk => k.2.2 == v) ((x ++ y).take i); rw [List.length_take] at h1; unfold pickV; omega
     have hdl : (dropV v ((x ++ y).take i)).length ≤ 2000 := by
      have h1 := List.length_filter_le (fun k : Lk => k.2.2 != v) ((x ++ y).take i); rw [List.length_take] at h1; unfold dropV; omega
     obtain ⟨P, hP⟩ : ∃ P, P = pickV v ((x ++ y).take i) := ⟨_, rfl⟩
     obtain ⟨D, hD⟩ : ∃ D, D = dropV v ((x ++ y).take i) := ⟨_, rfl⟩
     have hoe := Hoe.out; have hoo := Hoo.out; have hps := Hps.out; have hds := Hds.out; rw [← hP] at hoe hps hpl; rw [← hD] at hoo hds hdl; have hA1 := bl_alloc wr (.cells #[.int .i64 x9, .int .i64 y9, .int .i64 z9] 38); have hmA := hm.below hA1 hgw; have hoeA : OwnL (wr.alloc (.cells #[.int .i64 x9, .int .i64 y9, .int .i64 z9] 38)) u8 P := hoe.alloc _; have hooA : OwnL (wr.alloc (.cells #[.int .i64 x9, .int .i64 y9, .int .i64 z9] 38)) u9 D := hoo.alloc _; have hBA := bl_trans hB hA1; have d0 : (wr.alloc (.cells #[.int .i64 x9, .int .i64 y9, .int .i64 z9] 38)).cell? ⟨wr.heap.size, 0, none⟩ = some (.int .i64 x9) := by simp
     have d1 : (wr.alloc (.cells #[.int .i64 x9, .int .i64 y9, .int .i64 z9] 38)).cell? ⟨wr.heap.size, 1, none⟩ = some (.int .i64 y9) := by simp
     have d2 : (wr.alloc (.cells #[.int .i64 x9, .int .i64 y9, .int .i64 z9] 38)).cell? ⟨wr.heap.size, 2, none⟩ = some (.int .i64 z9) := by simp
     have hzA : wr.heap.size < (wr.alloc (.cells #[.int .i64 x9, .int .i64 y9, .int .i64 z9] 38)).heap.size := by simp
     generalize wr.alloc (.cells #[.int .i64 x9, .int .i64 y9, .int .i64 z9] 38) = wA at hA1 hmA hoeA hooA hBA d0 d1 d2 hzA ⊢; clear hoe hoo hm hP hD hA1 hrX hrY hB; have hwA : w.heap.size ≤ wA.heap.size := by omega
     by_cases hz : z9 = v
     ·
      have ez : (z9 == v) = true := by simpa using hz
      rw [if_pos hz] at hps hds; rw [List.append_nil] at hds; obtain ⟨c, m1, m2, m3⟩ := Hmy.out hz; have hB2 := bl_alloc wA (.cells #[.int .i64 x9, .int .i64 y9, .int .i64 z9] 38); have hmB := hmA.below hB2 (by omega); have hoeB : Own (wA.alloc (.cells #[.int .i64 x9, .int .i64 y9, .int .i64 z9] 38)) u8 38 3 P.length (lkCells P) := Own.alloc hoeA _; have hooB : OwnL (wA.alloc (.cells #[.int .i64 x9, .int .i64 y9, .int .i64 z9] 38)) u9 D := hooA.alloc _; have Hps2 := Lib.hid hps; have Hds2 := Lib.hid hds; have Hm1 := Lib.hid m1; have Hm3 := Lib.hid m3; have HoeA := Lib.hid hoeA; clear hps hds m1 m3 hz hoeA hooA hmA; go_upto_region 17 with (at_builtin; refine wpList_append_row _ rfl (.tmp 56) (.tmp 58) 22 rfl 38 (.agg #[.int .i64 0, .int .i64 0, .int .i64 0]) 3 24 Tryz.underlying22 link_info rfl u8 P.length _ rfl hoeB ⟨wA.heap.size, 0, none⟩ 1 1 [.int .i64 x9, .int .i64 y9, .int .i64 z9] rfl rfl (news3 _ _ _ _ _) (one3 _ _ _) (by omega) (by unfold maxLen; omega) (by omega) ?_; intro g5 c5 w5 hr5 hc5 hg5 hor5)
      have hy5 : gm < g5 ∧ u9.ownBlock ≠ some g5 := by
       rcases hor5 with h | h
       · exact Hye.out g5 h
       ·
        refine ⟨by simp at h; omega, fun e => ?_⟩; have := Own.lt hooB e; omega
      have hmC := hmB.grown hg5 (fun e => by have := (Hye.out gm e).1; omega); have hooC : OwnL w5 u9 D := hooB.grown hg5 (fun g hg e => (Hye.out g e).2 hg); have hBC : Below w.heap.size w w5 := (bl_trans hBA hB2).grown hg5 (by simp; omega) (fun j hj => by have := (Hye.out j hj).1; omega); have hoeC : OwnL w5 (.slice (some ⟨g5, 0, none⟩) (P.length + 1) c5) (pickV v ((x ++ y).take (i + 1))) := by
       rw [Hps2.out]; have e2 : lkCells P ++ [Value.int .i64 x9, Value.int .i64 y9, Value.int .i64 z9] = lkCells (P ++ [(x9, y9, z9)]) := by rw [lkCells_append]; rfl
       rw [e2] at hr5; exact ⟨lkCells_length _, .inr ⟨g5, c5, by simp, by simpa using hc5, hr5⟩⟩
      have cS : w5.cell? ⟨gm, sd, none⟩ = some (.int .i64 (c : Nat)) := by rw [hmC.cell? sd (by simp [manyC]; omega), Hm1.out]
      have fS := hmC.frozen sd; have hmD := hmC.set sd (.int .i64 ((c : Int) + 1)); rw [← Hm3.out] at hmD; have hooD : OwnL (w5.setCell ⟨gm, sd, none⟩ (.int .i64 ((c : Int) + 1))) u9 (dropV v ((x ++ y).take (i + 1))) := by
       rw [Hds2.out]; exact Own.below hooC fun g hg => Below.heap_setCell _ _ _ _ (by have := Hyo.out g hg; simp only; omega)
      have hoeD : OwnL (w5.setCell ⟨gm, sd, none⟩ (.int .i64 ((c : Int) + 1))) (.slice (some ⟨g5, 0, none⟩) (P.length + 1) c5) (pickV v ((x ++ y).take (i + 1))) := Own.below hoeC fun g hg => by cases hg; exact Below.heap_setCell _ _ _ _ (by simp only; omega)
      have hBD : Below w.heap.size w (w5.setCell ⟨gm, sd, none⟩ (.int .i64 ((c : Int) + 1))) := hBC.setCell (by simp only; omega) _; have s2 : (sd : Int) < 2 := by omega
      have HmD := Lib.hid hmD; have HooD := Lib.hid hooD; have HoeD := Lib.hid hoeD; have HBD := Lib.hid hBD; have Hy5 := Lib.hid hy5; clear hr5 hg5 hor5 hmD hooD hoeD hBD hmC hooC hBC hoeC hy5 hmB hoeB hooB hB2 hBA d0 d1 d2; go_wp2_with fail; go_roundg (gk - 1)
      case measure => have := Hi.out; omega
      case rel => exact ⟨i + 1, by have := Hi.out; omega, by go_num, HoeD.out, HooD.out, HmD.out, fun g hg => by cases hg; exact Hy5.out, Hyo.out, HBD.out⟩
     ·
      have ez : (z9 == v) = false := by simpa using hz
      rw [if_neg hz] at hps hds; rw [List.append_nil] at hps; have hmn := Hmn.out hz; have hB2 := bl_alloc wA (.cells #[.int .i64 x9, .int .i64 y9, .int .i64 z9] 38); have hmB := hmA.below hB2 (by omega); have hooB : Own (wA.alloc (.cells #[.int .i64 x9, .int .i64 y9, .int .i64 z9] 38)) u9 38 3 D.length (lkCells D) := Own.alloc hooA _; have hoeB : OwnL (wA.alloc (.cells #[.int .i64 x9, .int .i64 y9, .int .i64 z9] 38)) u8 P := hoeA.alloc _; have Hps2 := Lib.hid hps; have Hds2 := Lib.hid hds; have Hmn2 := Lib.hid hmn; clear hps hds hmn hz hoeA hooA hmA; go_wp2_with (at_builtin; refine wpList_append_row _ rfl (.tmp 65) (.tmp 67) 22 rfl 38 (.agg #[.int .i64 0, .int .i64 0, .int .i64 0]) 3 24 Tryz.underlying22 link_info rfl u9 D.length _ rfl hooB ⟨wA.heap.size, 0, none⟩ 1 1 [.int .i64 x9, .int .i64 y9, .int .i64 z9] rfl rfl (news3 _ _ _ _ _) (one3 _ _ _) (by omega) (by unfold maxLen; omega) (by omega) ?_; intro g5 c5 w5 hr5 hc5 hg5 hor5); have hy5 : gm < g5 ∧ u8.ownBlock ≠ some g5 := by
       rcases hor5 with h | h
       · exact ⟨Hyo.out g5 h, fun e => (Hye.out g5 e).2 h⟩
       ·
        refine ⟨by simp at h; omega, fun e => ?_⟩; have := Own.lt hoeB e; omega
      have hmC := hmB.grown hg5 (fun e => by have := Hyo.out gm e; omega); have hoeC : OwnL w5 u8 (pickV v ((x ++ y).take (i + 1))) := by
       rw [Hps2.out]; exact hoeB.grown hg5 (fun g hg e => (Hye.out g hg).2 e)
      have hBC : Below w.heap.size w w5 := (bl_trans hBA hB2).grown hg5 (by simp; omega) (fun j hj => by have := Hyo.out j hj; omega); have hooC : OwnL w5 (.slice (some ⟨g5, 0, none⟩) (D.length + 1) c5) (dropV v ((x ++ y).take (i + 1))) := by
       rw [Hds2.out]; have e2 : lkCells D ++ [Value.int .i64 x9, Value.int .i64 y9, Value.int .i64 z9] = lkCells (D ++ [(x9, y9, z9)]) := by rw [lkCells_append]; rfl
       rw [e2] at hr5; exact ⟨lkCells_length _, .inr ⟨g5, c5, by simp, by simpa using hc5, hr5⟩⟩
      rw [← Hmn2.out] at hmC; have Hy5 := Lib.hid hy5; clear hr5 hg5 hor5 hy5 hmB hoeB hooB hB2 hBA d0 d1 d2; go_wp2_with fail; go_roundg (gk - 1)
      case measure => have := Hi.out; omega
      case rel => exact ⟨i + 1, by have := Hi.out; omega, by go_num, hoeC, hooC, hmC, fun g hg => ⟨(Hye.out g hg).1, fun e => by cases e; exact Hy5.out.2 hg⟩, fun g hg => by cases hg; exact Hy5.out.1, hBC⟩
   ·
    have hin : i = n := by omega
    subst hin; rw [List.take_of_length_le (by rw [← HnL.out]; exact Nat.le_refl _)] at hoe hoo; have hmn := Hmany.out; rw [← HnL.out] at hmn; rw [hmn] at hm; rw [Hends.out] at hoe; obtain ⟨g8, cc8, rfl, hcc8, hr8⟩ : ∃ g8 c8, u8 = .slice (some ⟨g8, 0, none⟩) 2 c8 ∧ 2 ≤ c8 ∧ Row wr g8 38 3 c8 (lkCells [(e1, e2, v), (e1, e2, v)]) := by
     rcases hoe.2 with ⟨_, h0⟩ | ⟨g, cg, h, hc, hr⟩
     · simp at h0
     · exact ⟨g, cg, h, hc, hr⟩
    obtain ⟨D, hD⟩ : ∃ D, D = dropV v (x ++ y) := ⟨_, rfl⟩
    have hDl : D.length ≤ 2000 := by
     have h1 := List.length_filter_le (fun k : Lk => k.2.2 != v) (x ++ y); rw [List.length_append] at h1; rw [hD]; unfold dropV; omega
    have hout := Hout.out; rw [← hD] at hoo hout; obtain ⟨a9, c9, rfl, hr9, -, -, -⟩ := hoo.read; have rd8 : RdL wr (some ⟨g8, 0, none⟩) [(e1, e2, v), (e1, e2, v)] := hr8.at_; obtain ⟨_, _, z1, p0, p1, p2⟩ := rd8.at 0 (by simp); cases z1; obtain ⟨_, _, z1, s0, s1, s2⟩ := rd8.at 1 (by simp); cases z1; simp only [List.getElem_cons_zero, List.getElem_cons_succ, Nat.zero_mul, Nat.add_zero, Nat.one_mul, Nat.zero_add] at p0 p1 p2 s0 s1 s2; have m0 : wr.cell? ⟨gm, 0, none⟩ = some (.int .i64 1) := by rw [hm.cell? 0 (by simp [manyC])]; rfl
    have m1 : wr.cell? ⟨gm, 1, none⟩ = some (.int .i64 1) := by rw [hm.cell? 1 (by simp [manyC])]; rfl
    have hgt : Tryz.prog.eqGuardType Tryz.prog.depth 38 = false := by kernel_rfl
    have hgt2 : Tryz.prog.eqGuardType Tryz.prog.depth 62 = false := by kernel_rfl
    have hpe := fun w => lk_eq (e1, e2, v) (e1, e2, v) w; unfold lkV at hpe; rw [decide_eq_true rfl] at hpe; have hpe2 := pair_eq2 1 1 1 1; have Hout2 := Lib.hid hout; clear hi Hi hoe hoo hr8 rd8 hm hmn hye hyo hD hout; go_wp2_with fail; go_quiet (fail)
    have hB3 := below_drewN hB nq; have hr3 : RdL (wr.drewN nq) a9 D := hr9; clear p0 p1 p2 s0 s1 s2 m0 m1 hpe hpe2; generalize wr.drewN nq = w3 at hB3 hr3 ⊢; go_wp2_with fail; refine (refSorted12_walk a9 c9 D _ hr3 (by omega)).mono ?_; rw [← Hout2.out]; rintro e w4 ⟨v4, rfl, ho4, hg4, hb4⟩; obtain ⟨a5, c5, rfl, hr5, -, -, -⟩ := ho4.read; have hB4 := bl_trans hB3 hb4; have hz3 := hB3.size; have hjl : J.length ≤ 9223372036854775807 := by rw [Hout2.out, sortL_length]; omega
    go_wp2_with fail; refine (refRight12_walk _ c5 J _ hr5 hjl).mono ?_; rw [HrJ.out]; rintro e w5 ⟨rfl, hb5⟩; have hB5 := bl_trans hB4 hb5; have ho5 : OwnL w5 (.slice a5 J.length c5) J := Own.ext ho4 hb5; clear ho4 hb4 hb5 hr5; go_wp2_with fail; go_ret2; exact ⟨_, rfl, ho5, fun g hg => by have := hg4 g hg; omega, hB5⟩
end Go.Proofs.YtagcbnpahgfgmaaGreat
namespace Go.Proofs.YtagcbnpahgfgmaaGreat
open Go
section
variable {P : Program} {md : Region.Mode} {l : List Oper} {Q : Exit → Act → World → Prop} {S : World → Prop} {N : Nat}
theorem twoT {i i' : Nat} {oi oi' : Oper} {fuel : Nat} {listed : Array Bool} {a : Act} {w : World} (hi : l[i]? = some oi) (hi' : l[i']? = some oi') (hr : (Region.ready md l.toArray listed == [i, i']) = true)
  (h : ∀ K : Act → World → Prop, (∀ a w, (i < N → S w) → anyT P md l.toArray Q S N fuel (listed.setIfInBounds i true) a w → K a w) →
   if Region.wanted oi (yielded l.toArray a.tmps) = true then Oper.wp P oi a w K Q else K (a.put oi.dst undef) w)
  (h' : ∀ K : Act → World → Prop, (∀ a w, (i' < N → S w) → anyT P md l.toArray Q S N fuel (listed.setIfInBounds i' true) a w → K a w) →
   if Region.wanted oi' (yielded l.toArray a.tmps) = true then Oper.wp P oi' a w K Q else K (a.put oi'.dst undef) w) : anyT P md l.toArray Q S N (fuel + 1) listed a w := by
 have hr' := beq_iff_eq.1 hr
 refine ⟨fun h0 => absurd (hr' ▸ h0) (by simp), fun j hj => ?_⟩
 rw [hr'] at hj
 rcases List.mem_cons.1 hj with rfl | hj
 · exact wpOp_step (by simpa using hi) fun K hK => h K fun a w hS hW => hK a w ⟨hS, hW⟩
 ·
  obtain rfl : j = i' := by simpa using hj
  exact wpOp_step (by simpa using hi') fun K hK => h' K fun a w hS hW => hK a w ⟨hS, hW⟩
end
end Go.Proofs.YtagcbnpahgfgmaaGreat
namespace Go.Proofs.YtagcbnpahgfgmaaGreat
open Go Go.RowKit
theorem kindR_eq : kindR = kindL := funext kind_same
def kdC (out : List (List Lk)) (i : Nat) : List Pt := (out.take i).map fun p => (kindL p, p)
theorem kdC_succ {out : List (List Lk)} {i : Nat} (h : i < out.length) : kdC out (i + 1) = kdC out i ++ [(kindL out[i], out[i])] := by
 unfold kdC
 rw [List.take_succ_eq_append_getElem h, List.map_append]; rfl
def LeR (x y : PtR) : Prop := cmpLs x.1.2 y.1.2 ≤ 0
theorem putP_sorted {out : List PtR} (hs : out.Pairwise LeR) {x : PtR} {k : Nat} (hk : k ≤ out.length) (h1 : ∀ j (h : j < out.length), k ≤ j → cmpLs x.1.2 out[j].1.2 < 0) (h2 : k = 0 ∨ ∀ h : k - 1 < out.length, 0 ≤ cmpLs x.1.2 out[k-1].1.2) : (out.take k ++ x :: out.drop k).Pairwise LeR := by
 have hp := List.pairwise_iff_getElem.1 hs
 have hlow : ∀ a ∈ out.take k, LeR a x := fun a ha => by
  obtain ⟨i, hi, rfl⟩ := List.getElem_of_mem ha
  rw [List.length_take] at hi
  rw [List.getElem_take]
  rcases h2 with e | h2
  · omega
  ·
   have h3 : LeR out[k-1] x := by
    have h4 := h2 (by omega); have h5 := cmpLs_swap x.1.2 out[k-1].1.2; unfold LeR; omega
   by_cases e : i = k - 1
   · subst e; exact h3
   · exact cmpLs_lt_trans (hp i (k - 1) (by omega) (by omega) (by omega)) h3
 have hhigh : ∀ b ∈ out.drop k, LeR x b := fun b hb => by
  obtain ⟨i, hi, rfl⟩ := List.getElem_of_mem hb
  rw [List.length_drop] at hi
  rw [List.getElem_drop]
  have := h1 (k + i) (by omega) (by omega)
  unfold LeR
  omega
 have hall : (out.take k ++ out.drop k).Pairwise LeR := by rw [List.take_append_drop]; exact hs
 obtain ⟨p1, p2, p3⟩ := List.pairwise_append.1 hall
 rw [List.pairwise_append, List.pairwise_cons]
 refine ⟨p1, ⟨hhigh, p2⟩, fun a ha b hb => ?_⟩
 rcases List.mem_cons.1 hb with rfl | hb
 · exact hlow a ha
 · exact p3 a ha b hb
theorem putP_perm (out : List PtR) (x : PtR) (k : Nat) : (out.take k ++ x :: out.drop k).Perm (out ++ [x]) := by
 refine List.perm_middle.trans ?_
 rw [List.take_append_drop]
 exact (List.perm_append_singleton x out).symm
theorem ptC_set2 (ps : List PtR) (i : Nat) (h : i < ps.length) (p : PtR) : ((ptC ps).set (i * 2) (.int .i64 p.1.1)).set (i * 2 + 1) (ptV p) = ptC (ps.set i p) := by
 induction ps generalizing i with
 | nil => simp at h
 | cons q ps ih =>
  cases i with
  | zero => simp [ptC_cons]
  | succ i =>
   have := ih i (by simpa using h); rw [List.set_cons_succ, ptC_cons, ptC_cons, show (i + 1) * 2 = i * 2 + 1 + 1 by omega]; simp only [List.set_cons_succ]; rw [this]
theorem Row.ptAt {w : World} {g cap : Nat} {e : TypeId} {ps : List PtR} (h : Row w g e 2 cap (ptC ps)) (i : Nat) (hi : i < ps.length) :
  w.cell? ⟨g, i * 2, none⟩ = some (.int .i64 ps[i].1.1) ∧ w.cell? ⟨g, i * 2 + 1, none⟩ = some (ptV ps[i]) := by
 obtain ⟨b1, b2⟩ := ptC_get ps i hi
 exact ⟨by rw [h.cell? _ (by rw [ptC_len]; omega), b1], by rw [h.cell? _ (by rw [ptC_len]; omega), b2]⟩
theorem ownP_read {w : World} {v : Value} {ts : List PtR} (h : Own w v 49 2 ts.length (ptC ts)) : ∃ a c, v = .slice a ts.length c ∧ CellsAt w a (ptC ts) := by
 rcases h.2 with ⟨rfl, h0⟩ | ⟨g, cap, rfl, hc, hr⟩
 ·
  have e := List.eq_nil_of_length_eq_zero h0
  subst e
  exact ⟨none, 0, rfl, fun i u hu => by simp [ptC] at hu⟩
 · exact ⟨_, _, rfl, hr.at_⟩
def leftL (ps : List PtR) (i0 j0 : Nat) (z : PtR) (t : Nat) : List PtR := if j0 < t then ((ps.set i0 z).take t).eraseIdx j0 else (ps.set i0 z).take t
theorem leftL_zero (ps : List PtR) (i0 j0 : Nat) (z : PtR) : leftL ps i0 j0 z 0 = [] := by unfold leftL; rw [if_neg (by omega), List.take_zero]
theorem leftL_skip {ps : List PtR} {i0 j0 : Nat} {z : PtR} (h : j0 < ps.length) : leftL ps i0 j0 z (j0 + 1) = leftL ps i0 j0 z j0 := by
 unfold leftL
 rw [if_pos (by omega), if_neg (by omega), List.take_succ_eq_append_getElem (by rw [List.length_set]; exact h)]
 rw [List.eraseIdx_append_of_length_le (by rw [List.length_take]; omega)]
 simp [List.length_take, Nat.min_eq_left (Nat.le_of_lt h)]
theorem leftL_next {ps : List PtR} {i0 j0 t : Nat} {z : PtR} (h : t < ps.length) (hne : t ≠ j0) : leftL ps i0 j0 z (t + 1) = leftL ps i0 j0 z t ++ [(ps.set i0 z)[t]'(by rw [List.length_set]; exact h)] := by
 unfold leftL
 rw [List.take_succ_eq_append_getElem (by rw [List.length_set]; exact h)]
 by_cases hj : j0 < t
 · rw [if_pos (by omega), if_pos hj, List.eraseIdx_append_of_lt_length (by rw [List.length_take, List.length_set]; omega)]
 · rw [if_neg (by omega), if_neg hj]
theorem leftL_end {ps : List PtR} {i0 j0 : Nat} {z : PtR} (h : j0 < ps.length) : leftL ps i0 j0 z ps.length = (ps.set i0 z).eraseIdx j0 := by
 unfold leftL
 rw [if_pos h, List.take_of_length_le (by rw [List.length_set]; exact Nat.le_refl _)]
theorem leftL_len (ps : List PtR) (i0 j0 : Nat) (z : PtR) (t : Nat) : (leftL ps i0 j0 z t).length ≤ ps.length := by
 unfold leftL
 split
 · rw [List.length_eraseIdx, List.length_take, List.length_set]; split <;> omega
 · rw [List.length_take, List.length_set]; omega
theorem PtsI.push {w0 wj w6 : World} {vo : Value} {ps : List PtR} {p : PtR} {o : Obj} {g6 c6 : Nat} (h : PtsI w0 wj vo ps) (hp : RowP wj p) (hl : ∀ ad, p.2.1 = some ad → ad.block < w0.heap.size)
  (hr6 : Row w6 g6 49 2 c6 (ptC ps ++ [.int .i64 p.1.1, ptV p])) (hc6 : ps.length + 1 ≤ c6) (hg6 : (wj.alloc o).grownBy w6 vo.ownBlock) (hor6 : vo.ownBlock = some g6 ∨ (wj.alloc o).heap.size ≤ g6) :
  PtsI w0 w6 (.slice (some ⟨g6, 0, none⟩) (ps.length + 1) c6) (ps ++ [p]) := by
 obtain ⟨h1, h2, h3, h4⟩ := h
 have hz := h4.size
 have hb56 : Below w0.heap.size w0 w6 := (bl_trans h4 (bl_alloc wj o)).grown hg6 (by simp; omega) h3
 have hg56 : wj.grownBy w6 vo.ownBlock := ⟨hg6.os, hg6.tape, hg6.output, by have := hg6.size; simp at this; omega, fun k hk hne => (hg6.block k (by simp; omega) hne).trans (Below.heap_alloc wj _ k hk)⟩
 have hlo6 : w0.heap.size ≤ g6 := by
  rcases hor6 with h | h
  · exact h3 g6 h
  · simp at h; omega
 refine ⟨⟨by rw [ptC_len], .inr ⟨g6, c6, by simp, by simpa using hc6, ?_⟩⟩, fun q hq => ?_, fun g hg => by cases hg; exact hlo6, hb56⟩
 · rw [ptC_append]; exact hr6
 ·
  rcases List.mem_append.1 hq with hq | hq
  · exact ⟨(h2 q hq).1.grown hg56 (fun ad ha e => by have h5 := (h2 q hq).2 ad ha; have h6 := h3 _ e; omega), (h2 q hq).2⟩
  ·
   simp at hq; subst hq; exact ⟨hp.grown hg56 (fun ad ha e => by have h5 := hl ad ha; have h6 := h3 _ e; omega), hl⟩
theorem PtI.lower {w : World} {B B' g cap : Nat} {ps : List PtR} (h : PtI w B g cap ps) (hB : B' ≤ B) : PtI w B' g cap ps := ⟨h.row, h.len, Nat.le_trans hB h.lo, h.each⟩
set_option maxRecDepth 100000 in
set_option maxHeartbeats 8000000 in
theorem tree15_walk (a : Option Addr) (cap : Nat) (ls : List Lk) (w : World) (hr : RdL w a ls) (hcap : ls.length ≤ 9223372036854775807) (hcm : cap ≤ maxLen) :
  Calls Tryz.prog 20 #[.slice a ls.length cap] w (RetTe w ls) := by
 cases h2 : twoL ls with
 | false =>
  have hw : wantT ls = false := by unfold wantT; rw [h2]; rfl
  have H2 := Lib.hid h2; have Hw := Lib.hid hw
  clear h2 hw
  go_enter Tryz.func20, Tryz.ntmps20
  go_wp2_with fail
  refine (refTwo12_walk a cap ls _ hr hcap).mono ?_
  rw [H2.out]
  rintro e w1 ⟨rfl, hb1⟩
  go_wp2_with fail
  go_ret2
  exact ⟨hb1, .inr ⟨Hw.out, rfl⟩⟩
 | true =>
  have hRl := two_right h2
  have hn := hRl.1
  have hvl : (vertsL ls).length ≤ 2000 := by have := vertsL_length ls; omega
  obtain ⟨vs, hvs⟩ : ∃ vs, vs = vertsL ls := ⟨_, rfl⟩
  rw [← hvs] at hvl
  by_cases h3 : vs.length < 3
  ·
   have hw : wantT ls = false := by
    unfold wantT; rw [h2, ← hvs, decide_eq_false (by omega)]; simp
   have e3 : decide ((vs.length : Int) < 3) = true := by simp; omega
   have H2 := Lib.hid h2; have Hw := Lib.hid hw; have Hvs := Lib.hid hvs; clear h2 hw h3 hvs hRl; go_enter Tryz.func20, Tryz.ntmps20; go_wp2_with fail; refine (refTwo12_walk a cap ls _ hr hcap).mono ?_; rw [H2.out]; rintro e w1 ⟨rfl, hb1⟩; have hr1 := hr.below hb1; go_wp2_with fail; refine (refVerts12_walk a cap ls _ hr1 (by omega)).mono ?_; rw [← Hvs.out]; rintro e w3 ⟨av, cv, rfl, _, _, _, _, hb3⟩; have hB3 := bl_trans hb1 hb3; go_wp2_with fail; go_ret2; exact ⟨hB3, .inr ⟨Hw.out, rfl⟩⟩
  ·
   have e3 : decide ((vs.length : Int) < 3) = false := by simp; omega
   have hl3 : 3 ≤ ls.length := three_links h2 (by rw [← hvs]; omega); have hno : ∀ k ∈ ls, k.2.2 ≠ 0 → wantT ls = false := fun k hk hv => by
    unfold wantT; have : ls.any (fun k => k.2.2 != 0) = true := List.any_eq_true.2 ⟨k, hk, by simpa using hv⟩; rw [this]; simp
   have hyes : (∀ k ∈ ls, k.2.2 = 0) → wantT ls = true := fun h => by
    unfold wantT; have : ls.any (fun k => k.2.2 != 0) = false := List.any_eq_false.2 fun k hk => by simp [h k hk]
    rw [this, h2, ← hvs, decide_eq_true (by omega)]; rfl
   have hspl := fun (w : World) (hr : RdL w a ls) (hv : ∀ k ∈ ls, k.2.2 = 0) => splitR_walk a cap ls 1 w hr h2 (by omega) (by omega) (fun k hk => by rw [hv k hk]; omega) hcm; have H2 := Lib.hid h2; have Hvs := Lib.hid hvs; have Hno := Lib.hid hno; have Hyes := Lib.hid hyes; have Hspl := Lib.hid hspl; have HRl := Lib.hid hRl; clear h2 hvs hno hyes hspl hRl h3; go_enter Tryz.func20, Tryz.ntmps20; go_wp2_with fail; refine (refTwo12_walk a cap ls _ hr hcap).mono ?_; rw [H2.out]; rintro e w1 ⟨rfl, hb1⟩; have hr1 := hr.below hb1; go_wp2_with fail; refine (refVerts12_walk a cap ls _ hr1 (by omega)).mono ?_; rw [← Hvs.out]; rintro e w3 ⟨av, cv, rfl, _, _, _, _, hb3⟩; have hB3 := bl_trans hb1 hb3; have hr3 := hr1.below hb3; clear hb1 hb3 hr1; have hz0 : ∀ j (h : j < ls.length), j < 0 → ls[j].2.2 = 0 := fun j _ h => by omega
   go_wp2_with fail; go_loopg [4] ls.length (fun r iv wj => ∃ i : Nat, i + r = ls.length ∧ iv = .int .i64 i ∧ (∀ j (h : j < ls.length), j < i → ls[j].2.2 = 0) ∧ w3 = wj)
   case atStart => exact ⟨0, by omega, rfl, hz0, rfl⟩
   case round =>
    as_aux_lemma =>
     clear hz0; obtain ⟨i, hi, rfl, hz, rfl⟩ := hrel; have Hi := Lib.hid hi; have Hz := Lib.hid hz; clear hz; by_cases hil : i < ls.length
     ·
      clear hi; obtain ⟨b, o, rfl, c0, c1, c2⟩ := hr3.at i hil; have hmem := List.getElem_mem hil; obtain ⟨⟨x, y, z⟩, hx⟩ : ∃ u : Lk, ls[i] = u := ⟨_, rfl⟩
      rw [hx] at c0 c1 c2 hmem; simp only at c0 c1 c2; have i1 : (i : Int) < (ls.length : Int) := by omega
      by_cases hz0 : z = 0
      ·
       have ez : (z != 0) = false := by simpa using hz0
       have hz2 : ∀ j (h : j < ls.length), j < i + 1 → ls[j].2.2 = 0 := fun j h hj => by
        by_cases e : j = i
        · subst e; rw [hx]; exact hz0
        · exact Hz.out j h (by omega)
       have Hz2 := Lib.hid hz2; clear hz2 hz0 hx hmem; go_wp2_with fail; go_roundg (gk - 1)
       case measure => have := Hi.out; omega
       case rel => exact ⟨i + 1, by have := Hi.out; omega, by go_num, Hz2.out, rfl⟩
      ·
       have ez : (z != 0) = true := by simpa using hz0
       have hw := Hno.out _ hmem hz0; have Hw := Lib.hid hw; clear hw hz0 hx hmem; go_wp2_with fail; go_ret2; exact ⟨hB3, .inr ⟨Hw.out, rfl⟩⟩
     ·
      have hin : i = ls.length := by omega
      subst hin; have hv0 : ∀ k ∈ ls, k.2.2 = 0 := fun k hk => by
       obtain ⟨j, hj, rfl⟩ := List.getElem_of_mem hk; exact Hz.out j hj hj
      have hw := Hyes.out hv0; have hok := fun (out : List (List Lk)) (n : Int) (h : SplitTo ls 1 out n) => h.ok HRl.out hv0 hl3; have hspl := fun (w : World) (hr : RdL w a ls) => Hspl.out w hr hv0; have Hw := Lib.hid hw; have Hok := Lib.hid hok; have Hspl2 := Lib.hid hspl; clear hi Hi hv0 hw hok hspl Hspl Hno Hyes Hz; go_wp2_with fail; refine (Hspl2.out _ hr3).mono ?_; rintro e w4 ⟨a4, c4, out, n, rfl, hro, hso, hol, hoe, hb4⟩; have hB4 := bl_trans hB3 hb4; have hpo := Hok.out out n hso; have hn1 : 1 ≤ n ∧ n ≤ 1001 := by
       obtain ⟨D, _, _, h5⟩ := hpo.tree; have := hpo.hi; omega
      obtain ⟨N, rfl⟩ : ∃ N : Nat, n = N := ⟨n.toNat, by omega⟩
      have Hso := Lib.hid hso; have Hpo := Lib.hid hpo; clear hb4 hr3 hB3 hso hpo hr Hspl2 Hok; have hI0 : PtsI w4 w4 (.slice none 0 0) [] := ⟨own_nil _ _ _, fun p hp => by simp at hp, fun g hg => by simp [Value.ownBlock] at hg, bl_refl w4⟩
      go_wp2_with fail; go_loopg [8, 9] out.length (fun r vo iv wj => ∃ (i : Nat) (ps : List PtR), i + r = out.length ∧ iv = .int .i64 i ∧ ps.length = i ∧ ptQ ps = kdC out i ∧ PtsI w4 wj vo ps)
      case atStart => exact ⟨0, [], by omega, rfl, rfl, by simp [ptQ, kdC], hI0⟩
      case round =>
       as_aux_lemma =>
        clear hI0; obtain ⟨i, ps, hi, rfl, hpl, hpq, hI⟩ := hrel; have Hi := Lib.hid hi; have Hpq := Lib.hid hpq; have Hpl := Lib.hid hpl; have HI := Lib.hid hI; by_cases hil : i < out.length
        ·
         have htk := kdC_succ hil; obtain ⟨r, hrr⟩ : ∃ r, r = out[i] := ⟨_, rfl⟩
         have hoi : out[i]? = some r := by rw [hrr]; exact List.getElem?_eq_getElem hil
         have hrm : r ∈ out := by rw [hrr]; exact List.getElem_mem hil
         rw [← hrr] at htk; obtain ⟨bo, oo, au, cu, rfl, c0, rl0, cu1, cu2⟩ := hro i r hoi; have c1 := keep_cell hI.2.2.2 c0; have rl1 := rl0.below hI.2.2.2; have hr3 := Hpo.out.three r hrm; have hre := hoe r hrm; have haul : ∀ ad, au = some ad → ad.block < w4.heap.size := fun ad ha => by
          obtain ⟨b, o, h1, h2, -⟩ := rl0.at 0 (by omega); rw [ha] at h1; cases h1; exact cell_lt h2
         obtain ⟨kd, hkd⟩ : ∃ kd, kd = kindR r := ⟨_, rfl⟩
         rw [← kindR_eq, ← hkd] at htk; have hkw := fun (w : World) (hr : RdL w au r) => kind15_walk au cu r w hr (by omega); rw [← hkd] at hkw; have Htk := Lib.hid htk; have Hkw := Lib.hid hkw; have i1 : (i : Int) < (out.length : Int) := by omega
         have Haul := Lib.hid haul; have Hrl0 := Lib.hid rl0; have Hrl1 := Lib.hid rl1; have hps : ps.length ≤ 1001 := by rw [hpl]; omega
         clear hi hpq hpl hI hrr hoi hrm c0 rl0 rl1 haul htk hkd hkw; go_wp2_with fail; refine regionT (fun w' => w'.cell? ⟨bo, oo + i, none⟩ = some (.slice au r.length cu)) 12 (by kernel_rfl) ?_; have hS : wr.drew.cell? ⟨bo, oo + i, none⟩ = some (.slice au r.length cu) := c1; refine tkT 0 ?_ rfl hS ?_ ?_ (by kernel_rfl) (fun _ _ _ h => h) (by rfl); rotate_left; (· intro wS hSw; (try dsimp only at hSw); go_simp; try with_reducible rfl); simp only [Act.put, zA, z0, z1]; refine tkT 1 ?_ rfl hS ?_ ?_ (by kernel_rfl) (fun _ _ _ h => h) (by rfl); rotate_left; (· intro wS hSw; (try dsimp only at hSw); go_simp; try with_reducible rfl); simp only [Act.put, zA, z0, z1]; refine tkT 2 ?_ rfl hS ?_ ?_ (by kernel_rfl) (fun _ _ _ h => h) (by rfl); rotate_left; (· intro wS hSw; (try dsimp only at hSw); go_simp; try with_reducible rfl); simp only [Act.put, zA, z0, z1]; refine tkT 3 ?_ rfl hS ?_ ?_ (by kernel_rfl) (fun _ _ _ h => h) (by rfl); rotate_left; (· intro wS hSw; (try dsimp only at hSw); go_simp; try with_reducible rfl); simp only [Act.put, zA, z0, z1]; refine tkT 4 ?_ rfl hS ?_ ?_ (by kernel_rfl) (fun _ _ _ h => h) (by rfl); rotate_left; (· intro wS hSw; (try dsimp only at hSw); go_simp; try with_reducible rfl); simp only [Act.put, zA, z0, z1]; refine tkT 6 ?_ rfl hS ?_ ?_ (by kernel_rfl) (fun _ _ _ h => h) (by rfl); rotate_left; (· intro wS hSw; (try dsimp only at hSw); go_simp; try with_reducible rfl); simp only [Act.put, zA, z0, z1]; refine tkT 7 ?_ rfl hS ?_ ?_ (by kernel_rfl) (fun _ _ _ h => h) (by rfl); rotate_left; (· intro wS hSw; (try dsimp only at hSw); go_simp; try with_reducible rfl); simp only [Act.put, zA, z0, z1]
         refine tkT 8 ?_ rfl hS ?_ ?_ (by kernel_rfl) (fun _ _ _ h => h) (by rfl); rotate_left; (· intro wS hSw; (try dsimp only at hSw); go_simp; try with_reducible rfl); simp only [Act.put, zA, z0, z1]; refine tkT 9 ?_ rfl hS ?_ ?_ (by kernel_rfl) (fun _ _ _ h => h) (by rfl); rotate_left; (· intro wS hSw; (try dsimp only at hSw); go_simp; try with_reducible rfl); simp only [Act.put, zA, z0, z1]; refine oneT (i := 5) rfl (by kernel_rfl) (fun K hK => ?_); go_simp; refine (Hkw.out wr.drew Hrl1.out).mono ?_; rintro e w5 ⟨rfl, hb5⟩; replace hb5 : Below wr.heap.size wr w5 := bl_trans (Below.refl wr.heap.size wr).drew hb5; have hS1 : w5.cell? ⟨bo, oo + i, none⟩ = some (.slice au r.length cu) := keep_cell hb5 c1; simp only; refine hK _ _ (fun _ => hS1) ?_; clear hK K hS; have hS := hS1; refine tkT 10 ?_ rfl hS ?_ ?_ (by kernel_rfl) (fun _ _ _ h => h) (by rfl); rotate_left; (· intro wS hSw; (try dsimp only at hSw); go_simp; try with_reducible rfl); simp only [Act.put, zA, z0, z1]; refine oneT (i := 11) rfl (by kernel_rfl) (fun K hK => ?_); go_simp; have hbX := bl_alloc w5 (.cells #[.int .i64 kd, .slice au r.length cu] 49); have hS2 := keep_cell hbX hS1; refine hK _ _ (fun _ => hS2) ?_; clear hK K hS; have hown5 : Own w5 u8 49 2 ps.length (ptC ps) := HI.out.1.below fun g hg => hb5.block g (Own.lt HI.out.1 hg); have hB5 : Below w4.heap.size w4 w5 := bl_trans HI.out.2.2.2 hb5; have hold : ∀ p ∈ ps, RowP w5 p ∧ ∀ ad, p.2.1 = some ad → ad.block < w4.heap.size := fun p hp => ⟨(HI.out.2.1 p hp).1.below hb5, (HI.out.2.1 p hp).2⟩
         have hlo := HI.out.2.2.1; have hA5 := hown5.alloc (.cells #[.int .i64 kd, .slice au r.length cu] 49); refine oneT (i := 12) rfl (by kernel_rfl) (fun K hK => ?_); refine step_append_row rfl (.tmp 56) (.tmp 67) 24 rfl 49 (.agg #[.int .i64 0, .slice none 0 0]) 2 32 Tryz.underlying24 info_part (by decide +kernel) u8 ps.length _ rfl hA5 ⟨w5.heap.size, 0, none⟩ 1 1 [.int .i64 kd, .slice au r.length cu] rfl rfl (news2 w5 _ _ _) (by intro u hu; simp at hu; rcases hu with rfl | rfl <;> rfl) (by omega) (by unfold maxLen; omega) (by omega) ?_; intro g6 c6 w6 hr6 hc6 hg6 hor6; refine hK _ _ (fun h => absurd h (by omega)) ?_; clear hK K; refine restartT (fun _ => True) 14 (by kernel_rfl) ?_; have hS : True := trivial; refine tkT 13 ?_ rfl hS ?_ ?_ (by kernel_rfl) (fun _ _ _ h => h) (by rfl); rotate_left; (· intro wS hSw; (try dsimp only at hSw); go_simp; try with_reducible rfl); simp only [Act.put, zA, z0, z1]; refine doneT (by kernel_rfl) ?_ _; clear hS hS1 hS2 c1 hbX; have hb56 : Below w4.heap.size w4 w6 := (bl_trans hB5 (bl_alloc w5 _)).grown hg6 (by have := hB5.size; simp; omega) hlo; have hg56 : w5.grownBy w6 u8.ownBlock := ⟨hg6.os, hg6.tape, hg6.output, by have := hg6.size; simp at this; omega, fun k hk hne => (hg6.block k (by simp; omega) hne).trans (Below.heap_alloc w5 _ k hk)⟩
         have hlo6 : w4.heap.size ≤ g6 := by
          rcases hor6 with h | h
          · exact hlo g6 h
          · have := hB5.size; simp at h; omega
         have hI6 : PtsI w4 w6 (.slice (some ⟨g6, 0, none⟩) (ps.length + 1) c6) (ps ++ [((kd, r), au, cu)]) := by
          refine ⟨⟨by rw [ptC_len], .inr ⟨g6, c6, by simp, by simpa using hc6, ?_⟩⟩, fun p hp => ?_, fun g hg => by cases hg; exact hlo6, hb56⟩
          · rw [ptC_append]; exact hr6
          ·
           rcases List.mem_append.1 hp with hp | hp
           · exact ⟨(hold p hp).1.grown hg56 (fun ad ha e => by have h1 := (hold p hp).2 ad ha; have h2 := hlo _ e; omega), (hold p hp).2⟩
           ·
            simp at hp; subst hp; exact ⟨⟨Hrl0.out.below hb56, cu1, cu2, fun ad ha => by have := Haul.out ad ha; have := hb56.size; omega⟩, Haul.out⟩
         have HI6 := Lib.hid hI6; clear hI6 hr6 hc6 hg6 hor6 hb56 hg56 hlo6 hA5 hown5 hB5 hold hlo hb5; go_wp2_with fail; go_roundg (gk - 1)
         case measure => have := Hi.out; omega
         case rel => exact ⟨i + 1, ps ++ [((kd, r), au, cu)], by have := Hi.out; omega, by go_num, by rw [List.length_append, Hpl.out]; rfl, by rw [Htk.out, ← Hpq.out]; simp [ptQ], HI6.out⟩
        ·
         have hin : i = out.length := by omega
         have hqi := Hpo.out.qi (by exact HRl.out.1) kindL; have hrf := RfI.start Hpo.out HRl.out.1 kindL; have hkq : kdC out out.length = out.map fun p => (kindL p, p) := by unfold kdC; rw [List.take_length]
         rw [hin, hkq] at hpq; rw [← hpq] at hqi hrf; have hne : ps ≠ [] := fun e => qi_ne hqi (by rw [e]; rfl); obtain ⟨g, cp, rfl, hP⟩ := hI.pt hne; have hB := hI.2.2.2; have hP0 := PtI.lower hP (show w.heap.size ≤ w4.heap.size by exact hB4.size); have hBw := bl_trans hB4 hB; have hto : MTo (out.map fun p => (kindL p, p)) (ptQ ps) := by rw [← hpq]; exact .done (.refl _)
         have Hrf := Lib.hid hrf; have HP := Lib.hid hP0; have HB := Lib.hid hBw; have Hto := Lib.hid hto; clear hqi hrf hne hP hP0 hB hBw hto HI hI hpq Hpq hpl Hpl hi Hi hkq hin; go_upto_region 15 with (fail)
         go_loopg [8, 10] (N - 1) (fun r vo zv wj => ∃ (v g cp : Nat) (ps : List PtR), v + r = N ∧ 1 ≤ v ∧ zv = .int .i64 v ∧ vo = .slice (some ⟨g, 0, none⟩) ps.length cp ∧ PtI wj w.heap.size g cp ps ∧ RfI ls N v (ptQ ps) ∧ MTo (out.map fun p => (kindL p, p)) (ptQ ps) ∧ Below w.heap.size w wj)
         case atStart => exact ⟨1, g, cp, ps, by omega, by omega, rfl, rfl, HP.out, Hrf.out, Hto.out, HB.out⟩
         case round =>
          as_aux_lemma =>
           clear HP Hrf Hto HB; obtain ⟨v, g, cp, ps, hv, hv1, rfl, rfl, hP, hrf, hto, hB⟩ := hrel; have Hv := Lib.hid hv; have Hrf := Lib.hid hrf; have Hto := Lib.hid hto; have hpl : ps.length ≤ 1000 := by have := hrf.qi.len; rw [ptQ_len] at this; omega
           by_cases hvn : v < N
           ·
            have hhas := hrf.has v (by omega) (by omega); obtain ⟨i, j, e, hij, hi, hj, hat, hei, hej, hev⟩ := two_places hrf.qi (by omega) hhas; have hends := fun (w9 : World) (hw : PtI w9 w.heap.size g cp ps) => ends15_walk (some ⟨g, 0, none⟩) cp (ptQ ps) v w9 hw.rdq (by rw [ptQ_len]; exact hpl) (fun q hq => (hrf.qi.right q hq).1); rw [hat] at hends; simp only [ptQ_len] at hends; rw [ptQ_len] at hi hj; have Hei := Lib.hid hei; have Hej := Lib.hid hej; have Hev := Lib.hid hev; have Hends := Lib.hid hends; clear hv hrf hto hhas hat hei hej hev hends; go_wp2_with fail; refine (Hends.out _ hP).mono ?_; rintro e9 w1 ⟨a1, c1, a2, c2, rfl, hc1, -, hb1⟩; have hP1 := hP.below hb1; have hB1 := bl_trans hB hb1; obtain ⟨ba, oa, rfl, t0⟩ := hc1 0 (vN i) rfl; obtain ⟨_, _, hz, t1⟩ := hc1 1 (vN j) rfl; cases hz; replace t0 : w1.cell? ⟨ba, oa, none⟩ = some (.int .i64 (i : Nat)) := t0; replace t1 : w1.cell? ⟨ba, oa + 1, none⟩ = some (.int .i64 (j : Nat)) := t1; obtain ⟨g1x, g2x⟩ := ptC_get ps i hi; obtain ⟨g1y, g2y⟩ := ptC_get ps j hj; have d0 : w1.cell? ⟨g, i * 2, none⟩ = some (.int .i64 ps[i].1.1) := by rw [hP1.row.cell? _ (by rw [ptC_len]; omega)]; exact g1x
            have d1 : w1.cell? ⟨g, i * 2 + 1, none⟩ = some (ptV ps[i]) := by rw [hP1.row.cell? _ (by rw [ptC_len]; omega)]; exact g2x
            have k0 : w1.cell? ⟨g, j * 2, none⟩ = some (.int .i64 ps[j].1.1) := by rw [hP1.row.cell? _ (by rw [ptC_len]; omega)]; exact g1y
            have k1 : w1.cell? ⟨g, j * 2 + 1, none⟩ = some (ptV ps[j]) := by rw [hP1.row.cell? _ (by rw [ptC_len]; omega)]; exact g2y
            obtain ⟨ki, hki⟩ : ∃ k, k = ps[i].1.1 := ⟨_, rfl⟩
            obtain ⟨kj, hkj⟩ : ∃ k, k = ps[j].1.1 := ⟨_, rfl⟩
            unfold ptV at d1 k1; obtain ⟨x, hx⟩ : ∃ x, x = ps[i].1.2 := ⟨_, rfl⟩
            obtain ⟨y, hy⟩ : ∃ y, y = ps[j].1.2 := ⟨_, rfl⟩
            obtain ⟨ax, hax⟩ : ∃ a, a = ps[i].2.1 := ⟨_, rfl⟩
            obtain ⟨ay, hay⟩ : ∃ a, a = ps[j].2.1 := ⟨_, rfl⟩
            obtain ⟨cx, hcx⟩ : ∃ c, c = ps[i].2.2 := ⟨_, rfl⟩
            obtain ⟨cy, hcy⟩ : ∃ c, c = ps[j].2.2 := ⟨_, rfl⟩
            rw [← hki] at d0; rw [← hx, ← hax, ← hcx] at d1; rw [← hkj] at k0; rw [← hy, ← hay, ← hcy] at k1; have i1 : (i : Int) < (ps.length : Int) := by omega
            have i2 : (j : Int) < (ps.length : Int) := by omega
            have Hki := Lib.hid hki; have Hkj := Lib.hid hkj; have Hx := Lib.hid hx; have Hy := Lib.hid hy; have Hax := Lib.hid hax; have Hay := Lib.hid hay; have Hcx := Lib.hid hcx; have Hcy := Lib.hid hcy; clear hc1 hP hB Hends hki hkj hx hy hax hay hcx hcy g1x g2x g1y g2y; go_upto_region 18 with (fail)
            go_cut [13, 14] (fun pa pb wx => ∃ ga gb, pa = .pointer (some ⟨ga, 0, none⟩) ∧ pb = .pointer (some ⟨gb, 0, none⟩) ∧ wx.cell? ⟨ga, 0, none⟩ = some (.int .i64 ki) ∧ wx.cell? ⟨ga, 1, none⟩ = some (.slice ax x.length cx) ∧ wx.cell? ⟨gb, 0, none⟩ = some (.int .i64 kj) ∧ wx.cell? ⟨gb, 1, none⟩ = some (.slice ay y.length cy) ∧ Below w1.heap.size w1 wx)
            case first =>
             refine regionT (fun w' => (w'.cell? ⟨ba, oa, none⟩ = some (.int .i64 (i : Nat)) ∧ w'.cell? ⟨ba, oa + 1, none⟩ = some (.int .i64 (j : Nat))) ∧ (w'.cell? ⟨g, i * 2, none⟩ = some (.int .i64 ki) ∧ w'.cell? ⟨g, i * 2 + 1, none⟩ = some (.slice ax x.length cx)) ∧ w'.cell? ⟨g, j * 2, none⟩ = some (.int .i64 kj) ∧ w'.cell? ⟨g, j * 2 + 1, none⟩ = some (.slice ay y.length cy)) 16 (by kernel_rfl) ?_; have hS0 : ∀ w', Below w1.heap.size w1 w' → ((w'.cell? ⟨ba, oa, none⟩ = some (.int .i64 (i : Nat)) ∧ w'.cell? ⟨ba, oa + 1, none⟩ = some (.int .i64 (j : Nat))) ∧ (w'.cell? ⟨g, i * 2, none⟩ = some (.int .i64 ki) ∧ w'.cell? ⟨g, i * 2 + 1, none⟩ = some (.slice ax x.length cx)) ∧ w'.cell? ⟨g, j * 2, none⟩ = some (.int .i64 kj) ∧ w'.cell? ⟨g, j * 2 + 1, none⟩ = some (.slice ay y.length cy)) := fun w' hb => ⟨⟨keep_cell hb t0, keep_cell hb t1⟩, ⟨keep_cell hb d0, keep_cell hb d1⟩, keep_cell hb k0, keep_cell hb k1⟩
             have HS0 := Lib.hid hS0; have hb0 : Below w1.heap.size w1 w1.drew := (Below.refl w1.heap.size w1).drew; have hS := hS0 _ hb0; clear hS0; refine tkT 0 ?_ rfl hS ?_ ?_ (by kernel_rfl) (fun _ _ _ h => h) (by rfl); rotate_left; (· intro wS hSw; (try dsimp only at hSw); go_simp; try with_reducible rfl); simp only [Act.put, zA, z0, z1]; refine tkT 1 ?_ rfl hS ?_ ?_ (by kernel_rfl) (fun _ _ _ h => h) (by rfl); rotate_left; (· intro wS hSw; (try dsimp only at hSw); go_simp; try with_reducible rfl); simp only [Act.put, zA, z0, z1]; refine tkT 2 ?_ rfl hS ?_ ?_ (by kernel_rfl) (fun _ _ _ h => h) (by rfl); rotate_left; (· intro wS hSw; (try dsimp only at hSw); go_simp; try with_reducible rfl); simp only [Act.put, zA, z0, z1]; refine tkT 3 ?_ rfl hS ?_ ?_ (by kernel_rfl) (fun _ _ _ h => h) (by rfl); rotate_left; (· intro wS hSw; (try dsimp only at hSw); go_simp; try with_reducible rfl); simp only [Act.put, zA, z0, z1]; refine tkT 4 ?_ rfl hS ?_ ?_ (by kernel_rfl) (fun _ _ _ h => h) (by rfl); rotate_left; (· intro wS hSw; (try dsimp only at hSw); go_simp; try with_reducible rfl); simp only [Act.put, zA, z0, z1]; refine tkT 5 ?_ rfl hS ?_ ?_ (by kernel_rfl) (fun _ _ _ h => h) (by rfl); rotate_left; (· intro wS hSw; (try dsimp only at hSw); go_simp; try with_reducible rfl); simp only [Act.put, zA, z0, z1]; refine tkT 6 ?_ rfl hS ?_ ?_ (by kernel_rfl) (fun _ _ _ h => h) (by rfl); rotate_left; (· intro wS hSw; (try dsimp only at hSw); go_simp; try with_reducible rfl); simp only [Act.put, zA, z0, z1]
             refine tkT 7 ?_ rfl hS ?_ ?_ (by kernel_rfl) (fun _ _ _ h => h) (by rfl); rotate_left; (· intro wS hSw; (try dsimp only at hSw); go_simp; try with_reducible rfl); simp only [Act.put, zA, z0, z1]; refine tkT 8 ?_ rfl hS ?_ ?_ (by kernel_rfl) (fun _ _ _ h => h) (by rfl); rotate_left; (· intro wS hSw; (try dsimp only at hSw); go_simp; try with_reducible rfl); simp only [Act.put, zA, z0, z1]; refine tkT 9 ?_ rfl hS ?_ ?_ (by kernel_rfl) (fun _ _ _ h => h) (by rfl); rotate_left; (· intro wS hSw; (try dsimp only at hSw); go_simp; try with_reducible rfl); simp only [Act.put, zA, z0, z1]; refine tkT 10 ?_ rfl hS ?_ ?_ (by kernel_rfl) (fun _ _ _ h => h) (by rfl); rotate_left; (· intro wS hSw; (try dsimp only at hSw); go_simp; try with_reducible rfl); simp only [Act.put, zA, z0, z1]; refine tkT 11 ?_ rfl hS ?_ ?_ (by kernel_rfl) (fun _ _ _ h => h) (by rfl); rotate_left; (· intro wS hSw; (try dsimp only at hSw); go_simp; try with_reducible rfl); simp only [Act.put, zA, z0, z1]; refine twoT (i := 12) (i' := 13) rfl rfl (by decide +kernel) (fun K hK => ?_) (fun K hK => ?_)
             ·
              go_simp; have hb1 := bl_trans hb0 (bl_alloc w1.drew (.cells #[.int .i64 0, .slice none 0 0] 49)); refine hK _ _ (fun _ => HS0.out _ hb1) ?_; clear hK K hS; refine oneT (i := 13) rfl (by kernel_rfl) (fun K hK => ?_); go_simp; have hb2 := bl_trans hb1 (bl_alloc _ (.cells #[.int .i64 0, .slice none 0 0] 49)); refine hK _ _ (fun _ => HS0.out _ hb2) ?_; clear hK K; refine oneT (i := 14) rfl (by kernel_rfl) (fun K hK => ?_); go_simp; have hb3 : Below w1.heap.size w1 ((w1.alloc (.cells #[.int .i64 ki, .slice ax x.length cx] 49)).alloc (.cells #[.int .i64 0, .slice none 0 0] 49)).drew := (bl_trans (bl_alloc w1 _) (bl_alloc _ _)).drew; refine hK _ _ (fun _ => HS0.out _ hb3) ?_; clear hK K; refine oneT (i := 15) rfl (by kernel_rfl) (fun K hK => ?_); go_simp; have hb4 : Below w1.heap.size w1 ((w1.alloc (.cells #[.int .i64 ki, .slice ax x.length cx] 49)).alloc (.cells #[.int .i64 kj, .slice ay y.length cy] 49)).drew := (bl_trans (bl_alloc w1 _) (bl_alloc _ _)).drew; refine hK _ _ (fun _ => HS0.out _ hb4) ?_; clear hK K; refine doneT (by kernel_rfl) ?_ _; go_wp2_with fail; go_meet
              exact ⟨_, _, rfl, rfl, by simp, by simp, by simp, by simp, hb4⟩
             ·
              go_simp; have hb1 := bl_trans hb0 (bl_alloc w1.drew (.cells #[.int .i64 0, .slice none 0 0] 49)); refine hK _ _ (fun _ => HS0.out _ hb1) ?_; clear hK K hS; refine oneT (i := 12) rfl (by kernel_rfl) (fun K hK => ?_); go_simp; have hb2 := bl_trans hb1 (bl_alloc _ (.cells #[.int .i64 0, .slice none 0 0] 49)); refine hK _ _ (fun _ => HS0.out _ hb2) ?_; clear hK K; refine oneT (i := 14) rfl (by kernel_rfl) (fun K hK => ?_); go_simp; have hb3 : Below w1.heap.size w1 ((w1.alloc (.cells #[.int .i64 0, .slice none 0 0] 49)).alloc (.cells #[.int .i64 ki, .slice ax x.length cx] 49)).drew := (bl_trans (bl_alloc w1 _) (bl_alloc _ _)).drew; refine hK _ _ (fun _ => HS0.out _ hb3) ?_; clear hK K; refine oneT (i := 15) rfl (by kernel_rfl) (fun K hK => ?_); go_simp; have hb4 : Below w1.heap.size w1 ((w1.alloc (.cells #[.int .i64 kj, .slice ay y.length cy] 49)).alloc (.cells #[.int .i64 ki, .slice ax x.length cx] 49)).drew := (bl_trans (bl_alloc w1 _) (bl_alloc _ _)).drew; refine hK _ _ (fun _ => HS0.out _ hb4) ?_; clear hK K; refine doneT (by kernel_rfl) ?_ _; go_wp2_with fail; go_meet
              exact ⟨_, _, rfl, rfl, by simp, by simp, by simp, by simp, hb4⟩
            case rest =>
             obtain ⟨ga, gb, rfl, rfl, m0, m1, n0, n1, hb2⟩ := hcut; have hP2 := hP1.below hb2; have hB2 := bl_trans hB1 hb2; have t0' := keep_cell hb2 t0; have t1' := keep_cell hb2 t1; have HP2 := Lib.hid hP2; have kdi : kdQ (ptQ ps) i = ki := by rw [kdQ_at (by rw [ptQ_len]; exact hi), Hki.out]; simp [ptQ]
             have kdj : kdQ (ptQ ps) j = kj := by rw [kdQ_at (by rw [ptQ_len]; exact hj), Hkj.out]; simp [ptQ]
             have hskip : ¬ (ki = kj ∧ ki ≠ 3) → RfI ls N (v + 1) (ptQ ps) := fun h => Hrf.out.skip (by rw [ptQ_len]; exact hi) (by rw [ptQ_len]; exact hj) (by omega) Hei.out Hej.out Hev.out (by rw [kdi, kdj]; exact h); have Hskip := Lib.hid hskip; have v2 : (v : Int) + 1 ≤ 1002 := by omega
             clear hP1 hB1 hb1 hb2 t0 t1 d0 d1 k0 k1 hskip hP2; by_cases hkk : ki = kj
             ·
              have e1 : (ki != kj) = false := by simpa using hkk
              by_cases hk3 : ki = 3
              ·
               have e2 : (ki == 3) = true := by simpa using hk3
               have hrf2 := Hskip.out fun h => h.2 hk3; have Hrf2 := Lib.hid hrf2; clear hkk hk3 hrf2; go_wp2_with fail; go_roundg (gk - 1)
               case measure => have := Hv.out; omega
               case rel => exact ⟨v + 1, g, cp, ps, by have := Hv.out; omega, by omega, by go_num, rfl, HP2.out, Hrf2.out, Hto.out, hB2⟩
              ·
               have e2 : (ki == 3) = false := by simpa using hk3
               have hj9 := fun (w9 : World) (h1 : RdL w9 ax x) (h2 : RdL w9 ay y) => by
                have ex : x = lnQ (ptQ ps) i := by rw [lnQ_at (by rw [ptQ_len]; exact hi), Hx.out]; simp [ptQ]
                have ey : y = lnQ (ptQ ps) j := by rw [lnQ_at (by rw [ptQ_len]; exact hj), Hy.out]; simp [ptQ]
                obtain ⟨q1, q2, q3, q4, q5, q6⟩ := at_join HRl.out.1 Hrf.out.qi hij (by rw [ptQ_len]; exact hi) (by rw [ptQ_len]; exact hj) (by rw [Hev.out]; omega) Hei.out Hej.out (by rw [kdi, kdj]; exact hkk) (by rw [kdi]; exact hk3); have hei := Hei.out; have hej := Hej.out; rw [← ex] at q1 q4 q6 hei; rw [← ey] at q2 q5 q6 hej; exact join14_walk ax ay cx cy x y e w9 h1 h2 q1 q2 q3 hei hej q4 q5 q6
               rw [Hev.out] at hj9; obtain ⟨J, hJ⟩ : ∃ J, J = joinL x y (v : Int) := ⟨_, rfl⟩
               rw [← hJ] at hj9; have hrowx := HP2.out.each _ (List.getElem_mem hi); have hrowy := HP2.out.each _ (List.getElem_mem hj); have rx : RdL wc ax x := by have := hrowx.1.1; rw [← Hax.out, ← Hx.out] at this; exact this
               have ry : RdL wc ay y := by have := hrowy.1.1; rw [← Hay.out, ← Hy.out] at this; exact this
               have hmerge : ∀ z : PtR, z.1 = (ki, J) → ptQ ((ps.set i z).eraseIdx j) = mergeQ (ptQ ps) i j (v : Int) := fun z hz => by
                unfold mergeQ; rw [ptQ_del, ptQ_set, hz, kdi, lnQ_at (by rw [ptQ_len]; exact hi), lnQ_at (by rw [ptQ_len]; exact hj), hJ, Hx.out, Hy.out]; simp [ptQ]
               have hstep := at_step Hrf.out.qi hij (by rw [ptQ_len]; exact hi) (by rw [ptQ_len]; exact hj) (by rw [Hev.out]; omega) Hei.out Hej.out (by rw [kdi, kdj]; exact hkk) (by rw [kdi]; exact hk3); have hrf2 := Hrf.out.step HRl.out.1 Hev.out hstep; have hto2 := Hto.out.snoc hstep; rw [Hev.out] at hrf2 hto2; have Hj9 := Lib.hid hj9; have Hmerge := Lib.hid hmerge; have Hrf2 := Lib.hid hrf2; have Hto2 := Lib.hid hto2; have HJ := Lib.hid hJ; have hyoung : w.heap.size ≤ g ∧ g < wc.heap.size := ⟨HP2.out.lo, HP2.out.lt⟩
               clear hj9 hmerge hstep hrf2 hto2 hrowx hrowy kdi kdj hJ hkk hk3; go_wp2_with fail; refine (Hj9.out _ rx ry).mono ?_; rintro e9 w3 ⟨vj, rfl, hoj, hyj, hb3⟩; obtain ⟨aj, cj, rfl, hrj, haj, hcj1, hcj2⟩ := hoj.read; have hP3 := HP2.out.below hb3; have hB3 := bl_trans hB2 hb3; have t0 := keep_cell hb3 t0'; have t1 := keep_cell hb3 t1'; have m2 := keep_cell hb3 m0; obtain ⟨z, hz⟩ : ∃ z : PtR, z = ((ki, J), aj, cj) := ⟨_, rfl⟩
               have hrz : RowP w3 z ∧ ∀ ad, z.2.1 = some ad → ad.block < w3.heap.size := by
                have h9 : ∀ ad, aj = some ad → ad.block < w3.heap.size := fun ad ha => Own.lt hoj (haj ad ha); rw [hz]; exact ⟨⟨hrj, hcj2, hcj1, h9⟩, h9⟩
               have hrall : ∀ q ∈ ps, RowP w3 q ∧ ∀ ad, q.2.1 = some ad → ad.block < w3.heap.size := fun q hq => ⟨(hP3.each q hq).1, (hP3.each q hq).1.2.2.2⟩
               have hl0 : PtsI w3 w3 (.slice none 0 0) (leftL ps i j z 0) := by
                rw [leftL_zero]; exact ⟨own_nil _ _ _, fun p hp => by simp at hp, fun g hg => by simp [Value.ownBlock] at hg, bl_refl w3⟩
               obtain ⟨gkv, hgkv⟩ : ∃ g, g = gk := ⟨_, rfl⟩
               have Hgkv := Lib.hid hgkv; have Hz := Lib.hid hz; have Hrz := Lib.hid hrz; have Hrall := Lib.hid hrall; have HP3 := Lib.hid hP3; clear t0' t1' m0 m1 n0 n1 rx ry hb3 hoj hyj hrj haj hcj1 hcj2 hgkv hz hrz hrall hP3 hB2 HP2; go_upto_region 23 with (fail)
               go_loopg [17, 18] ps.length (fun r lo tv wj => ∃ t : Nat, t + r = ps.length ∧ tv = .int .i64 t ∧ PtsI w3 wj lo (leftL ps i j z t))
               case atStart => exact ⟨0, by omega, rfl, hl0⟩
               case round =>
                as_aux_lemma =>
                 clear hl0; obtain ⟨t, ht, rfl, hI⟩ := hrel; have Ht := Lib.hid ht; have hb := hI.2.2.2; have hll := leftL_len ps i j z t; by_cases htl : t < ps.length
                 ·
                  have s0 := keep_cell hb t0; have s1 := keep_cell hb t1; have s2 := keep_cell hb m2; clear ht; by_cases hti : t = i
                  ·
                   have e4 : ((t : Int) == (i : Int)) = true := by simp; omega
                   have hnx := leftL_next (i0 := i) (j0 := j) (z := z) htl (by omega); have hzz : (ps.set i z)[t]'(by rw [List.length_set]; exact htl) = z := by subst hti; simp
                   rw [hzz] at hnx; obtain ⟨L, hL⟩ : ∃ L, L = leftL ps i j z t := ⟨_, rfl⟩
                   rw [← hL] at hI hnx hll; have hA5 := hI.1.alloc (.cells #[.int .i64 ki, .slice aj J.length cj] 49); have Hnx := Lib.hid hnx; have HI := Lib.hid hI; clear hnx hzz hL hti hI; go_wp2_with (at_builtin; refine wpList_append_row _ rfl (.tmp 122) (.tmp 127) 24 rfl 49 (.agg #[.int .i64 0, .slice none 0 0]) 2 32 Tryz.underlying24 info_part (by decide +kernel) u17 L.length _ rfl hA5 ⟨wr.heap.size, 0, none⟩ 1 1 [.int .i64 ki, .slice aj J.length cj] rfl rfl (news2 wr _ _ _) (by intro u hu; simp at hu; rcases hu with rfl | rfl <;> rfl) (by omega) (by unfold maxLen; omega) (by omega) ?_; intro g6 c6 w6 hr6 hc6 hg6 hor6); have hI6 : PtsI w3 w6 (.slice (some ⟨g6, 0, none⟩) (L.length + 1) c6) (leftL ps i j z (t + 1)) := by
                    rw [Hnx.out]; refine HI.out.push (Hrz.out.1.below hb) Hrz.out.2 ?_ hc6 hg6 hor6; rw [Hz.out]; exact hr6
                   clear hr6 hc6 hg6 hor6 hA5; go_wp2_with fail; go_roundg (gk - 1)
                   case measure => have := Ht.out; omega
                   case rel => exact ⟨t + 1, by have := Ht.out; omega, by go_num, hI6⟩
                  ·
                   have e4 : ((t : Int) == (i : Int)) = false := by simp; omega
                   by_cases htj : t = j
                   ·
                    have e5 : ((t : Int) != (j : Int)) = false := by simp; omega
                    have hI2 : PtsI w3 wr u17 (leftL ps i j z (t + 1)) := by
                     subst htj; rw [leftL_skip htl]; exact hI
                    clear hti htj hI; go_wp2_with fail; go_roundg (gk - 1)
                    case measure => have := Ht.out; omega
                    case rel => exact ⟨t + 1, by have := Ht.out; omega, by go_num, hI2⟩
                   ·
                    have e5 : ((t : Int) != (j : Int)) = true := by simp; omega
                    have hnx := leftL_next (i0 := i) (j0 := j) (z := z) htl htj; rw [List.getElem_set_ne (by omega)] at hnx; have hP9 := HP3.out.below hb; obtain ⟨g1t, g2t⟩ := ptC_get ps t htl; have p0 : wr.cell? ⟨g, t * 2, none⟩ = some (.int .i64 ps[t].1.1) := by rw [hP9.row.cell? _ (by rw [ptC_len]; omega)]; exact g1t
                    have p1 : wr.cell? ⟨g, t * 2 + 1, none⟩ = some (ptV ps[t]) := by rw [hP9.row.cell? _ (by rw [ptC_len]; omega)]; exact g2t
                    unfold ptV at p1; have hrt := Hrall.out _ (List.getElem_mem htl); obtain ⟨⟨⟨kt, lt⟩, at9, ct⟩, hpt⟩ : ∃ q : PtR, q = ps[t] := ⟨_, rfl⟩
                    rw [← hpt] at p0 p1 hnx hrt; simp only at p0 p1; obtain ⟨L, hL⟩ : ∃ L, L = leftL ps i j z t := ⟨_, rfl⟩
                    rw [← hL] at hI hnx hll; have hA5 := hI.1.alloc (.cells #[.int .i64 kt, .slice at9 lt.length ct] 49); have j1 : (t : Int) < (ps.length : Int) := by omega
                    have Hnx := Lib.hid hnx; have HI := Lib.hid hI; have Hrt := Lib.hid hrt; clear hnx hL hti htj hI hrt hpt g1t g2t hP9; go_wp2_with (at_builtin; refine wpList_append_row _ rfl (.tmp 134) (.tmp 139) 24 rfl 49 (.agg #[.int .i64 0, .slice none 0 0]) 2 32 Tryz.underlying24 info_part (by decide +kernel) u17 L.length _ rfl hA5 ⟨wr.heap.size, 0, none⟩ 1 1 [.int .i64 kt, .slice at9 lt.length ct] rfl rfl (news2 wr _ _ _) (by intro u hu; simp at hu; rcases hu with rfl | rfl <;> rfl) (by omega) (by unfold maxLen; omega) (by omega) ?_; intro g6 c6 w6 hr6 hc6 hg6 hor6); have hI6 : PtsI w3 w6 (.slice (some ⟨g6, 0, none⟩) (L.length + 1) c6) (leftL ps i j z (t + 1)) := by
                     rw [Hnx.out]; exact HI.out.push (Hrt.out.1.below hb) Hrt.out.2 hr6 hc6 hg6 hor6
                    clear hr6 hc6 hg6 hor6 hA5 p0 p1; go_wp2_with fail; go_roundg (gk - 1)
                    case measure => have := Ht.out; omega
                    case rel => exact ⟨t + 1, by have := Ht.out; omega, by go_num, hI6⟩
                 ·
                  have htn : t = ps.length := by omega
                  subst htn; rw [leftL_end hj] at hI; have hpq := Hmerge.out z (by rw [Hz.out]); have hne : (ps.set i z).eraseIdx j ≠ [] := fun e => by
                   have h9 := Hrf2.out.qi; rw [← hpq, e] at h9; exact qi_ne h9 rfl
                  obtain ⟨g9, cp9, rfl, hP9⟩ := hI.pt hne; have hrf9 := Hrf2.out; have hto9 := Hto2.out; rw [← hpq] at hrf9 hto9; have hP10 := PtI.lower hP9 (show w.heap.size ≤ w3.heap.size by exact hB3.size); have hB9 := bl_trans hB3 hb; obtain ⟨ps9, hps9⟩ : ∃ p, p = (ps.set i z).eraseIdx j := ⟨_, rfl⟩
                  rw [← hps9] at hrf9 hto9 hP10 ⊢; have Hrf9 := Lib.hid hrf9; have Hto9 := Lib.hid hto9; have HP10 := Lib.hid hP10; clear ht Ht hI hpq hne hP9 hrf9 hto9 hP10 hps9 hb hll t0 t1 m2 Hrf2 Hto2 Hmerge; go_wp2_with fail; go_roundg (gkv - 1)
                  case measure => have := Hv.out; have := Hgkv.out; omega
                  case rel => exact ⟨v + 1, g9, cp9, ps9, by have := Hv.out; have := Hgkv.out; omega, by omega, by go_num, rfl, HP10.out, Hrf9.out, Hto9.out, hB9⟩
             ·
              have e1 : (ki != kj) = true := by simpa using hkk
              have hrf2 := Hskip.out fun h => hkk h.1; have Hrf2 := Lib.hid hrf2; clear hkk hrf2; go_wp2_with fail; go_roundg (gk - 1)
              case measure => have := Hv.out; omega
              case rel => exact ⟨v + 1, g, cp, ps, by have := Hv.out; omega, by omega, by go_num, rfl, HP2.out, Hrf2.out, Hto.out, hB2⟩
           ·
            have hvN : v = N := by omega
            rw [hvN] at hrf; have hnm := hrf.done; have hrall : ∀ q ∈ ps, RowP wr q ∧ ∀ ad, q.2.1 = some ad → ad.block < wr.heap.size := fun q hq => ⟨(hP.each q hq).1, (hP.each q hq).1.2.2.2⟩
            have Hnm := Lib.hid hnm; have Hrall := Lib.hid hrall; have HP := Lib.hid hP; have vN : v < N ∨ v = N := .inr hvN; subst hvN; obtain ⟨wq, rfl⟩ : ∃ wq : World, wq = wr := ⟨_, rfl⟩
            have ho0 : Own wq (.slice none 0 0) 49 2 ([] : List PtR).length (ptC []) := own_nil _ _ _; have hgq := hP.lt; clear hv Hv hrf hto Hrf hnm hrall hP vN hvn; go_upto_region 32 with (fail)
            go_loopg [19, 20] ps.length (fun r vo iv wj => ∃ (i : Nat) (ts : List PtR), i + r = ps.length ∧ iv = .int .i64 i ∧ Own wj vo 49 2 ts.length (ptC ts) ∧ ts.Pairwise LeR ∧ ts.Perm (ps.take i) ∧ (∀ g, vo.ownBlock = some g → wq.heap.size ≤ g) ∧ Below wq.heap.size wq wj)
            case atStart => exact ⟨0, [], by omega, rfl, ho0, .nil, by simp, fun g hg => by simp [Value.ownBlock] at hg, bl_refl wq⟩
            case round =>
             as_aux_lemma =>
              clear ho0; obtain ⟨i, ts, hi, rfl, hown, hos, hperm, hnew, hbA⟩ := hrel; have Hk := Lib.hid hi; have Hperm := Lib.hid hperm; have Hnew := Lib.hid hnew; have htl : ts.length = i := by rw [hperm.length_eq, List.length_take]; omega
              by_cases hil : i < ps.length
              ·
               obtain ⟨X, hXX⟩ : ∃ X, X = ps[i] := ⟨_, rfl⟩
               have hst : ps.take (i + 1) = ps.take i ++ [X] := by rw [List.take_succ_eq_append_getElem hil, hXX]
               obtain ⟨X0, X1⟩ := HP.out.row.ptAt i hil; rw [← hXX] at X0 X1; have hrX := Hrall.out _ (List.getElem_mem hil); rw [← hXX] at hrX; obtain ⟨⟨⟨kx, lx⟩, ax, cx⟩, hX⟩ : ∃ q : PtR, X = q := ⟨_, rfl⟩
               rw [hX] at X0 X1 hrX; simp only [ptV] at X0 X1; have hlx : lx.length ≤ 9223372036854775807 := by
                have h1 := hrX.1.2.1; have h2 := hrX.1.2.2.1; unfold maxLen at h2; simp only at h1 h2; omega
               have rlx : RdL wq ax lx := hrX.1.1; have hrall : ∀ j (h : j < ts.length), RowP wq ts[j] ∧ ts[j].1.2.length ≤ 9223372036854775807 := fun j h => by
                have hm : ts[j] ∈ ps := List.mem_of_mem_take ((hperm.mem_iff).1 (List.getElem_mem h)); have h0 := (Hrall.out _ hm).1; have h1 := h0.2.1; have h2 := h0.2.2.1; unfold maxLen at h2; exact ⟨h0, by omega⟩
               have HX := Lib.hid hX; have Hst := Lib.hid hst; have HrT := Lib.hid hrall; obtain ⟨gA, hgA⟩ : ∃ n : Nat, n = gk := ⟨_, rfl⟩
               have HgA := Lib.hid hgA; obtain ⟨ao, co, rfl, hro⟩ := ownP_read hown; have Hown := Lib.hid hown; have HB := Lib.hid hbA; have htl2 : ts.length ≤ 1000 := by omega
               clear htl; have x1 := keep_cell hbA X1; have i1 : (i : Int) < (ps.length : Int) := by omega
               obtain ⟨wA, rfl⟩ : ∃ wA : World, wA = wr := ⟨_, rfl⟩
               clear hi hperm hnew hXX hst hrX hX hrall hgA hown hbA; go_upto_region 35 with (fail)
               go_loopg [21] ts.length (fun r t wi => ∃ q : Nat, q = r ∧ t = .int .i64 q ∧ q ≤ ts.length ∧ (∀ j (h : j < ts.length), q ≤ j → cmpLs X.1.2 ts[j].1.2 < 0) ∧ Below wA.heap.size wA wi)
               case atStart => exact ⟨ts.length, rfl, by go_num, by omega, fun j h hj => absurd h (by omega), bl_refl _⟩
               case round =>
                as_aux_lemma =>
                 obtain ⟨q, hqr, rfl, hq, hbeh, hbi⟩ := hrel; have Hqr := Lib.hid hqr; clear hqr; have x1 := keep_cell hbi x1; by_cases hq0 : q = 0
                 ·
                  have hfirst : q = 0 ∨ ∀ h : q - 1 < ts.length, 0 ≤ cmpLs X.1.2 ts[q-1].1.2 := .inl hq0; have q6 : decide ((0 : Int) < (q : Int)) = false := by rw [hq0]; simp
                  have q7 : decide (0 < q) = false := by rw [hq0]; simp
                  clear hq0; have Hbeh := Lib.hid hbeh; have Hfirst := Lib.hid hfirst; have Hos2 := Lib.hid hos; clear hbeh hfirst hos; go_wp2_with fail; go_quiet (fail)
                  go_upto_region 37 with (fail)
                  have hbeh := Hbeh.out; have hfirst := Hfirst.out; have hos := Hos2.out; have hbj : Below wA.heap.size wA (wr.drewN nq) := below_drewN hbi _; clear hbi q6 q7 x1; generalize wr.drewN nq = wi at hbj ⊢; have hXl : (shiftS ts X q).length = ts.length + 1 := shiftS_length _ _ _ hq; have hput := putP_sorted hos hq hbeh hfirst; have hprm := putP_perm ts X q; have Hput := Lib.hid hput; have Hprm := Lib.hid hprm; have HXl := Lib.hid hXl; have hbi := bl_trans HB.out hbj; have hbW := bl_trans hbi (bl_alloc wi (.cells #[.int .i64 kx, .slice ax lx.length cx] 49)); have hownZ : Own (wi.alloc (.cells #[.int .i64 kx, .slice ax lx.length cx] 49)) (.slice ao ts.length co) 49 2 ts.length (ptC ts) := (Hown.out.ext hbj).alloc _; have x0 := keep_cell hbi X0; have x1 := keep_cell hbi X1; have hwsz := hbi.size; have Hq := Lib.hid hq; have HbW := Lib.hid hbW; clear hput hprm hXl hbeh hfirst hbW hbi hq; go_upto_region 39 with (at_builtin; refine wpList_append_row _ rfl (.tmp 168) (.tmp 173) 24 rfl 49 (.agg #[.int .i64 0, .slice none 0 0]) 2 32 Tryz.underlying24 info_part (by decide +kernel) (.slice ao ts.length co) ts.length _ rfl hownZ ⟨wi.heap.size, 0, none⟩ 1 1 [.int .i64 kx, .slice ax lx.length cx] rfl rfl (news2 wi _ _ _) (by intro u hu; simp at hu; rcases hu with rfl | rfl <;> rfl) (by omega) (by unfold maxLen; omega) (by omega) ?_; intro g5 c5 w5 hr5 hc5 hg5 hor5)
                  have hb5 : Below wq.heap.size wq w5 := HbW.out.grown hg5 (by have := HbW.out.size; exact this) (fun j hj => Hnew.out j hj); have hg6 : wq.heap.size ≤ g5 := by
                   rcases hor5 with h | h
                   · exact Hnew.out g5 h
                   · have := HbW.out.size; omega
                  have hr6 : Row w5 g5 49 2 c5 (ptC (shiftS ts X ts.length)) := by
                   rw [shiftS_full, ptC_append, HX.out]; exact hr5
                  clear hr5 hg5 hor5 hownZ x0 x1 hbj; obtain ⟨gB, rfl⟩ : ∃ n : Nat, n = gk := ⟨_, rfl⟩
                  go_loopg [22] (ts.length - q) (fun r t wj => ∃ m : Nat, t = .int .i64 m ∧ m = q + r ∧ m ≤ ts.length ∧ Row wj g5 49 2 c5 (ptC (shiftS ts X m)) ∧ Below wq.heap.size wq wj)
                  case atStart => exact ⟨ts.length, by go_num, by have := Hq.out; omega, by omega, hr6, hb5⟩
                  case round =>
                   as_aux_lemma =>
                    clear hr6 hb5; obtain ⟨m, rfl, hmr, hmo, hrw, hbm⟩ := hrel; obtain ⟨L, hL⟩ : ∃ L, L = shiftS ts X m := ⟨_, rfl⟩
                    have hLl : L.length = ts.length + 1 := by rw [hL]; exact shiftS_length _ _ _ hmo
                    rw [← hL] at hrw; have hgl := hrw.lt; by_cases hmq : m = q
                    ·
                     subst hmq; have x0 := keep_cell hbm X0; have x1 := keep_cell hbm X1; obtain ⟨d0, d1⟩ := hrw.ptAt m (by omega); have f0 := hrw.frozen (m * 2); have f1 := hrw.frozen (m * 2 + 1); have hset := ptC_set2 L m (by omega) X; have hend : L.set m X = ts.take m ++ X :: ts.drop m := by rw [hL]; exact shiftS_end _ _ _ hmo
                     rw [hend, HX.out] at hset; simp only [ptV] at hset; have Hset := Lib.hid hset; have Hmr := Lib.hid hmr; have hml : m < ts.length + 1 := by omega
                     have hml2 : (m : Int) < (ts.length : Int) + 1 := by omega
                     clear hset hend hmr hL; obtain ⟨e0, he0⟩ : ∃ e, e = L[m].1.1 := ⟨_, rfl⟩
                     obtain ⟨e1, he1⟩ : ∃ e, e = ptV L[m] := ⟨_, rfl⟩
                     rw [← he0] at d0; rw [← he1] at d1; clear he0 he1; go_wp2_with fail; go_roundg (gA - 1)
                     case measure => have := Hk.out; have := HgA.out; omega
                     case rel =>
                      have hNl : (ts.take m ++ X :: ts.drop m).length = ts.length + 1 := by simp; omega
                      refine ⟨i + 1, ts.take m ++ X :: ts.drop m, by have := Hk.out; have := HgA.out; omega, by go_num, ?_, Hput.out, Hprm.out.trans ?_, fun g hg => by cases hg; exact hg6, ?_⟩
                      ·
                       rw [hNl]; have h1 := (hrw.set (m * 2) (.int .i64 kx)).set (m * 2 + 1) (.slice ax lx.length cx); rw [Hset.out, ← HX.out] at h1; exact h1.own (by rw [ptC_len, hNl]) hc5
                      ·
                       rw [Hst.out]; exact Hperm.out.append_right _
                      · exact (hbm.setCell (by simpa using hg6) _).setCell (by simpa using hg6) _
                    ·
                     obtain ⟨j, hj⟩ : ∃ j, m = j + 1 := ⟨m - 1, by omega⟩
                     have hjo : j < ts.length := by omega
                     obtain ⟨c0, c1⟩ := hrw.ptAt j (by omega); have hLj : L[j]'(by omega) = ts[j] := by
                      have := shiftS_prev ts X j hjo; rw [← hj, ← hL, List.getElem?_eq_getElem (by omega)] at this; exact Option.some.inj this
                     rw [hLj] at c0 c1; obtain ⟨d0, d1⟩ := hrw.ptAt m (by omega); have hset := ptC_set2 L m (by omega) ts[j]; have hend : L.set m ts[j] = shiftS ts X j := by rw [hL, hj]; exact shiftS_step _ _ _ hjo
                     rw [hend] at hset; obtain ⟨⟨⟨k9, l9⟩, a9, r9⟩, hx9⟩ : ∃ e : PtR, ts[j] = e := ⟨_, rfl⟩
                     rw [hx9] at c0 c1 hset; simp only [ptV] at c0 c1 hset; have f0 := hrw.frozen (m * 2); have f1 := hrw.frozen (m * 2 + 1); have i1 : IntKind.i64.wrap ((m : Int) - 1) = (j : Int) := by rw [show ((m : Int) - 1) = (j : Int) by omega]; exact IntWalk.i64_in _ (by omega)
                     have i2 : m < ts.length + 1 := by omega
                     have i2' : (m : Int) < (ts.length : Int) + 1 := by omega
                     have i3 : j < ts.length + 1 := by omega
                     have i4 : q < m := by omega
                     have i5 : (j : Int) < (ts.length : Int) + 1 := by omega
                     have hmr2 : j = q + (gk - 1) ∧ gk - 1 < gk := by omega
                     have Hset := Lib.hid hset; have Hmr := Lib.hid hmr2; obtain ⟨e0, he0⟩ : ∃ e, e = L[m].1.1 := ⟨_, rfl⟩
                     obtain ⟨e1, he1⟩ : ∃ e, e = ptV L[m] := ⟨_, rfl⟩
                     rw [← he0] at d0; rw [← he1] at d1; clear he0 he1 hset hend hmr hmr2 hj hL hLj hx9 hmq; go_wp2_with fail; go_roundg (gk - 1)
                     case measure => exact Hmr.out.2
                     case rel =>
                      refine ⟨j, rfl, Hmr.out.1, by omega, ?_, (hbm.setCell (by simpa using hg6) _).setCell (by simpa using hg6) _⟩; have h1 := (hrw.set (m * 2) (.int .i64 k9)).set (m * 2 + 1) (.slice a9 l9.length r9); rw [Hset.out] at h1; exact h1
                 ·
                  have hjo : q - 1 < ts.length := by omega
                  obtain ⟨hRj, hlj⟩ := HrT.out (q - 1) hjo; obtain ⟨g1y, g2y⟩ := ptC_get ts (q - 1) hjo; obtain ⟨bo, oo, e2, p1⟩ := (hro.below hbi) _ _ g2y; subst e2; obtain ⟨⟨⟨ky, ly⟩, ay, cy⟩, hx1⟩ : ∃ e : PtR, ts[q-1] = e := ⟨_, rfl⟩
                  rw [hx1] at p1 hRj hlj; simp only [ptV] at p1; simp only at hlj; obtain ⟨j, hj⟩ : ∃ j, j = q - 1 := ⟨_, rfl⟩
                  rw [← hj] at p1; have q6 : decide ((0 : Int) < (q : Int)) = true := by rw [decide_eq_true_eq]; omega
                  have q7 : decide (0 < q) = true := by rw [decide_eq_true_eq]; omega
                  have q8 : 0 < q := by omega
                  have i11 : IntKind.i64.wrap ((q : Int) - 1) = (j : Int) := by rw [show ((q : Int) - 1) = (j : Int) by omega]; exact IntWalk.i64_in _ (by omega)
                  have i12 : IntKind.i64.wrap (j : Int) = (j : Int) := IntWalk.i64_in _ (by omega); have i13 : (0 : Int) ≤ (j : Int) := by omega
                  have i14 : (j : Int) < (ts.length : Int) := by omega
                  have i15 : j < ts.length := by omega
                  obtain ⟨bb, hbb⟩ : ∃ b, b = decide (cmpLs lx ly < 0) := ⟨_, rfl⟩
                  have hXl2 : X.1.2 = lx := by rw [HX.out]
                  have hfst : bb = false → (q = 0 ∨ ∀ h : q - 1 < ts.length, 0 ≤ cmpLs X.1.2 ts[q-1].1.2) := fun h => .inr fun h2 => by
                   rw [hx1, hXl2]; rw [hbb] at h; simpa using h
                  have hnx : bb = true → ∀ t (h : t < ts.length), j ≤ t → cmpLs X.1.2 ts[t].1.2 < 0 := fun h t ht hjt => by
                   by_cases e : q ≤ t
                   · exact hbeh t ht e
                   ·
                    obtain rfl : t = q - 1 := by omega
                    rw [hx1, hXl2]; rw [hbb] at h; simpa using h
                  have hjq : j + 1 = q := by omega
                  have hBi := bl_trans HB.out hbi; have hbw := fun (w9 : World) (h1 : RdL w9 ax lx) (h2 : RdL w9 ay ly) => before15_walk ax ay cx cy lx ly w9 h1 h2 hlx hlj; rw [← hbb] at hbw; have rl1 := rlx.below hBi; have rl2 : RdL wr ay ly := hRj.1.below hBi; have Hfst := Lib.hid hfst; have Hnx := Lib.hid hnx; have Hbeh := Lib.hid hbeh; have Hos2 := Lib.hid hos; have Hjq := Lib.hid hjq; have Hqo := Lib.hid hq; have Hi15 := Lib.hid i15; have Hbw := Lib.hid hbw; have Hrl1 := Lib.hid rl1; have Hrl2 := Lib.hid rl2; clear hfst hnx hbeh hos hjq hx1 hj hq0 hq hbb hXl2 hbw rl1 rl2 hRj g1y g2y hBi; go_wp2_with fail; have p2 : wr.cell? ⟨bo, oo + j * 2 + 1, none⟩ = some (.slice ay ly.length cy) := by rw [Nat.add_assoc]; exact p1
                  refine regionT (fun w' => w'.cell? ⟨bo, oo + j * 2 + 1, none⟩ = some (.slice ay ly.length cy) ∧ w'.cell? ⟨g, i * 2 + 1, none⟩ = some (.slice ax lx.length cx)) 16 (by kernel_rfl) ?_; have hS : wr.drew.cell? ⟨bo, oo + j * 2 + 1, none⟩ = some (.slice ay ly.length cy) ∧ wr.drew.cell? ⟨g, i * 2 + 1, none⟩ = some (.slice ax lx.length cx) := ⟨p2, x1⟩
                  refine tkT 0 ?_ rfl hS ?_ ?_ (by kernel_rfl) (fun _ _ _ h => h) (by rfl); rotate_left; (· intro wS hSw; (try dsimp only at hSw); go_simp; try with_reducible rfl); simp only [Act.put, zA, z0, z1]; refine tkT 1 ?_ rfl hS ?_ ?_ (by kernel_rfl) (fun _ _ _ h => h) (by rfl); rotate_left; (· intro wS hSw; (try dsimp only at hSw); go_simp; try with_reducible rfl); simp only [Act.put, zA, z0, z1]; refine tkT 2 ?_ rfl hS ?_ ?_ (by kernel_rfl) (fun _ _ _ h => h) (by rfl); rotate_left; (· intro wS hSw; (try dsimp only at hSw); go_simp; try with_reducible rfl); simp only [Act.put, zA, z0, z1]; refine tkT 3 ?_ rfl hS ?_ ?_ (by kernel_rfl) (fun _ _ _ h => h) (by rfl); rotate_left; (· intro wS hSw; (try dsimp only at hSw); go_simp; try with_reducible rfl); simp only [Act.put, zA, z0, z1]; refine tkT 4 ?_ rfl hS ?_ ?_ (by kernel_rfl) (fun _ _ _ h => h) (by rfl); rotate_left; (· intro wS hSw; (try dsimp only at hSw); go_simp; try with_reducible rfl); simp only [Act.put, zA, z0, z1]; refine tkT 5 ?_ rfl hS ?_ ?_ (by kernel_rfl) (fun _ _ _ h => h) (by rfl); rotate_left; (· intro wS hSw; (try dsimp only at hSw); go_simp; try with_reducible rfl); simp only [Act.put, zA, z0, z1]; refine tkT 6 ?_ rfl hS ?_ ?_ (by kernel_rfl) (fun _ _ _ h => h) (by rfl); rotate_left; (· intro wS hSw; (try dsimp only at hSw); go_simp; try with_reducible rfl); simp only [Act.put, zA, z0, z1]; refine tkT 7 ?_ rfl hS ?_ ?_ (by kernel_rfl) (fun _ _ _ h => h) (by rfl); rotate_left; (· intro wS hSw; (try dsimp only at hSw); go_simp; try with_reducible rfl); simp only [Act.put, zA, z0, z1]
                  refine tkT 8 ?_ rfl hS ?_ ?_ (by kernel_rfl) (fun _ _ _ h => h) (by rfl); rotate_left; (· intro wS hSw; (try dsimp only at hSw); go_simp; try with_reducible rfl); simp only [Act.put, zA, z0, z1]; refine tkT 9 ?_ rfl hS ?_ ?_ (by kernel_rfl) (fun _ _ _ h => h) (by rfl); rotate_left; (· intro wS hSw; (try dsimp only at hSw); go_simp; try with_reducible rfl); simp only [Act.put, zA, z0, z1]; refine tkT 10 ?_ rfl hS ?_ ?_ (by kernel_rfl) (fun _ _ _ h => h) (by rfl); rotate_left; (· intro wS hSw; (try dsimp only at hSw); go_simp; try with_reducible rfl); simp only [Act.put, zA, z0, z1]; refine tkT 11 ?_ rfl hS ?_ ?_ (by kernel_rfl) (fun _ _ _ h => h) (by rfl); rotate_left; (· intro wS hSw; (try dsimp only at hSw); go_simp; try with_reducible rfl); simp only [Act.put, zA, z0, z1]; refine tkT 12 ?_ rfl hS ?_ ?_ (by kernel_rfl) (fun _ _ _ h => h) (by rfl); rotate_left; (· intro wS hSw; (try dsimp only at hSw); go_simp; try with_reducible rfl); simp only [Act.put, zA, z0, z1]; refine tkT 13 ?_ rfl hS ?_ ?_ (by kernel_rfl) (fun _ _ _ h => h) (by rfl); rotate_left; (· intro wS hSw; (try dsimp only at hSw); go_simp; try with_reducible rfl); simp only [Act.put, zA, z0, z1]; refine oneT (i := 14) rfl (by kernel_rfl) (fun K hK => ?_); go_simp; refine (Hbw.out wr.drew Hrl1.out Hrl2.out).mono ?_; rintro e w9 ⟨rfl, hb9⟩; replace hb9 : Below wr.heap.size wr w9 := bl_trans (Below.refl wr.heap.size wr).drew hb9; have hS1 : w9.cell? ⟨bo, oo + j * 2 + 1, none⟩ = some (.slice ay ly.length cy) ∧ w9.cell? ⟨g, i * 2 + 1, none⟩ = some (.slice ax lx.length cx) := ⟨keep_cell hb9 p2, keep_cell hb9 x1⟩
                  simp only; refine hK _ _ (fun _ => hS1) ?_; clear hK K hS; have hS := hS1; refine tkT 15 ?_ rfl hS ?_ ?_ (by kernel_rfl) (fun _ _ _ h => h) (by rfl); rotate_left; (· intro wS hSw; (try dsimp only at hSw); go_simp; try with_reducible rfl); simp only [Act.put, zA, z0, z1]; refine doneT (by kernel_rfl) ?_ _; have hbj := bl_trans hbi hb9; clear hS hS1 hb9 p1 p2 hbi x1 i11 i12; cases bb with
                  | true =>
                   have hnx := Hnx.out rfl; have Hnx2 := Lib.hid hnx; clear hnx; go_wp2_with fail; go_roundg (gk - 1)
                   case measure => have := Hqr.out; omega
                   case rel => exact ⟨j, by have := Hqr.out; have := Hjq.out; omega, by have := Hjq.out; go_num, by have := Hi15.out; omega, Hnx2.out, hbj⟩
                  | false =>
                   have hfirst := Hfst.out rfl; have Hl2 := Lib.hid hfirst; clear hfirst; go_upto_region 37 with (fail)
                   have hq := Hqo.out; have hbeh := Hbeh.out; have hfirst := Hl2.out; have hos := Hos2.out; clear q6 q7 q8 i13 i14 i15; obtain ⟨wi, rfl⟩ : ∃ wi : World, wi = w9 := ⟨_, rfl⟩
                   have hXl : (shiftS ts X q).length = ts.length + 1 := shiftS_length _ _ _ hq; have hput := putP_sorted hos hq hbeh hfirst; have hprm := putP_perm ts X q; have Hput := Lib.hid hput; have Hprm := Lib.hid hprm; have HXl := Lib.hid hXl; have hbi := bl_trans HB.out hbj; have hbW := bl_trans hbi (bl_alloc wi (.cells #[.int .i64 kx, .slice ax lx.length cx] 49)); have hownZ : Own (wi.alloc (.cells #[.int .i64 kx, .slice ax lx.length cx] 49)) (.slice (some ⟨bo, oo, none⟩) ts.length co) 49 2 ts.length (ptC ts) := (Hown.out.ext hbj).alloc _; have x0 := keep_cell hbi X0; have x1 := keep_cell hbi X1; have hwsz := hbi.size; have Hq := Lib.hid hq; have HbW := Lib.hid hbW; clear hput hprm hXl hbeh hfirst hbW hbi hq; go_upto_region 39 with (at_builtin; refine wpList_append_row _ rfl (.tmp 168) (.tmp 173) 24 rfl 49 (.agg #[.int .i64 0, .slice none 0 0]) 2 32 Tryz.underlying24 info_part (by decide +kernel) (.slice (some ⟨bo, oo, none⟩) ts.length co) ts.length _ rfl hownZ ⟨wi.heap.size, 0, none⟩ 1 1 [.int .i64 kx, .slice ax lx.length cx] rfl rfl (news2 wi _ _ _) (by intro u hu; simp at hu; rcases hu with rfl | rfl <;> rfl) (by omega) (by unfold maxLen; omega) (by omega) ?_; intro g5 c5 w5 hr5 hc5 hg5 hor5)
                   have hb5 : Below wq.heap.size wq w5 := HbW.out.grown hg5 (by have := HbW.out.size; exact this) (fun j hj => Hnew.out j hj); have hg6 : wq.heap.size ≤ g5 := by
                    rcases hor5 with h | h
                    · exact Hnew.out g5 h
                    · have := HbW.out.size; omega
                   have hr6 : Row w5 g5 49 2 c5 (ptC (shiftS ts X ts.length)) := by
                    rw [shiftS_full, ptC_append, HX.out]; exact hr5
                   clear hr5 hg5 hor5 hownZ x0 x1 hbj; obtain ⟨gB, rfl⟩ : ∃ n : Nat, n = gk := ⟨_, rfl⟩
                   go_loopg [22] (ts.length - q) (fun r t wj => ∃ m : Nat, t = .int .i64 m ∧ m = q + r ∧ m ≤ ts.length ∧ Row wj g5 49 2 c5 (ptC (shiftS ts X m)) ∧ Below wq.heap.size wq wj)
                   case atStart => exact ⟨ts.length, by go_num, by have := Hq.out; omega, by omega, hr6, hb5⟩
                   case round =>
                    as_aux_lemma =>
                     clear hr6 hb5; obtain ⟨m, rfl, hmr, hmo, hrw, hbm⟩ := hrel; obtain ⟨L, hL⟩ : ∃ L, L = shiftS ts X m := ⟨_, rfl⟩
                     have hLl : L.length = ts.length + 1 := by rw [hL]; exact shiftS_length _ _ _ hmo
                     rw [← hL] at hrw; have hgl := hrw.lt; by_cases hmq : m = q
                     ·
                      subst hmq; have x0 := keep_cell hbm X0; have x1 := keep_cell hbm X1; obtain ⟨d0, d1⟩ := hrw.ptAt m (by omega); have f0 := hrw.frozen (m * 2); have f1 := hrw.frozen (m * 2 + 1); have hset := ptC_set2 L m (by omega) X; have hend : L.set m X = ts.take m ++ X :: ts.drop m := by rw [hL]; exact shiftS_end _ _ _ hmo
                      rw [hend, HX.out] at hset; simp only [ptV] at hset; have Hset := Lib.hid hset; have Hmr := Lib.hid hmr; have hml : m < ts.length + 1 := by omega
                      have hml2 : (m : Int) < (ts.length : Int) + 1 := by omega
                      clear hset hend hmr hL; obtain ⟨e0, he0⟩ : ∃ e, e = L[m].1.1 := ⟨_, rfl⟩
                      obtain ⟨e1, he1⟩ : ∃ e, e = ptV L[m] := ⟨_, rfl⟩
                      rw [← he0] at d0; rw [← he1] at d1; clear he0 he1; go_wp2_with fail; go_roundg (gA - 1)
                      case measure => have := Hk.out; have := HgA.out; omega
                      case rel =>
                       have hNl : (ts.take m ++ X :: ts.drop m).length = ts.length + 1 := by simp; omega
                       refine ⟨i + 1, ts.take m ++ X :: ts.drop m, by have := Hk.out; have := HgA.out; omega, by go_num, ?_, Hput.out, Hprm.out.trans ?_, fun g hg => by cases hg; exact hg6, ?_⟩
                       ·
                        rw [hNl]; have h1 := (hrw.set (m * 2) (.int .i64 kx)).set (m * 2 + 1) (.slice ax lx.length cx); rw [Hset.out, ← HX.out] at h1; exact h1.own (by rw [ptC_len, hNl]) hc5
                       ·
                        rw [Hst.out]; exact Hperm.out.append_right _
                       · exact (hbm.setCell (by simpa using hg6) _).setCell (by simpa using hg6) _
                     ·
                      obtain ⟨j, hj⟩ : ∃ j, m = j + 1 := ⟨m - 1, by omega⟩
                      have hjo : j < ts.length := by omega
                      obtain ⟨c0, c1⟩ := hrw.ptAt j (by omega); have hLj : L[j]'(by omega) = ts[j] := by
                       have := shiftS_prev ts X j hjo; rw [← hj, ← hL, List.getElem?_eq_getElem (by omega)] at this; exact Option.some.inj this
                      rw [hLj] at c0 c1; obtain ⟨d0, d1⟩ := hrw.ptAt m (by omega); have hset := ptC_set2 L m (by omega) ts[j]; have hend : L.set m ts[j] = shiftS ts X j := by rw [hL, hj]; exact shiftS_step _ _ _ hjo
                      rw [hend] at hset; obtain ⟨⟨⟨k9, l9⟩, a9, r9⟩, hx9⟩ : ∃ e : PtR, ts[j] = e := ⟨_, rfl⟩
                      rw [hx9] at c0 c1 hset; simp only [ptV] at c0 c1 hset; have f0 := hrw.frozen (m * 2); have f1 := hrw.frozen (m * 2 + 1); have i1 : IntKind.i64.wrap ((m : Int) - 1) = (j : Int) := by rw [show ((m : Int) - 1) = (j : Int) by omega]; exact IntWalk.i64_in _ (by omega)
                      have i2 : m < ts.length + 1 := by omega
                      have i2' : (m : Int) < (ts.length : Int) + 1 := by omega
                      have i3 : j < ts.length + 1 := by omega
                      have i4 : q < m := by omega
                      have i5 : (j : Int) < (ts.length : Int) + 1 := by omega
                      have hmr2 : j = q + (gk - 1) ∧ gk - 1 < gk := by omega
                      have Hset := Lib.hid hset; have Hmr := Lib.hid hmr2; obtain ⟨e0, he0⟩ : ∃ e, e = L[m].1.1 := ⟨_, rfl⟩
                      obtain ⟨e1, he1⟩ : ∃ e, e = ptV L[m] := ⟨_, rfl⟩
                      rw [← he0] at d0; rw [← he1] at d1; clear he0 he1 hset hend hmr hmr2 hj hL hLj hx9 hmq; go_wp2_with fail; go_roundg (gk - 1)
                      case measure => exact Hmr.out.2
                      case rel =>
                       refine ⟨j, rfl, Hmr.out.1, by omega, ?_, (hbm.setCell (by simpa using hg6) _).setCell (by simpa using hg6) _⟩; have h1 := (hrw.set (m * 2) (.int .i64 k9)).set (m * 2 + 1) (.slice a9 l9.length r9); rw [Hset.out] at h1; exact h1
              ·
               have hin : i = ps.length := by omega
               subst hin; rw [List.take_of_length_le (Nat.le_refl _)] at hperm; have hpq : (ptQ ts).Perm (ptQ ps) := hperm.map _; have hso : (ptQ ts).Pairwise LeP := List.pairwise_map.2 hos; have hqq := Hto.out.qi HRl.out.1 (Hpo.out.qi HRl.out.1 kindL); have hne : ts ≠ [] := fun e => by
                rw [e] at hpq; exact qi_ne hqq (List.Perm.eq_nil hpq.symm)
               have hfin : TreeTo kindL ls (ptQ ts) := ⟨out, _, ptQ ps, Hso.out, Hto.out, Hnm.out, hpq.symm, hso⟩
               obtain ⟨g9, c9, rfl, hc9, hr9⟩ : ∃ g9 c9, u19 = .slice (some ⟨g9, 0, none⟩) ts.length c9 ∧ ts.length ≤ c9 ∧ Row wr g9 49 2 c9 (ptC ts) := by
                rcases hown.2 with ⟨_, h0⟩ | ⟨g, cg, h, hc, hr⟩
                · exact absurd (List.eq_nil_of_length_eq_zero h0) hne
                · exact ⟨g, cg, h, hc, hr⟩
               have hg9 := hnew g9 rfl
               have hP9 : PtI wr wq.heap.size g9 c9 ts := ⟨hr9, hc9, hg9, fun p hp => by
                obtain ⟨h1, h2⟩ := Hrall.out p (hperm.mem_iff.1 hp)
                exact ⟨h1.below hbA, fun ad ha => by have := h2 ad ha; omega⟩⟩
               have hBw := bl_trans hB hbA; have Hfin := Lib.hid hfin; have HP9 := Lib.hid hP9; clear hqq hne hfin hr9 hg9 hP9 hown hos hpq hso hperm hnew hi htl Hk Hperm Hnew; go_wp2_with fail; go_ret2; exact ⟨hBw, .inl ⟨Hw.out, some ⟨g9, 0, none⟩, c9, ptQ ts, by rw [ptQ_len]; rfl, HP9.out.rdq, Hfin.out, by rw [ptQ_len]; exact hc9, HP9.out.cap_le⟩⟩
end Go.Proofs.YtagcbnpahgfgmaaGreat
