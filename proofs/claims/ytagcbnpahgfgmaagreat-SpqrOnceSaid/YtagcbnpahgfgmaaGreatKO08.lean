/- Facts that the claim rests on, part 9. -/
import Derived.Test.YtagcbnpahgfgmaaGreatKO07
namespace Go.Proofs.YtagcbnpahgfgmaaGreat
open Go Go.RowKit
set_option maxHeartbeats 1000000 in
theorem asks_walk (cb db gc gd n j : Nat) (cut : Nat → Bool) (dir : Nat → Nat) (t : Bool) (w : World) (hc : w.cell? ⟨cb, 0, none⟩ = some (.slice (some ⟨gc, 0, none⟩) n n)) (hd : w.cell? ⟨db, 0, none⟩ = some (.slice (some ⟨gd, 0, none⟩) n n))
  (hrc : Row w gc 4 1 n (rowB n cut)) (hrd : Row w gd 3 1 n (rowN n dir)) (hj : j < n) (ht : (cut j || decide (1 < dir j)) = t) :
  Calls Tryz.prog 88 #[.int .i64 j, .pointer (some ⟨cb, 0, none⟩), .pointer (some ⟨db, 0, none⟩)] w fun e w' => e = .returned (.bool t) ∧ w = w' := by
 have c1 := hrc.atB hj
 have c2 := hrd.atN hj
 cases hcj : cut j with
 | true =>
  rw [hcj, Bool.true_or] at ht
  rw [hcj] at c1
  subst ht
  clear hcj
  go_enter Tryz.func88, Tryz.ntmps88
  go_wp2_with fail
  go_ret
  exact ⟨rfl, rfl⟩
 | false =>
  rw [hcj, Bool.false_or] at ht
  rw [hcj] at c1
  obtain ⟨d, hd0⟩ : ∃ d, d = dir j := ⟨_, rfl⟩
  rw [← hd0] at ht c2
  clear hcj hd0
  cases t with
  | true =>
   have q : 1 < d := by simpa using ht
   have q1 : decide ((1 : Int) < (d : Int)) = true := by simp; omega
   clear q; go_enter Tryz.func88, Tryz.ntmps88; go_wp2_with fail; go_ret; exact ⟨rfl, rfl⟩
  | false =>
   have q : ¬ 1 < d := by simpa using ht
   have q1 : decide ((1 : Int) < (d : Int)) = false := by simp; omega
   clear q; go_enter Tryz.func88, Tryz.ntmps88; go_wp2_with fail; go_ret; exact ⟨rfl, rfl⟩
theorem count_step (l : List Nat) (m : Nat) (h : m < l.length) : upd (fun u => (l.take m).count u) l[m] ((l.take m).count l[m] + 1) = fun u => (l.take (m + 1)).count u := by
 funext u
 rw [List.take_succ_eq_append_getElem h, List.count_append]
 unfold upd
 by_cases e : u = l[m]
 · rw [if_pos e, e]; simp
 ·
  rw [if_neg e]
  have : List.count u [l[m]] = 0 := by rw [List.count_eq_zero]; simpa using e
  show List.count u (l.take m) = List.count u (l.take m) + List.count u [l[m]]
  omega
set_option maxRecDepth 100000 in
set_option maxHeartbeats 8000000 in
theorem first_walk (a : Option Addr) (cap : Nat) (ls : List Lk) (w : World) (hr : RdL w a ls) (hcap : ls.length ≤ 9223372036854775807) :
  Calls Tryz.prog 59 #[.slice a ls.length cap] w (RetF w (firstL ls)) := by
 cases h2 : twoL ls with
 | false =>
  have hc := first_no h2
  have H2 := Lib.hid h2; have Hc := Lib.hid hc; clear h2 hc
  go_enter Tryz.func59, Tryz.ntmps59
  go_wp2_with fail
  go_step3
  go_wp2_with fail
  refine (two_walk a cap ls _ hr hcap).mono ?_
  rw [H2.out]
  rintro e w1 ⟨rfl, hb1⟩
  go_wp2_with fail
  rw [Hc.out]
  try rw [Exit.noGoto_ret]
  exact bodyPost_ret (v := .tuple #[.int .i64 0, .int .i64 0, .bool false, .int .i64 130]) (by simp [results, Tryz.results59, go_sem]) rfl ⟨rfl, hb1⟩
 | true =>
  have hR := two_right h2
  have hn := hR.1
  obtain ⟨vs, hvs⟩ : ∃ vs, vs = vertsL ls := ⟨_, rfl⟩
  have hvl : vs.length ≤ 2000 := by rw [hvs]; have := vertsL_length ls; omega
  have hv2 : 2 ≤ vs.length := by rw [hvs]; exact two_verts h2
  have Hvs := Lib.hid hvs; have H2 := Lib.hid h2; have HR := Lib.hid hR; clear hvs h2 hR
  have hmi := run_make_row' (P := Tryz.prog) 33 3 (.int .i64 0) 8 Tryz.underlying33 int_info rfl .i64 .i64 vs.length (by omega) (by omega)
  go_enter Tryz.func59, Tryz.ntmps59
  go_wp2_with fail
  go_step3
  go_wp2_with fail
  refine (two_walk a cap ls _ hr hcap).mono ?_
  rw [H2.out]
  rintro e w1 ⟨rfl, hb1⟩
  go_wp2_with fail
  refine (verts_walk a cap ls _ (hr.below hb1) (by omega)).mono ?_
  rw [← Hvs.out]
  rintro e w2 ⟨av, cv, rfl, hrv, _, hvc, hvm, hb2⟩
  have hB2 := bl_trans hb1 hb2
  have hr2 := hr.below hB2
  clear hb1 hb2 hr
  by_cases hs : vs.length = 2
  ·
   have q0 : ((vs.length : Int) == 2) = true := by rw [hs]; rfl
   have q0' : (vs.length == 2) = true := by rw [hs]; rfl
   have hps := pair_small HR.out (by rw [← Hvs.out]; exact hs); by_cases h4 : ls.length < 4
   ·
    have q1 : decide ((ls.length : Int) < 4) = true := by simp; omega
    have hfin : firstL ls = (0, 0, false, 0) := first_none H2.out fun i k hik hk => by
     rw [← Hvs.out, hs] at hk; obtain rfl : k = 1 := by omega
     obtain rfl : i = 0 := by omega
     rw [hps]; simp; omega
    have Hfin := Lib.hid hfin; clear hfin hps hs h4; go_wp2_with fail; rw [Hfin.out]; try rw [Exit.noGoto_ret]
    exact bodyPost_ret (v := .tuple #[.int .i64 0, .int .i64 0, .bool false, .int .i64 0]) (by simp [results, Tryz.results59, go_sem]) rfl ⟨rfl, hB2⟩
   ·
    have q1 : decide ((ls.length : Int) < 4) = false := by simp; omega
    obtain ⟨b, o, rfl, c0⟩ := hrv.at 0 (by omega); obtain ⟨b', o', e', c1⟩ := hrv.at 1 (by omega); cases e'; obtain ⟨x, hx⟩ : ∃ x, vs[0]'(by omega) = x := ⟨_, rfl⟩
    obtain ⟨y, hy⟩ : ∃ x, vs[1]'(by omega) = x := ⟨_, rfl⟩
    rw [hx] at c0; rw [hy] at c1; simp only [Nat.add_zero] at c0; have hfin : firstL ls = (x, y, true, 0) := by
     have h1 := first_at H2.out (i := 0) (k := 1) ⟨by omega, by rw [← Hvs.out]; omega, by rw [hps]; simp; omega, fun k' h1 h2 => absurd h1 (by omega), fun i' k' h1 => absurd h1 (by omega)⟩; rw [h1, ← Hvs.out, getD_at (by omega), getD_at (by omega), hx, hy]
    have l0 : (0 : Int) < (vs.length : Int) := by omega
    have l1 : (1 : Int) < (vs.length : Int) := by omega
    have Hfin := Lib.hid hfin; clear hfin hps hx hy hs h4; go_wp2_with fail; go_quiet (fail)
    go_wp2_with fail; rw [Hfin.out]; try rw [Exit.noGoto_ret]
    exact bodyPost_ret (v := .tuple #[.int .i64 x, .int .i64 y, .bool true, .int .i64 0]) (by simp [results, Tryz.results59, go_sem]) rfl ⟨rfl, below_drewN hB2 _⟩
  ·
   have h3 : 3 ≤ vs.length := by omega
   have q0 : ((vs.length : Int) == 2) = false := by simp only [beq_eq_false_iff_ne, ne_eq]; omega
   have q0' : (vs.length == 2) = false := by simpa using hs
   clear hs; go_wp2_with fail; refine (neighbours_walk a cap ls av cv vs _ hr2 HR.out Hvs.out hrv hvc).mono ?_; rintro e w3 ⟨G, rfl, hG, hGsz, hb3⟩; have hB3 := bl_trans hB2 hb3; have hrv3 := hrv.below hb3; clear hB2 hb3 hrv hr2; go_wp2_with fail; go_step3; go_wp2_with fail; go_loopg [8, 9, 40] vs.length (fun r av' bv' iv wj => ∃ i : Nat, i + r = vs.length ∧ iv = .int .i64 i ∧ av' = .int .i64 (-1) ∧ bv' = .int .i64 (-1) ∧ (∀ i' k', i' < i → i' < k' → k' < vs.length → pairAt ls i' k' = false) ∧ Below w3.heap.size w3 wj)
   case atStart => exact ⟨0, by omega, rfl, rfl, rfl, fun i' k' h => absurd h (by omega), bl_refl _⟩
   case round =>
    obtain ⟨i, hi, rfl, rfl, rfl, hall, hbi⟩ := hrel; have Hi := Lib.hid hi; have Hall := Lib.hid hall; clear hall; by_cases hil : i < vs.length
    ·
     clear hi; obtain ⟨gO, rfl⟩ : ∃ n : Nat, n = gk := ⟨_, rfl⟩
     obtain ⟨x, hx⟩ : ∃ x, vs[i] = x := ⟨_, rfl⟩
     have hok := HR.out.2.1; have hsy : ∀ a b, b ∈ nbN vs ls a → a ∈ nbN vs ls b := by rw [Hvs.out]; exact nbN_symm hok
     have hlt2 : ∀ v, v < vs.length → ∀ x ∈ nbN vs ls v, x < vs.length := fun v _ x hx => by
      rw [Hvs.out] at hx ⊢; exact (nbN_lt hok hx).1
     have hlen : ∀ v, v < vs.length → (nbN vs ls v).length ≤ 1000 := fun v _ => by have := nbN_len vs ls v; omega
     have hsum : restS vs.length (nbN vs ls) (fun _ => 0) ≤ 100000000 := by
      have h1 := restS_le hlen; have h2 : vs.length * 1000 ≤ 2000 * 1000 := Nat.mul_le_mul_right _ hvl; omega
     have hcuts := cuts_walk G vs.length (nbN vs ls) (i : Int) wr (hG.below hbi) hsy hlt2 (by omega) (fun v hv => by have := hlen v hv; omega) hsum (by omega) (by omega); have hli := hlen i hil; have hlti := hlt2 i hil; obtain ⟨au, cu, gci, gca⟩ := hG i hil; have Hlti := Lib.hid hlti; clear hok hsy hlt2 hlen hsum hlti; go_wp2_with fail; refine hcuts.mono ?_; rintro e w4 ⟨jn, cut, gc, rfl, hrc, hgc, hb4, hspec⟩; have hask : ∀ u y, vs[u]? = some y → i ≠ u → (cut u || decide (1 < (nbN vs ls i).count u)) = pairAt ls i u := fun u y hu hiu => by
      rw [Hvs.out] at hspec hu ⊢; have hxi : (vertsL ls)[i]? = some x := by rw [← Hvs.out, List.getElem?_eq_getElem hil, hx]
      have h1 := pair_ask H2.out (by rw [← Hvs.out]; exact h3) hxi hu hiu hspec; rw [h1]; unfold pairAt; have hil' := (List.getElem?_eq_some_iff.1 hxi).1; have hul' := (List.getElem?_eq_some_iff.1 hu).1; rw [getD_at hil', getD_at hul', (List.getElem?_eq_some_iff.1 hxi).2, (List.getElem?_eq_some_iff.1 hu).2]
     have Hask := Lib.hid hask; have hbi4 := bl_trans hbi hb4; have gci4 := keep_cell hbi4 gci; have gca4 := gca.below hbi4; have hgcl := hrc.lt; clear hask hspec hcuts hgc hb4 hbi gci; go_upto_region 15 with (fail)
     obtain ⟨cb, hcb⟩ : ∃ x, x = w4.heap.size := ⟨_, rfl⟩
     have hx0 : (w4.alloc (.cells #[.slice (some ⟨gc, 0, none⟩) vs.length vs.length] 78)).cell? ⟨cb, 0, none⟩ = some (.slice (some ⟨gc, 0, none⟩) vs.length vs.length) := cell_new1 hcb; have hsA : (w4.alloc (.cells #[.slice (some ⟨gc, 0, none⟩) vs.length vs.length] 78)).heap.size = w4.heap.size + 1 := by simp
     have hrow0 : Row ((w4.alloc (.cells #[.slice (some ⟨gc, 0, none⟩) vs.length vs.length] 78)).alloc (.cells (madeCells #[.int .i64 0] vs.length) 3)) (w4.heap.size + 1) 3 1 vs.length (rowN vs.length fun _ => 0) := by
      have := row_made (w4.alloc (.cells #[.slice (some ⟨gc, 0, none⟩) vs.length vs.length] 78)) (.int .i64 0) vs.length 3 (by unfold maxLen; omega); rwa [rowN_zero, hsA] at this
     have hbA1 := bl_alloc w4 (.cells #[.slice (some ⟨gc, 0, none⟩) vs.length vs.length] 78); generalize w4.alloc (.cells #[.slice (some ⟨gc, 0, none⟩) vs.length vs.length] 78) = w5 at hx0 hsA hrow0 hbA1 ⊢; have hbA2 := bl_alloc w5 (.cells (madeCells #[.int .i64 0] vs.length) 3); have hx1 := keep_cell hbA2 hx0; have hsB : (w5.alloc (.cells (madeCells #[.int .i64 0] vs.length) 3)).heap.size = w4.heap.size + 1 + 1 := by rw [← hsA]; simp
     generalize w5.alloc (.cells (madeCells #[.int .i64 0] vs.length) 3) = w6 at hx1 hsB hrow0 hbA2 ⊢; have hbA3 := bl_alloc w6 (.cells #[.slice (some ⟨w4.heap.size + 1, 0, none⟩) vs.length vs.length] 33); have hx2 := keep_cell hbA3 hx1; have hd2 : (w6.alloc (.cells #[.slice (some ⟨w4.heap.size + 1, 0, none⟩) vs.length vs.length] 33)).cell? ⟨w4.heap.size + 1 + 1, 0, none⟩ = some (.slice (some ⟨w4.heap.size + 1, 0, none⟩) vs.length vs.length) := cell_new1 hsB.symm; have hrow1 := hrow0.below hbA3 hrow0.lt; have hb6 : Below w4.heap.size w4 (w6.alloc (.cells #[.slice (some ⟨w4.heap.size + 1, 0, none⟩) vs.length vs.length] 33)) := bl_trans (bl_trans hbA1 hbA2) hbA3; generalize w6.alloc (.cells #[.slice (some ⟨w4.heap.size + 1, 0, none⟩) vs.length vs.length] 33) = w7 at hx2 hd2 hrow1 hb6 ⊢; clear hx0 hx1 hsA hsB hrow0 hbA1 hbA2 hbA3; obtain ⟨gd, hgd⟩ : ∃ x, x = w4.heap.size + 1 := ⟨_, rfl⟩
     obtain ⟨db, hdb⟩ : ∃ x, x = w4.heap.size + 1 + 1 := ⟨_, rfl⟩
     rw [← hdb] at hd2 ⊢; rw [← hgd] at hd2 hrow1 ⊢; rw [← hcb] at ⊢; have n1 : cb ≠ gd := by omega
     have n2 : db ≠ gd := by omega
     have n3 : w4.heap.size ≤ gd := by omega
     have n4 : gc ≠ gd := by omega
     have N1 := Lib.hid n1; have N2 := Lib.hid n2; have N4 := Lib.hid n4; clear hgd hdb hcb n1 n2 n4; have gci7 := keep_cell hb6 gci4; have hgN : ∀ (wj : World), Below w4.heap.size w4 wj → CellsAt wj au ((nbN vs ls i).map vN) := fun wj hwj => gca.below (bl_trans hbi4 hwj); have HgN := Lib.hid hgN; clear hgN gca4 gci4 gca; obtain ⟨L, hL⟩ : ∃ L, L = nbN vs ls i := ⟨_, rfl⟩
     rw [← hL] at gci7 hli HgN Hlti Hask; clear hL; go_wp2_with fail; go_loopg [57] L.length (fun r mv wj => ∃ m : Nat, m + r = L.length ∧ mv = .int .i64 m ∧ Row wj gd 3 1 vs.length (rowN vs.length fun u => (L.take m).count u) ∧ wj.cell? ⟨cb, 0, none⟩ = some (.slice (some ⟨gc, 0, none⟩) vs.length vs.length) ∧ wj.cell? ⟨db, 0, none⟩ = some (.slice (some ⟨gd, 0, none⟩) vs.length vs.length) ∧ Below w4.heap.size w4 wj)
     case atStart => exact ⟨0, by omega, rfl, by simpa using hrow1, hx2, hd2, hb6⟩
     case round =>
      clear hrow1 hx2 hd2 hb6 gci7; obtain ⟨m, hm, rfl, hrow, hx2, hd2, hb⟩ := hrel; have Hm := Lib.hid hm; by_cases hml : m < L.length
      ·
       clear hm; obtain ⟨bu, ou, eau, cu0⟩ := HgN.out wr hb m (vN L[m]) (by simp [hml]); subst eau; have hu := Hlti.out L[m] (List.getElem_mem hml); have hcs := count_step L m hml; obtain ⟨u, hue⟩ : ∃ u, u = L[m] := ⟨_, rfl⟩
       rw [← hue] at cu0 hu hcs; unfold vN at cu0; have c1 := hrow.atN hu; have f1 := hrow.frozen u; have hgl := hrow.lt; obtain ⟨d, hd⟩ : ∃ d, d = (L.take m).count u := ⟨_, rfl⟩
       have hdl : d ≤ 1000 := by rw [hd]; have h1 := List.count_le_length (a := u) (l := L.take m); rw [List.length_take] at h1; omega
       rw [← hd] at c1 hcs; have i1 : IntKind.i64.wrap ((d : Int) + 1) = (d : Int) + 1 := IntWalk.i64_in _ (by omega); have hrow2 : Row (wr.setCell ⟨gd, u, none⟩ (.int .i64 ((d : Int) + 1))) gd 3 1 vs.length (rowN vs.length fun u => (L.take (m + 1)).count u) := by
        have := hrow.set u (.int .i64 ((d : Int) + 1)); rw [show (Value.int .i64 ((d : Int) + 1)) = vN (d + 1) by unfold vN; simp, rowN_set, hcs] at this; rw [show (Value.int .i64 ((d : Int) + 1)) = vN (d + 1) by unfold vN; simp]; exact this
       have hx3 : (wr.setCell ⟨gd, u, none⟩ (.int .i64 ((d : Int) + 1))).cell? ⟨cb, 0, none⟩ = some (.slice (some ⟨gc, 0, none⟩) vs.length vs.length) := (World.cell?_setCell_far wr ⟨gd, u, none⟩ ⟨cb, 0, none⟩ _ (fun e => N1.out e.symm)).trans hx2; have hd3 : (wr.setCell ⟨gd, u, none⟩ (.int .i64 ((d : Int) + 1))).cell? ⟨db, 0, none⟩ = some (.slice (some ⟨gd, 0, none⟩) vs.length vs.length) := (World.cell?_setCell_far wr ⟨gd, u, none⟩ ⟨db, 0, none⟩ _ (fun e => N2.out e.symm)).trans hd2; have hb3 : Below w4.heap.size w4 (wr.setCell ⟨gd, u, none⟩ (.int .i64 ((d : Int) + 1))) := hb.setCell n3 _; have Hrow2 := Lib.hid hrow2; have Hx3 := Lib.hid hx3; have Hd3 := Lib.hid hd3; clear hcs hd hue hrow2 hx3 hd3 hrow hx2; go_wp2_with fail; go_roundg (gk - 1)
       case measure => have := Hm.out; omega
       case rel => exact ⟨m + 1, by have := Hm.out; omega, by go_num, Hrow2.out, Hx3.out, Hd3.out, hb3⟩
      ·
       have hmn : m = L.length := by omega
       subst hmn; rw [List.take_length] at hrow; clear hm; have hrcE := hrc.below hb hgcl; have hrvE := hrv3.below (bl_trans hbi4 hb); have hbE := bl_trans hbi4 hb; have hbW := bl_trans hB3 hbE; obtain ⟨wE, rfl⟩ : ∃ wo : World, wo = wr := ⟨_, rfl⟩
       have hasks := fun (j : Nat) (t : Bool) (hj : j < vs.length) (ht : (cut j || decide (1 < L.count j)) = t) => asks_walk cb db gc gd vs.length j cut (fun u => L.count u) t wE hx2 hd2 hrcE hrow hj ht; have Hasks := Lib.hid hasks; clear hasks hrcE hrow hx2 hd2 hb; go_wp2_with fail; go_loopg [8, 9, 17] (vs.length - (i + 1)) (fun r a8 b9 kv wj => ∃ k : Nat, k + r = vs.length ∧ i < k ∧ kv = .int .i64 k ∧ a8 = .int .i64 (-1) ∧ b9 = .int .i64 (-1) ∧ (∀ k', i < k' → k' < k → pairAt ls i k' = false) ∧ wE = wj)
       case atStart => exact ⟨i + 1, by omega, by omega, by go_num, rfl, rfl, fun k' h1 h2 => absurd h2 (by omega), rfl⟩
       case round =>
        obtain ⟨k, hk, hik, rfl, rfl, rfl, hall2, rfl⟩ := hrel; have Hk := Lib.hid hk; have Hall2 := Lib.hid hall2; clear hall2; by_cases hkl : k < vs.length
        ·
         clear hk; obtain ⟨b, o, eav, c0⟩ := hrvE.at i hil; subst eav; obtain ⟨b', o', e', c1⟩ := hrvE.at k hkl; cases e'; obtain ⟨y, hy⟩ : ∃ y, vs[k] = y := ⟨_, rfl⟩
         rw [hx] at c0; rw [hy] at c1; have hak := Hask.out k y (by rw [List.getElem?_eq_getElem hkl, hy]) (by omega); obtain ⟨t, ht⟩ : ∃ t, t = pairAt ls i k := ⟨_, rfl⟩
         rw [← ht] at hak; have hcall := Hasks.out k t hkl hak; have Ht := Lib.hid ht; have Hy := Lib.hid hy; have Hcall := Lib.hid hcall; have Hx := Lib.hid hx; clear ht hy hak hcall; go_wp2_with fail; refine Hcall.out.mono ?_; rintro e w' ⟨rfl, rfl⟩; cases t with
         | false =>
          have hnx : ∀ k', i < k' → k' < k + 1 → pairAt ls i k' = false := fun k' h1 h2 => by
           by_cases e : k' < k
           · exact Hall2.out k' h1 e
           ·
            obtain rfl : k' = k := by omega
            exact Ht.out.symm
          have Hnx := Lib.hid hnx; clear hnx; go_wp2_with fail; go_roundg (gk - 1)
          case measure => have := Hk.out; omega
          case rel => exact ⟨k + 1, by have := Hk.out; omega, by omega, by go_num, rfl, rfl, Hnx.out, rfl⟩
         | true =>
          have hfin : firstL ls = (x, y, true, 0) := by
           have h1 := first_at H2.out (i := i) (k := k) ⟨hik, by rw [← Hvs.out]; exact hkl, Ht.out.symm, Hall2.out, by rw [← Hvs.out]; exact Hall.out⟩; rw [h1, ← Hvs.out, getD_at hil, getD_at hkl, Hx.out, Hy.out]
          have hx0 : 0 ≤ x := by
           have hxm : x ∈ vertsL ls := by rw [← Hvs.out, ← Hx.out]; exact List.getElem_mem _
           obtain ⟨q, hq, e⟩ := (mem_vertsL ls x).1 hxm; have ok := HR.out.2.1 q hq; unfold OkL at ok; rcases e with rfl | rfl <;> omega
          have q9 : decide (x < 0) = false := by simp; omega
          have Hfin := Lib.hid hfin; clear hfin hx; go_wp2_with fail; go_quiet (fail)
          go_wp2_with fail; rw [Hfin.out]; try rw [Exit.noGoto_ret]
          exact bodyPost_ret (v := .tuple #[.int .i64 x, .int .i64 y, .bool true, .int .i64 0]) (by simp [results, Tryz.results59, go_sem]) rfl ⟨rfl, below_drewN hbW _⟩
        ·
         have hkn : k = vs.length := by omega
         subst hkn; have hnx : ∀ i' k', i' < i + 1 → i' < k' → k' < vs.length → pairAt ls i' k' = false := fun i' k' h1 h2 h3 => by
          by_cases e : i' < i
          · exact Hall.out i' k' e h2 h3
          ·
           obtain rfl : i' = i := by omega
           exact Hall2.out k' h2 h3
         have Hnx := Lib.hid hnx; clear hnx hk; go_wp2_with fail; go_roundg (gO - 1)
         case measure => have := Hi.out; omega
         case rel => exact ⟨i + 1, by have := Hi.out; omega, by go_num, rfl, rfl, Hnx.out, hbE⟩
    ·
     have hin : i = vs.length := by omega
     subst hin; have hfin : firstL ls = (0, 0, false, 0) := first_none H2.out fun i' k' h1 h4 => by
      rw [← Hvs.out] at h4; exact Hall.out i' k' (by omega) h1 h4
     have Hfin := Lib.hid hfin; clear hfin hi; go_wp2_with fail; rw [Hfin.out]; try rw [Exit.noGoto_ret]
     exact bodyPost_ret (v := .tuple #[.int .i64 0, .int .i64 0, .bool false, .int .i64 0]) (by simp [results, Tryz.results59, go_sem]) rfl ⟨rfl, bl_trans hB3 hbi⟩
end Go.Proofs.YtagcbnpahgfgmaaGreat
namespace Go.Proofs.YtagcbnpahgfgmaaGreat
open Go Go.RowKit
def RetN (w : World) (z : Int) (e : Ending) (w' : World) : Prop := e = .returned (.int .i64 z) ∧ Below w.heap.size w w'
set_option maxRecDepth 100000 in
set_option maxHeartbeats 4000000 in
theorem kind_walk (a : Option Addr) (cap : Nat) (ls : List Lk) (w : World) (hr : RdL w a ls) (hcap : ls.length ≤ 9223372036854775807) :
  Calls Tryz.prog 21 #[.slice a ls.length cap] w (RetN w (kindL ls)) := by
 obtain ⟨z, hz⟩ : ∃ z, z = kindL ls := ⟨_, rfl⟩
 rw [← hz]
 unfold kindL at hz
 by_cases h3 : ls.length < 3
 ·
  have q1 : decide ((ls.length : Int) < 3) = true := by simp; omega
  rw [decide_eq_true h3] at hz
  simp at hz
  subst hz
  clear h3
  go_enter Tryz.func21, Tryz.ntmps21
  go_wp2_with fail
  go_ret
  exact ⟨rfl, bl_refl _⟩
 have q1 : decide ((ls.length : Int) < 3) = false := by simp; omega
 rw [decide_eq_false h3, Bool.false_or] at hz
 clear h3
 cases hj : joinedL ls with
 | false =>
  rw [hj] at hz
  simp at hz
  subst hz
  have Hj := Lib.hid hj; clear hj
  go_enter Tryz.func21, Tryz.ntmps21
  go_wp2_with fail
  refine (joined_walk a cap ls _ hr hcap).mono ?_
  rw [Hj.out]
  rintro e w1 ⟨rfl, hb1⟩
  go_wp2_with fail
  go_ret
  exact ⟨rfl, hb1⟩
 | true =>
  have hR := joinedR hj
  have hn := hR.1
  rw [hj] at hz
  simp only [Bool.not_true, Bool.false_eq_true, if_false] at hz
  obtain ⟨vs, hvs⟩ : ∃ vs, vs = vertsL ls := ⟨_, rfl⟩
  have hvl : vs.length ≤ 2000 := by rw [hvs]; have := vertsL_length ls; omega
  rw [← hvs] at hz
  obtain ⟨t, ht⟩ : ∃ t, t = allTwoL ls := ⟨_, rfl⟩
  obtain ⟨⟨p, q, pt, er⟩, hf⟩ : ∃ f, f = firstC ls := ⟨_, rfl⟩
  rw [← ht, ← hf] at hz
  simp only at hz
  have Hj := Lib.hid hj; have Hvs := Lib.hid hvs; have HR := Lib.hid hR; have Ht := Lib.hid ht; have Hf := Lib.hid hf; have Hz := Lib.hid hz
  clear hj hvs hR ht hf hz
  go_enter Tryz.func21, Tryz.ntmps21
  go_wp2_with fail
  refine (joined_walk a cap ls _ hr hcap).mono ?_
  rw [Hj.out]
  rintro e w1 ⟨rfl, hb1⟩
  have hr1 := hr.below hb1
  go_wp2_with fail
  refine (verts_walk a cap ls _ hr1 (by omega)).mono ?_
  rw [← Hvs.out]
  rintro e w2 ⟨av, cv, rfl, _, _, _, _, hb2⟩
  have hB2 := bl_trans hb1 hb2
  have hr2 := hr1.below hb2
  clear hb1 hb2 hr1
  by_cases h2 : vs.length = 2
  ·
   have hz := Hz.out; rw [if_pos h2] at hz; have k1 : ((vs.length : Int) == 2) = true := by simp; omega
   clear h2; subst hz; go_wp2_with fail; go_ret; exact ⟨rfl, hB2⟩
  have hz := Hz.out
  rw [if_neg h2] at hz
  have k1 : ((vs.length : Int) == 2) = false := by simp; omega
  have Hz2 := Lib.hid hz
  clear h2 hz
  go_wp2_with fail
  refine (allTwo_walk a cap ls _ hr2 HR.out).mono ?_
  rw [← Ht.out]
  rintro e w3 ⟨rfl, hb3⟩
  have hB3 := bl_trans hB2 hb3
  have hr3 := hr2.below hb3
  clear hB2 hb3 hr2
  cases t with
  | true =>
   have hz := Hz2.out; simp at hz; subst hz; go_wp2_with fail; go_ret; exact ⟨rfl, hB3⟩
  | false =>
   have hz := Hz2.out; simp only [Bool.false_eq_true, if_false] at hz; by_cases h4 : vs.length < 4
   ·
    have k2 : decide ((vs.length : Int) < 4) = true := by simp; omega
    rw [if_pos h4] at hz; subst hz; clear h4; go_wp2_with fail; go_ret; exact ⟨rfl, hB3⟩
   have k2 : decide ((vs.length : Int) < 4) = false := by simp; omega
   rw [if_neg h4] at hz; have Hz3 := Lib.hid hz; clear h4 hz; go_wp2_with fail; refine (first_walk a cap ls _ hr3 hcap).mono ?_; rw [first_c, ← Hf.out]; rintro e w4 ⟨rfl, hb4⟩; simp only; have hB4 := bl_trans hB3 hb4; clear hB3 hb4 hr3; by_cases he : er = 0
   ·
    have k3 : (er != 0) = false := by simpa using he
    have hz := Hz3.out; rw [decide_eq_false (by simpa using he)] at hz; simp only [Bool.false_or] at hz; clear he; cases pt with
    | true =>
     simp at hz; subst hz; go_wp2_with fail; go_ret; exact ⟨rfl, hB4⟩
    | false =>
     simp at hz; subst hz; go_wp2_with fail; go_ret; exact ⟨rfl, hB4⟩
   ·
    have k3 : (er != 0) = true := by simpa using he
    have hz := Hz3.out; rw [decide_eq_true (by simpa using he)] at hz; simp at hz; subst hz; clear he; go_wp2_with fail; go_ret; exact ⟨rfl, hB4⟩
end Go.Proofs.YtagcbnpahgfgmaaGreat
namespace Go.Proofs.YtagcbnpahgfgmaaGreat
open Go Go.RowKit
theorem swapped_cells (ls : List Lk) (k : Nat) (h : k < ls.length) : (ls.take (k + 1)).map swapL ++ ls.drop (k + 1) = ((ls.take k).map swapL ++ ls.drop k).set k (swapL ls[k]) := by
 rw [List.take_succ_eq_append_getElem h, List.map_append, List.append_assoc]
 have hl : ((ls.take k).map swapL).length = k := by simp; omega
 rw [List.set_append_right _ _ (by omega), hl, Nat.sub_self, List.drop_eq_getElem_cons h]
 rfl
theorem swapped_get (ls : List Lk) (k : Nat) (h : k < ls.length) : ((ls.take k).map swapL ++ ls.drop k)[k]? = some ls[k] := by
 have hl : ((ls.take k).map swapL).length = k := by simp; omega
 rw [List.getElem?_append_right (by omega), hl]
 simp
theorem swapped_len (ls : List Lk) (k : Nat) (h : k ≤ ls.length) : ((ls.take k).map swapL ++ ls.drop k).length = ls.length := by simp; omega
set_option maxHeartbeats 2000000 in
theorem sorted_walk (a : Option Addr) (cap : Nat) (ls : List Lk) (w : World) (hr : RdL w a ls) (hle : ls.length ≤ 100000) :
  Calls Tryz.prog 15 #[.slice a ls.length cap] w (RetLk w (sortL ls)) := by
 by_cases h0 : ls.length = 0
 ·
  obtain rfl := List.eq_nil_of_length_eq_zero h0
  go_enter Tryz.func15, Tryz.ntmps15
  go_wp2_with fail
  refine (clone_walk a cap [] _ hr (by simp)).mono ?_
  rintro e w1 ⟨v, rfl, hown, hnew, hb⟩
  obtain ⟨a1, c1, rfl, _⟩ := hown.read
  go_wp2_with fail
  refine wp_loop_rounds 1 ?_
  rw [rounds_succ]
  have hnone := fun w' => AnyF.slices_SortFunc_none Tryz.laySortL a1 c1 (.func (.func 48) #[] #[]) w'
  change ∀ w', Calls Tryz.prog 42 _ _ _ at hnone
  go_wp2_with fail
  refine (hnone _).mono ?_
  rintro e w' ⟨rfl, rfl⟩
  go_wp2_with fail
  go_ret
  exact ⟨_, rfl, hown, hnew, hb⟩
 ·
  go_enter Tryz.func15, Tryz.ntmps15
  go_wp2_with fail
  refine (clone_walk a cap ls _ hr (by omega)).mono ?_
  rintro e w1 ⟨v, rfl, hown, hnew, hb⟩
  rcases hown.2 with ⟨_, h1⟩ | ⟨g, cg, rfl, hcg, hrow⟩
  · exact absurd h1 h0
  have hg := hnew g rfl
  clear hown hnew hr
  go_wp2_with fail
  go_loopg [10] ls.length (fun r i wr => ∃ k : Nat, k + r = ls.length ∧ i = .int .i64 k ∧ Below w.heap.size w wr ∧ Row wr g 38 3 cg (lkCells ((ls.take k).map swapL ++ ls.drop k)))
  case atStart => exact ⟨0, by omega, rfl, hb, by simpa using hrow⟩
  case round =>
   obtain ⟨k, hk, rfl, hB, hrw⟩ := hrel; by_cases hlt : k < ls.length
   ·
    have hget := swapped_get ls k hlt; have hlen := swapped_len ls k (by omega); have hstep := swapped_cells ls k hlt; obtain ⟨⟨x, y, z⟩, hx⟩ : ∃ x : Lk, ls[k] = x := ⟨_, rfl⟩
    rw [hx] at hget hstep; obtain ⟨q, hq⟩ : ∃ q, q = (ls.take k).map swapL ++ ls.drop k := ⟨_, rfl⟩
    rw [← hq] at hget hlen hrw hstep; have hkq : k < q.length := by omega
    have hqk : q[k] = (x, y, z) := by rw [List.getElem?_eq_getElem hkq] at hget; exact Option.some.inj hget
    obtain ⟨b1, b2, b3⟩ := lkCells_get q k hkq; rw [hqk] at b1 b2 b3; have hcl : k * 3 + 2 < (lkCells q).length := by rw [lkCells_length]; omega
    have c0 : wr.cell? ⟨g, k * 3, none⟩ = some (.int .i64 x) := by rw [hrw.cell? _ (by omega), b1]
    have c1 : wr.cell? ⟨g, k * 3 + 1, none⟩ = some (.int .i64 y) := by rw [hrw.cell? _ (by omega), b2]
    have c2 : wr.cell? ⟨g, k * 3 + 2, none⟩ = some (.int .i64 z) := by rw [hrw.cell? _ (by omega), b3]
    have f0 := hrw.frozen (k * 3); have f1 := hrw.frozen (k * 3 + 1); have hgl := hrw.lt; have hset := lkCells_set q k hkq; rw [hqk] at hset; have Hk := Lib.hid hk; have Hstep := Lib.hid hstep; have Hset := Lib.hid hset; have Hqk := Lib.hid hqk; clear hk hstep hset hqk hget hq hx hlen b1 b2 b3 hb; by_cases hsw : y < x
    ·
     have e1 : swapL (x, y, z) = (y, x, z) := by simp [swapL, hsw]
     have E1 := Lib.hid e1; clear e1; go_wp2_with fail; go_region; go_wp2_with fail; go_roundg (gk - 1)
     case measure => have := Hk.out; omega
     case rel =>
      refine ⟨k + 1, by have := Hk.out; omega, by go_num, ?_, ?_⟩
      · exact (((hB.setCell (by simpa using hg) _).setCell (by simpa using hg) _).alloc (by have := hB.size; simpa using this) _).drew
      ·
       have h1 := (((hrw.set (k * 3) (.int .i64 y)).set (k * 3 + 1) (.int .i64 x)).alloc (.cells #[.int .i64 x, .int .i64 y, .int .i64 z] 38)).drew; rw [Hset.out] at h1; rw [Hstep.out, E1.out]; exact h1
    ·
     have e1 : swapL (x, y, z) = (x, y, z) := by simp [swapL, hsw]
     have E1 := Lib.hid e1; clear e1; go_wp2_with fail; go_roundg (gk - 1)
     case measure => have := Hk.out; omega
     case rel =>
      refine ⟨k + 1, by have := Hk.out; omega, by go_num, bl_trans hB (bl_alloc _ _), ?_⟩; have h1 := hrw.alloc (.cells #[.int .i64 x, .int .i64 y, .int .i64 z] 38); rw [Hstep.out, E1.out, show q.set k (x, y, z) = q by rw [← Hqk.out]; simp]; exact h1
   ·
    have hkl : k = ls.length := by omega
    subst hkl; rw [List.take_length, List.drop_length, List.append_nil] at hrw; have hsort := sortF_walk g cg (ls.map swapL) wr hrw (by simp; omega); rw [List.length_map, sortL_merge] at hsort; clear hrow hrw; go_wp2_with fail; refine hsort.mono ?_; rintro e w' ⟨rfl, hrow2, hgr⟩; have hb2 : Below w.heap.size w w' := hB.grown hgr (by have := hB.size; omega) (fun j hj => by cases hj; exact hg); go_wp2_with fail; go_ret; refine ⟨_, rfl, ?_, fun j hj => by cases hj; exact hg, hb2⟩; have h1 := hrow2.own (n := ls.length) (by rw [lkCells_length, sortL_length]) hcg; unfold OwnL; rw [sortL_length]; exact h1
end Go.Proofs.YtagcbnpahgfgmaaGreat
namespace Go.Proofs.YtagcbnpahgfgmaaGreat
open Go Go.RowKit
set_option maxHeartbeats 1000000 in
theorem cmp1_walk (x y : Lk) (w : World) :
  Calls Tryz.prog 78 #[.agg #[.int .i64 x.1, .int .i64 x.2.1, .int .i64 x.2.2], .agg #[.int .i64 y.1, .int .i64 y.2.1, .int .i64 y.2.2]] w (RetN w (cmpL x y)) := by
 have hpe := fun w => lk_eq x y w
 unfold lkV at hpe
 obtain ⟨x1, x2, x3⟩ := x
 obtain ⟨y1, y2, y3⟩ := y
 simp only at hpe ⊢
 have hgt : Tryz.prog.eqGuardType Tryz.prog.depth 38 = false := by kernel_rfl
 have hB := bl_trans (bl_alloc w (.cells #[.int .i64 x1, .int .i64 x2, .int .i64 x3] 38)) (bl_alloc _ (.cells #[.int .i64 y1, .int .i64 y2, .int .i64 y3] 38))
 obtain ⟨z, hz⟩ : ∃ z, z = cmpL (x1, x2, x3) (y1, y2, y3) := ⟨_, rfl⟩
 rw [← hz]
 by_cases he : ((x1, x2, x3) : Lk) = (y1, y2, y3)
 ·
  rw [decide_eq_true he] at hpe
  have h0 := cmpL_zero.2 he
  rw [← hz] at h0
  clear he hz
  subst h0
  go_enter Tryz.func78, Tryz.ntmps78
  go_wp2_with fail
  go_ret
  exact ⟨rfl, hB⟩
 ·
  rw [decide_eq_false he] at hpe
  unfold cmpL orI at hz
  simp only at hz
  by_cases h1 : x1 = y1
  ·
   have k1 : (x1 != y1) = false := by simpa using h1
   by_cases h2 : x2 = y2
   ·
    have k2 : (x2 != y2) = false := by simpa using h2
    have hc : z = cmpI x3 y3 := by
     rw [hz, if_pos (by unfold cmpI; rw [h1]; simp), if_pos (by unfold cmpI; rw [h2]; simp)]
    clear hz he; have Hc := Lib.hid hc; have H1 := Lib.hid h1; have H2 := Lib.hid h2; clear hc h1 h2; go_enter Tryz.func78, Tryz.ntmps78; go_wp2_with (go_at_call 79; refine (compare_any _ _ _).mono ?_; rintro e w' ⟨rfl, rfl⟩); go_ret; exact ⟨by rw [Hc.out] <;> rfl, hB⟩
   ·
    have k2 : (x2 != y2) = true := by simpa using h2
    have hc : z = cmpI x2 y2 := by
     rw [hz, if_pos (by unfold cmpI; rw [h1]; simp), if_neg (by unfold cmpI; split <;> (try split) <;> omega)]
    clear hz he; have Hc := Lib.hid hc; have H1 := Lib.hid h1; clear hc h1 h2; go_enter Tryz.func78, Tryz.ntmps78; go_wp2_with (go_at_call 79; refine (compare_any _ _ _).mono ?_; rintro e w' ⟨rfl, rfl⟩); go_ret; exact ⟨by rw [Hc.out] <;> rfl, hB⟩
  ·
   have k1 : (x1 != y1) = true := by simpa using h1
   have hc : z = cmpI x1 y1 := by
    rw [hz, if_neg (by unfold cmpI; split <;> (try split) <;> omega)]
   clear hz he; have Hc := Lib.hid hc; clear hc h1; go_enter Tryz.func78, Tryz.ntmps78; go_wp2_with (go_at_call 79; refine (compare_any _ _ _).mono ?_; rintro e w' ⟨rfl, rfl⟩); go_ret; exact ⟨by rw [Hc.out] <;> rfl, hB⟩
theorem cmpLs_at {x y : List Lk} {i : Nat} (hx : i < x.length) (hy : i < y.length) : cmpLs (x.drop i) (y.drop i) = if cmpL x[i] y[i] = 0 then cmpLs (x.drop (i + 1)) (y.drop (i + 1)) else cmpL x[i] y[i] := by
 rw [List.drop_eq_getElem_cons hx, List.drop_eq_getElem_cons hy]
 rfl
set_option maxRecDepth 100000 in
set_option maxHeartbeats 4000000 in
theorem compareF_walk (a b : Option Addr) (ca cb : Nat) (x y : List Lk) (w : World) (hx : RdL w a x) (hy : RdL w b y) (hxl : x.length ≤ 9223372036854775807) (hyl : y.length ≤ 9223372036854775807) :
  Calls Tryz.prog 77 #[.slice a x.length ca, .slice b y.length cb, .func (.func 78) #[] #[]] w (RetN w (cmpLs x y)) := by
 obtain ⟨z, hz⟩ : ∃ z, z = cmpLs x y := ⟨_, rfl⟩
 rw [← hz]
 have Hz := Lib.hid hz; clear hz
 go_enter Tryz.func77, Tryz.ntmps77
 go_wp2_with fail
 go_loopg [13] x.length (fun r iv wj => ∃ i : Nat, i + r = x.length ∧ i ≤ y.length ∧ iv = .int .i64 i ∧ cmpLs (x.drop i) (y.drop i) = cmpLs x y ∧ Below w.heap.size w wj)
 case atStart => exact ⟨0, by omega, by omega, rfl, rfl, bl_refl _⟩
 case round =>
  obtain ⟨i, hi, hiy, rfl, hst, hb⟩ := hrel
  have Hi := Lib.hid hi
  by_cases hil : i < x.length
  ·
   clear hi; have hst' := hst; obtain ⟨b1, o1, rfl, p0, p1, p2⟩ := (hx.below hb).at i hil; by_cases hly : i < y.length
   ·
    obtain ⟨b2, o2, rfl, q0, q1, q2⟩ := (hy.below hb).at i hly; rw [cmpLs_at hil hly] at hst; obtain ⟨⟨x1, x2, x3⟩, hxe⟩ : ∃ u : Lk, x[i] = u := ⟨_, rfl⟩
    obtain ⟨⟨y1, y2, y3⟩, hye⟩ : ∃ u : Lk, y[i] = u := ⟨_, rfl⟩
    rw [hxe] at p0 p1 p2 hst; rw [hye] at q0 q1 q2 hst; simp only at p0 p1 p2 q0 q1 q2; have g0 : decide ((y.length : Int) ≤ (i : Int)) = false := by simp; omega
    have g0' : decide (y.length ≤ i) = false := by simp; omega
    have hba := bl_alloc wr (.cells #[.int .i64 x1, .int .i64 x2, .int .i64 x3] 38); have q0' := keep_cell hba q0; have q1' := keep_cell hba q1; have q2' := keep_cell hba q2; have i2 : (i : Int) < (y.length : Int) := by omega
    have Hst := Lib.hid hst; obtain ⟨c, hc⟩ : ∃ c, c = cmpL (x1, x2, x3) (y1, y2, y3) := ⟨_, rfl⟩
    have Hc := Lib.hid hc; clear hxe hye hst hst' hba q0 q1 q2 hc; go_wp2_with fail; refine (cmp1_walk (x1, x2, x3) (y1, y2, y3) _).mono ?_; rw [← Hc.out]; rintro e w2 ⟨rfl, hb2⟩; have hB := bl_trans hb (bl_trans (bl_trans (bl_alloc _ _) (bl_alloc _ _)) hb2); by_cases h0 : c = 0
    ·
     have k0 : (c != 0) = false := by simpa using h0
     have hnx : cmpLs (x.drop (i + 1)) (y.drop (i + 1)) = cmpLs x y := by rw [← Hst.out, if_pos (by rw [← Hc.out]; exact h0)]
     have Hnx := Lib.hid hnx; clear h0 hnx; go_wp2_with fail; go_roundg (gk - 1)
     case measure => have := Hi.out; omega
     case rel => exact ⟨i + 1, by have := Hi.out; omega, by omega, by go_num, Hnx.out, hB⟩
    ·
     have k0 : (c != 0) = true := by simpa using h0
     have hfin : z = c := by rw [Hz.out, ← Hst.out, if_neg (by rw [← Hc.out]; exact h0), ← Hc.out]
     have Hfin := Lib.hid hfin; clear h0 hfin; go_wp2_with fail; go_ret; exact ⟨by rw [Hfin.out] <;> rfl, hB⟩
   ·
    have hiy2 : i = y.length := by omega
    subst hiy2; have hfin : z = 1 := by
     rw [Hz.out, ← hst', List.drop_eq_getElem_cons hil, List.drop_eq_nil_of_le (Nat.le_refl _)]; rfl
    subst hfin; obtain ⟨⟨x1, x2, x3⟩, hxe⟩ : ∃ u : Lk, x[y.length] = u := ⟨_, rfl⟩
    rw [hxe] at p0 p1 p2; simp only at p0 p1 p2; clear hst hst' hxe hly; go_wp2_with fail; go_ret; exact ⟨rfl, bl_trans hb (bl_alloc _ _)⟩
  ·
   have hin : i = x.length := by omega
   subst hin; clear hi; rw [List.drop_eq_nil_of_le (Nat.le_refl x.length)] at hst; by_cases hly : x.length < y.length
   ·
    have hfin : z = -1 := by
     rw [Hz.out, ← hst, List.drop_eq_getElem_cons hly]; rfl
    have k1 : decide ((x.length : Int) < (y.length : Int)) = true := by simp; omega
    have k2 : decide (x.length < y.length) = true := by simp; omega
    subst hfin; clear hst hly; go_wp2_with fail; go_ret; exact ⟨rfl, hb⟩
   ·
    have hfin : z = 0 := by
     rw [Hz.out, ← hst, List.drop_eq_nil_of_le (by omega)]; rfl
    have k1 : decide ((x.length : Int) < (y.length : Int)) = false := by simp; omega
    have k2 : decide (x.length < y.length) = false := by simp; omega
    subst hfin; clear hst hly; go_wp2_with fail; go_ret; exact ⟨rfl, hb⟩
theorem compareP_walk (a b : Option Addr) (ca cb : Nat) (x y : List Lk) (w : World) (hx : RdL w a x) (hy : RdL w b y) (hxl : x.length ≤ 9223372036854775807) (hyl : y.length ≤ 9223372036854775807) :
  Calls Tryz.prog 39 #[.slice a x.length ca, .slice b y.length cb] w (RetN w (cmpLs x y)) := by
 go_enter Tryz.func39, Tryz.ntmps39
 go_wp2_with fail
 refine (compareF_walk a b ca cb x y _ hx hy hxl hyl).mono ?_
 rintro e w1 ⟨rfl, hb1⟩
 go_wp2_with fail
 go_ret
 exact ⟨rfl, hb1⟩
end Go.Proofs.YtagcbnpahgfgmaaGreat
namespace Go.Proofs.YtagcbnpahgfgmaaGreat
open Go Go.RowKit
set_option maxRecDepth 100000 in
set_option maxHeartbeats 4000000 in
theorem aheadB_walk (a b : Option Addr) (ca cb : Nat) (ka kb : Int) (x y : List Lk) (w : World) (hx : RdL w a x) (hy : RdL w b y) (hxl : x.length ≤ 9223372036854775807) (hyl : y.length ≤ 9223372036854775807) :
  Calls Tryz.prog 50 #[.agg #[.int .i64 ka, .slice a x.length ca], .agg #[.int .i64 kb, .slice b y.length cb]] w (RetT w (decide (cmpLs x y ≤ 0))) := by
 obtain ⟨z, hz⟩ : ∃ z, z = decide (cmpLs x y ≤ 0) := ⟨_, rfl⟩
 rw [← hz]
 have Hz := Lib.hid hz; clear hz
 have hb1 := bl_alloc w (.cells #[.int .i64 ka, .slice a x.length ca] 49)
 have hb2 := bl_trans hb1 (bl_alloc _ (.cells #[.int .i64 kb, .slice b y.length cb] 49))
 have g1 : ((w.alloc (.cells #[.int .i64 ka, .slice a x.length ca] 49)).alloc (.cells #[.int .i64 kb, .slice b y.length cb] 49)).cell? ⟨w.heap.size, 1, none⟩ = some (.slice a x.length ca) :=
  keep_cell (bl_alloc _ _) (by simp)
 have g2 : ((w.alloc (.cells #[.int .i64 ka, .slice a x.length ca] 49)).alloc (.cells #[.int .i64 kb, .slice b y.length cb] 49)).cell? ⟨w.heap.size + 1, 1, none⟩ = some (.slice b y.length cb) := by
  have : (w.alloc (.cells #[.int .i64 ka, .slice a x.length ca] 49)).heap.size = w.heap.size + 1 := by simp
  rw [← this]; simp
 replace hx := hx.below hb2
 replace hy := hy.below hb2
 clear hb1
 have hgt : Tryz.prog.eqGuardType Tryz.prog.depth 38 = false := by kernel_rfl
 go_enter Tryz.func50, Tryz.ntmps50
 go_wp2_with fail
 generalize (w.alloc (.cells #[.int .i64 ka, .slice a x.length ca] 49)).alloc (.cells #[.int .i64 kb, .slice b y.length cb] 49) = wa at *
 go_loopg [5] x.length (fun r iv wj => ∃ i : Nat, i + r = x.length ∧ i ≤ y.length ∧ iv = .int .i64 i ∧ cmpLs (x.drop i) (y.drop i) = cmpLs x y ∧ Below wa.heap.size wa wj)
 case atStart => exact ⟨0, by omega, by omega, rfl, rfl, bl_refl _⟩
 case round =>
  obtain ⟨i, hi, hiy, rfl, hst, hb⟩ := hrel
  have Hi := Lib.hid hi
  have g1r := keep_cell hb g1
  have g2r := keep_cell hb g2
  by_cases hil : i < x.length
  ·
   clear hi; have hst' := hst; obtain ⟨b1, o1, rfl, p0, p1, p2⟩ := (hx.below hb).at i hil; by_cases hly : i < y.length
   ·
    obtain ⟨b2, o2, rfl, q0, q1, q2⟩ := (hy.below hb).at i hly; rw [cmpLs_at hil hly] at hst; obtain ⟨⟨x1, x2, x3⟩, hxe⟩ : ∃ u : Lk, x[i] = u := ⟨_, rfl⟩
    obtain ⟨⟨y1, y2, y3⟩, hye⟩ : ∃ u : Lk, y[i] = u := ⟨_, rfl⟩
    rw [hxe] at p0 p1 p2 hst; rw [hye] at q0 q1 q2 hst; simp only at p0 p1 p2 q0 q1 q2; have i1 : (i : Int) < (x.length : Int) := by omega
    have i2 : (i : Int) < (y.length : Int) := by omega
    have Hst := Lib.hid hst; have s1 : b1 < wr.heap.size := World.block_lt_of_cell? wr _ p0; have s2 : b2 < wr.heap.size := World.block_lt_of_cell? wr _ q0; have s3 : w.heap.size < wr.heap.size := World.block_lt_of_cell? wr _ g1r; have s4 : w.heap.size + 1 < wr.heap.size := World.block_lt_of_cell? wr _ g2r; have hpe := fun w => lk_eq (x1, x2, x3) (y1, y2, y3) w; unfold lkV at hpe; simp only at hpe; clear hst hst' hxe hye; by_cases he : ((x1, x2, x3) : Lk) = (y1, y2, y3)
    ·
     have hnx : cmpLs (x.drop (i + 1)) (y.drop (i + 1)) = cmpLs x y := by rw [← Hst.out, if_pos (cmpL_zero.2 he)]
     have Hnx := Lib.hid hnx; rw [decide_eq_true he] at hpe; clear hnx he; go_wp2_with fail; go_region; all_goals
      go_wp2_with fail; go_roundg (gk - 1)
      case measure => have := Hi.out; omega
      case rel => exact ⟨i + 1, by have := Hi.out; omega, by omega, by go_num, Hnx.out, (bl_trans hb (bl_trans (bl_alloc _ _) (bl_alloc _ _))).drew⟩
    ·
     rw [decide_eq_false he] at hpe; have hzc : z = decide (cmpL (x1, x2, x3) (y1, y2, y3) ≤ 0) := by rw [Hz.out, ← Hst.out, if_neg (fun h => he (cmpL_zero.1 h))]
     unfold cmpL orI at hzc; simp only at hzc; by_cases h1 : x1 = y1
     ·
      have k1 : (x1 != y1) = false := by simpa using h1
      by_cases h2 : x2 = y2
      ·
       have k2 : (x2 != y2) = false := by simpa using h2
       have hc : decide (x3 < y3) = z := by
        rw [hzc, if_pos (by unfold cmpI; rw [h1]; simp), if_pos (by unfold cmpI; rw [h2]; simp)]; have h3 : x3 ≠ y3 := fun h3 => he (by rw [h1, h2, h3]); unfold cmpI; rw [decide_eq_decide]; repeat' split
        all_goals omega
       clear hzc he h1 h2; have Hc := Lib.hid hc; clear hc; go_wp2_with fail; go_region; all_goals
        go_wp2_with fail; go_ret; exact ⟨by rw [Hc.out] <;> rfl, (bl_trans hb2 (bl_trans hb (bl_trans (bl_alloc _ _) (bl_alloc _ _)))).drew⟩
      ·
       have k2 : (x2 != y2) = true := by simpa using h2
       have hc : decide (x2 < y2) = z := by
        rw [hzc, if_pos (by unfold cmpI; rw [h1]; simp), if_neg (by unfold cmpI; split <;> (try split) <;> omega)]; unfold cmpI; rw [decide_eq_decide]; repeat' split
        all_goals omega
       clear hzc he h1 h2; have Hc := Lib.hid hc; clear hc; go_wp2_with fail; go_region; all_goals
        go_wp2_with fail; go_ret; exact ⟨by rw [Hc.out] <;> rfl, (bl_trans hb2 (bl_trans hb (bl_trans (bl_alloc _ _) (bl_alloc _ _)))).drew⟩
     ·
      have k1 : (x1 != y1) = true := by simpa using h1
      have hc : decide (x1 < y1) = z := by
       rw [hzc, if_neg (by unfold cmpI; split <;> (try split) <;> omega)]; unfold cmpI; rw [decide_eq_decide]; repeat' split
       all_goals omega
      clear hzc he h1; have Hc := Lib.hid hc; clear hc; go_wp2_with fail; go_region; all_goals
       go_wp2_with fail; go_ret; exact ⟨by rw [Hc.out] <;> rfl, (bl_trans hb2 (bl_trans hb (bl_trans (bl_alloc _ _) (bl_alloc _ _)))).drew⟩
   ·
    have hiy2 : i = y.length := by omega
    subst hiy2; have hfin : z = false := by
     rw [Hz.out, ← hst', List.drop_eq_getElem_cons hil, List.drop_eq_nil_of_le (Nat.le_refl _)]; rfl
    subst hfin; have k1 : decide ((x.length : Int) ≤ (y.length : Int)) = false := by simp; omega
    have k2 : decide (x.length ≤ y.length) = false := by simp; omega
    clear hst hst' hly; go_wp2_with fail; go_ret; exact ⟨rfl, bl_trans hb2 hb⟩
  ·
   have hin : i = x.length := by omega
   subst hin; clear hi; rw [List.drop_eq_nil_of_le (Nat.le_refl x.length)] at hst; have hfin : z = true := by
    rw [Hz.out, ← hst]; cases (y.drop x.length) <;> rfl
   subst hfin; have k1 : decide ((x.length : Int) ≤ (y.length : Int)) = true := by simp; omega
   have k2 : decide (x.length ≤ y.length) = true := by simp; omega
   clear hst; go_wp2_with fail; go_ret; exact ⟨rfl, bl_trans hb2 hb⟩
end Go.Proofs.YtagcbnpahgfgmaaGreat
namespace Go.Proofs.YtagcbnpahgfgmaaGreat
open Go Go.RowKit
theorem row_of_owns {w : World} {base : Nat} {e : TypeId} {s : Nat} {v : Value} {n : Nat} {vs : List Value} (h : w.ownsRow base e s v n vs) (h0 : 0 < n) :
  ∃ g cap, v = .slice (some ⟨g, 0, none⟩) n cap ∧ Row w g e s cap vs ∧ n ≤ cap ∧ base ≤ g := by
 obtain ⟨h1, ⟨_, h2⟩ | ⟨g, cap, cur, rfl, hb, hg, hc, hm, hs, ht⟩⟩ := h
 · omega
 · exact ⟨g, cap, rfl, ⟨cur, hg, hs, by rw [h1]; exact Nat.mul_le_mul_right _ hc, hm, by rw [h1]; exact ht⟩, hc, hb⟩
section
variable {P : Program} (w : World)
theorem run_append_full (t ty e : TypeId) (i : TypeInfo) (z : Value) (s bytes : Nat) (ht : P.underlying t = some (.slice e)) (hi : P.info? e = some i) (hz : i.zero = some z)
  (hsize : i.size = s) (hby : i.bytes = bytes) (hzs : z.cells.size = s) (hs0 : 0 < s)
  (ao : Option Addr) (n cap : Nat) (olds : List Value) (hnone : ao = none → n = 0 ∧ cap = 0) (hlo : olds.length = n * s) (holds : ∀ b, ao = some b → ∀ j u, olds[j]? = some u → w.cell? (b.add j) = some u)
  (a : Addr) (m c : Nat) (news : List Value) (hl : news.length = m * s) (hnews : ∀ j u, news[j]? = some u → w.cell? (a.add j) = some u) (h1 : ∀ u ∈ news, u.oneCell' = true)
  (hfull : cap < n + m) (h63 : n + m ≤ maxLen) (hbytes : (n + m) * bytes ≤ 140737488355328) :
  ∃ g' cap' w', (Builtin.append_ #[t, t] ty #[.slice ao n cap, .slice (some a) m c]).run P w = .ok (.slice (some ⟨g', 0, none⟩) (n + m) cap') w' ∧
   Row w' g' e s cap' (olds ++ news) ∧ n + m ≤ cap' ∧ w.grownBy w' none ∧ w.heap.size ≤ g' := by
 cases ao with
 | some b =>
  obtain ⟨v', w', hrun, r1, r2⟩ := run_append_arg_grows (P := P) w t ty e i z s bytes ht hi hz hsize hby hzs hs0 b n cap olds hlo (holds b rfl) a m c news hl hnews hfull h63 hbytes
  obtain ⟨g, cap', rfl, hr, hc, hb⟩ := row_of_owns r1 (by omega)
  exact ⟨g, cap', w', hrun, hr, hc, r2, hb⟩
 | none =>
  obtain ⟨rfl, rfl⟩ := hnone rfl
  obtain rfl : olds = [] := List.eq_nil_of_length_eq_zero (by simpa using hlo)
  obtain ⟨v', w', hrun, r1, r2, _⟩ := run_append_own (P := P) w w.heap.size t ty e i z s bytes ht hi hz hsize hby hzs hs0 (.slice none 0 0) 0 [] (World.ownsRow_nil w _ e s) a m c news hl hnews h1 h63 hbytes (Nat.le_refl _)
  obtain ⟨g, cap', rfl, hr, hc, hb⟩ := row_of_owns r1 (by omega)
  exact ⟨g, cap', w', hrun, hr, hc, r2, hb⟩
theorem run_append_idleG (t ty e : TypeId) (i : TypeInfo) (ht : P.underlying t = some (.slice e)) (hi : P.info? e = some i) (ao bo : Option Addr) (n cap c : Nat) (hnc : n ≤ cap) :
  (Builtin.append_ #[t, t] ty #[.slice ao n cap, .slice bo 0 c]).run P w = .ok (.slice ao n cap) w := by
 cases bo with
 | none => cases ao <;> simp [Builtin.append_, run_underlying ht, sizeOf, typeInfo, hi, Builtin.lenOf, Builtin.firstCells, hnc, storeCells]
 | some b =>
  have hfc := run_firstCells_some (P := P) w i.size 0 b 0 c [] (by simp) (fun j u h => by simp at h)
  cases ao <;> simp [Builtin.append_, run_underlying ht, sizeOf, typeInfo, hi, Builtin.lenOf, hfc, hnc, storeCells]
end
theorem step_append_full {P : Program} {w : World} {ops : Array Oper} {o : Oper} {a : Act} {K : Act → World → Prop} {Q : Exit → Act → World → Prop} {E : Prop} (hgd : o.guard = none) (sl x : Operand) (t : TypeId)
  (ho : o.op = .call { callee := .builtin .append, args := #[sl, x], argTypes := #[t, t] })
  (e : TypeId) (z : Value) (s bytes : Nat) (ht : P.underlying t = some (.slice e)) (hinfo : (P.info? e).map (fun i => (i.zero, i.size, i.bytes)) = some (some z, s, bytes)) (hzs : z.cells.size = s) (hs0 : 0 < s)
  (ao : Option Addr) (n cap : Nat) (olds : List Value) (hs : a.eval sl = .slice ao n cap) (hnone : ao = none → n = 0 ∧ cap = 0) (hlo : olds.length = n * s) (holds : ∀ b, ao = some b → ∀ j u, olds[j]? = some u → w.cell? (b.add j) = some u)
  (ad : Addr) (m c : Nat) (news : List Value) (hx : a.eval x = .slice (some ad) m c) (hl : news.length = m * s) (hnews : ∀ j u, news[j]? = some u → w.cell? (ad.add j) = some u) (h1 : ∀ u ∈ news, u.oneCell' = true)
  (hfull : cap < n + m) (h63 : n + m ≤ maxLen) (hbytes : (n + m) * bytes ≤ 140737488355328)
  (h : ∀ g' cap' w', Row w' g' e s cap' (olds ++ news) → n + m ≤ cap' → w.grownBy w' none → w.heap.size ≤ g' → K (a.put o.dst (.slice (some ⟨g', 0, none⟩) (n + m) cap')) w') :
  if Region.wanted o (yielded ops a.tmps) = true then Oper.wp P o a w K Q else E := by
 rw [if_pos (by simp [Region.wanted, hgd])]
 obtain ⟨i, hi, hz, hsize, hby⟩ := info_parts hinfo
 obtain ⟨g', cap', w', hr, h2, h3, h4, h5⟩ := run_append_full (P := P) w t o.type e i z s bytes ht hi hz hsize hby hzs hs0 ao n cap olds hnone hlo holds ad m c news hl hnews h1 hfull h63 hbytes
 unfold Oper.wp execOp
 simp only [ho, resolve, invoke, builtin, Sem.run_bind, Sem.run_pure, Result.andThen_ok, List.map_toArray, List.map_cons, List.map_nil, hs, hx, hr]
 exact h g' cap' w' h2 h3 h4 h5
theorem step_append_idleG {P : Program} {w : World} {ops : Array Oper} {o : Oper} {a : Act} {K : Act → World → Prop} {Q : Exit → Act → World → Prop} {E : Prop} (hgd : o.guard = none) (sl x : Operand) (t : TypeId)
  (ho : o.op = .call { callee := .builtin .append, args := #[sl, x], argTypes := #[t, t] })
  (e : TypeId) (z : Value) (s bytes : Nat) (ht : P.underlying t = some (.slice e)) (hinfo : (P.info? e).map (fun i => (i.zero, i.size, i.bytes)) = some (some z, s, bytes))
  (ao bo : Option Addr) (n cap c : Nat) (hs : a.eval sl = .slice ao n cap) (hx : a.eval x = .slice bo 0 c) (hnc : n ≤ cap)
  (h : K (a.put o.dst (.slice ao n cap)) w) :
  if Region.wanted o (yielded ops a.tmps) = true then Oper.wp P o a w K Q else E := by
 rw [if_pos (by simp [Region.wanted, hgd])]
 obtain ⟨i, hi, _, _, _⟩ := info_parts hinfo
 have hr := run_append_idleG (P := P) w t o.type e i ht hi ao bo n cap c hnc
 unfold Oper.wp execOp
 simp only [ho, resolve, invoke, builtin, Sem.run_bind, Sem.run_pure, Result.andThen_ok, List.map_toArray, List.map_cons, List.map_nil, hs, hx, hr]
 exact h
def fromG (ao : Option Addr) (co k s : Nat) : Option Addr := if co = k then ao else ao.map (·.add (k * s))
section
variable {P : Program} (t : TypeId) (s : Nat) (hu : P.underlying t = some (.slice (P.elem t))) (hs : ∀ w, (sizeOf (P.elem t)).run P w = .ok s w)
include hu hs
theorem run_cutG (ao : Option Addr) (n co k : Nat) (hk : k ≤ co) (w : World) : (Instr.slice t (.slice ao n co) none (some (.int .i64 k)) (some (.int .i64 k))).run P w = .ok (.slice ao k k) w := by
 rw [run_slice_hm w t ao n co hu .i64 .i64 k k (by omega) (by omega) (by omega), hs]
 unfold sliced
 simp only [Result.andThen, Int.toNat_natCast]
 cases ao with
 | none => simp
 | some a => simp [Addr.add]
theorem run_fromG (ao : Option Addr) (n co k : Nat) (hk : k ≤ n) (w : World) : (Instr.slice t (.slice ao n co) (some (.int .i64 k)) none none).run P w = .ok (.slice (fromG ao co k s) (n - k) (co - k)) w := by
 rw [run_slice_l w t ao n co hu .i64 k (by omega) (by omega), hs]
 unfold sliced fromG
 simp only [Result.andThen, Int.toNat_natCast]
end
end Go.Proofs.YtagcbnpahgfgmaaGreat
namespace Go.Proofs.YtagcbnpahgfgmaaGreat
open Go Go.RowKit
theorem grown_setCell (w : World) (g o : Nat) (u : Value) : w.grownBy (w.setCell ⟨g, o, none⟩ u) (some g) :=
 ⟨rfl, rfl, rfl, by simp, fun k _ hne => Below.heap_setCell w ⟨g, o, none⟩ u k (fun e => hne (by rw [e]))⟩
theorem grown_trans {a b c : World} {r : Option Nat} (h : a.grownBy b r) (k : b.grownBy c r) : a.grownBy c r :=
 ⟨k.os.trans h.os, k.tape.trans h.tape, k.output.trans h.output, Nat.le_trans h.size k.size, fun j h1 h2 => (k.block j (Nat.lt_of_lt_of_le h1 h.size) h2).trans (h.block j h1 h2)⟩
theorem grown_setCells (g : Nat) : ∀ (cs : List Value) (o : Nat) (w : World), w.grownBy (w.setCells g o cs) (some g)
 | [], _, w => ⟨rfl, rfl, rfl, Nat.le_refl _, fun _ _ _ => rfl⟩
 | c :: cs, o, w => grown_trans (grown_setCell w g o c) (grown_setCells g cs (o + 1) _)
theorem spliced_nil (vs : List Value) (o : Nat) : spliced vs o [] = vs := by simp [spliced]
theorem spliced_cons (vs : List Value) (o : Nat) (c : Value) (cs : List Value) (h : o < vs.length) : spliced (vs.set o c) (o + 1) cs = spliced vs o (c :: cs) := by
 unfold spliced
 rw [List.length_cons]
 have e1 : (vs.set o c).take (o + 1) = vs.take o ++ [c] := by
  rw [List.take_add_one, List.take_set_of_le (by omega)]
  simp [h]
 have e2 : (vs.set o c).drop (o + 1 + cs.length) = vs.drop (o + (cs.length + 1)) := by
  rw [List.drop_set_of_lt (by omega)]
  congr 1; omega
 rw [e1, e2]
 simp
theorem Row.setCells {g : Nat} {e : TypeId} {s cap : Nat} : ∀ (cs : List Value) (o : Nat) (w : World) (vs : List Value), Row w g e s cap vs → o + cs.length ≤ vs.length → Row (w.setCells g o cs) g e s cap (Go.Proofs.YtagcbnpahgfgmaaGreat.spliced vs o cs)
 | [], o, w, vs, h, _ => by rw [spliced_nil]; exact h
 | c :: cs, o, w, vs, h, hl => by
  simp only [List.length_cons] at hl
  have h1 := Row.setCells cs (o + 1) _ _ (h.set o c) (by rw [List.length_set]; omega)
  rw [spliced_cons _ _ _ _ (by omega)] at h1
  exact h1
theorem run_clear_many {P : Program} (w : World) (t e ty : TypeId) (z : Value) (s : Nat) (ht : P.underlying t = some (.slice e)) (hv : ∀ w, (zeroValue e).run P w = .ok z w) (hz : z.cells.size = s) (h1 : ∀ u ∈ z.cells.toList, u.oneCell' = true) (b o n c : Nat) (hn : 0 < n)
  (hc : ∀ j, j < n * s → (w.cell? ⟨b, o + j, none⟩).isSome = true) (hf : ∀ j, j < n * s → w.frozen? ⟨b, o + j, none⟩ = false) :
  (Builtin.clear_ #[t] ty #[.slice (some ⟨b, o, none⟩) n c]).run P w = .ok (.tuple #[]) (w.setCells b o (Builtin.zeroCells z.cells n).toList) := by
 have hsz : (Builtin.zeroCells z.cells n).toList.length = n * s := by rw [Array.length_toList, size_zeroCells, hz]
 have hst := run_storeCells_cells (P := P) b o (Builtin.zeroCells z.cells n).toList 0 w (by intro j hj; simpa using hc j (by omega)) (by intro j hj; first | (simp; done) | (have hfj := hf j (by omega); simpa using hfj)) (by
  intro v hv'
  obtain ⟨i, hi, rfl⟩ := List.getElem_of_mem hv'
  rw [hsz, ← hz] at hi
  have hp : 0 < z.cells.size := Nat.pos_of_ne_zero fun e => by rw [e] at hi; omega
  have hm := Nat.mod_lt i hp
  apply h1
  unfold Builtin.zeroCells
  simp [hm])
 simp only [Nat.add_zero] at hst
 obtain ⟨m, rfl⟩ : ∃ m, n = m + 1 := ⟨n - 1, by omega⟩
 simp [Builtin.clear_, run_underlying ht, hv, hst]
theorem zeroP (w : World) : (zeroValue 49).run Tryz.prog w = .ok (.agg #[.int .i64 0, .slice none 0 0]) w := by kernel_rfl
theorem info_part : (Tryz.prog.info? 49).map (fun i => (i.zero, i.size, i.bytes)) = some (some (.agg #[.int .i64 0, .slice none 0 0]), 2, 32) := by kernel_rfl
theorem run_fromP (b n cap k : Nat) (hk : k ≤ n) (w : World) : (Instr.slice 24 (.slice (some ⟨b, 0, none⟩) n cap) (some (.int .i64 k)) none none).run Tryz.prog w = .ok (.slice (if cap = k then some ⟨b, 0, none⟩ else some ⟨b, k * 2, none⟩) (n - k) (cap - k)) w := by
 have hu : Tryz.prog.underlying 24 = some (.slice (Tryz.prog.elem 24)) := by kernel_rfl
 have hs : ∀ w, (sizeOf (Tryz.prog.elem 24)).run Tryz.prog w = .ok 2 w := fun w => by kernel_rfl
 rw [run_slice_l w 24 (some ⟨b, 0, none⟩) n cap hu .i64 k (by omega) (by omega), hs]
 unfold sliced
 simp only [Result.andThen, Int.toNat_natCast]
 split <;> simp [Addr.add] <;> omega
set_option maxRecDepth 100000 in
set_option maxHeartbeats 4000000 in
theorem delP_walk (g cap n j : Nat) (vs : List Value) (w : World) (h : Row w g 49 2 cap vs) (hn : vs.length = n * 2) (hj : j < n) (hc : n ≤ cap) (h1 : ∀ u ∈ vs, u.oneCell' = true) :
  Calls Tryz.prog 74 #[.slice (some ⟨g, 0, none⟩) n cap, .int .i64 j, .int .i64 (j + 1)] w fun e w' =>
   e = .returned (.slice (some ⟨g, 0, none⟩) (n - 1) cap) ∧ Row w' g 49 2 cap (vs.take (j * 2) ++ vs.drop (j * 2 + 2)) ∧ w.grownBy w' (some g) := by
 have hcm := h.cap_le
 unfold maxLen at hcm
 have e1 : ((j : Int) == (j : Int) + 1) = false := by simp; omega
 obtain ⟨i0, hi0, hz0, hz1, hz2⟩ := info_parts info_part
 obtain ⟨news, hnews⟩ : ∃ news, news = vs.drop (j * 2 + 2) := ⟨_, rfl⟩
 have hlen : news.length = (n - (j + 1)) * 2 := by rw [hnews, List.length_drop, hn]; omega
 obtain ⟨A, hA, hsrc⟩ : ∃ A : Addr, (if cap = j + 1 then some (⟨g, 0, none⟩ : Addr) else some ⟨g, (j + 1) * 2, none⟩) = some A ∧ Hid (∀ t u, news[t]? = some u → w.drew.cell? (A.add t) = some u) := by
  by_cases hh : cap = j + 1
  ·
   refine ⟨⟨g, 0, none⟩, by simp [hh], fun t u hu => ?_⟩; have h0 : news.length = 0 := by rw [hlen]; omega
   rw [List.length_eq_zero_iff.1 h0] at hu; simp at hu
  ·
   refine ⟨⟨g, (j + 1) * 2, none⟩, by simp [hh], fun t u hu => ?_⟩; have ht : t < news.length := (List.getElem?_eq_some_iff.1 hu).1; rw [hnews, List.getElem?_drop] at hu; rw [Addr.add_lit]; exact (h.cell? ((j + 1) * 2 + t) (by rw [hn]; omega)).trans (by rw [show (j + 1) * 2 + t = j * 2 + 2 + t by omega]; exact hu)
 have hsl : ∀ w, (Instr.slice 24 (.slice (some ⟨g, 0, none⟩) n cap) (some (.int .i64 ((j : Int) + 1))) none none).run Tryz.prog w = .ok (.slice (some A) (n - (j + 1)) (cap - (j + 1))) w := fun w => by
  have := run_fromP g n cap (j + 1) (by omega) w
  rw [hA] at this
  exact this
 have s1 : Hid (news.length = (n - (j + 1)) * 2) := hlen
 have s2 : Hid (∀ u ∈ news, u.oneCell' = true) := fun u hu => h1 u (by rw [hnews] at hu; exact List.mem_of_mem_drop hu)
 have s3 : Hid (∀ t, t < news.length → (w.drew.cell? ⟨g, 0 + j * 2 + t, none⟩).isSome = true ∧ w.drew.frozen? ⟨g, 0 + j * 2 + t, none⟩ = false) := fun t ht => by
  rw [hlen] at ht
  rw [Nat.zero_add]
  refine ⟨?_, h.frozen _⟩
  show (w.cell? ⟨g, j * 2 + t, none⟩).isSome = true
  rw [h.cell? (j * 2 + t) (by rw [hn]; omega), List.getElem?_eq_getElem (by rw [hn]; omega)]; rfl
 obtain ⟨W1, hW1⟩ : ∃ W1, W1 = w.drew.setCells g (0 + j * 2) news := ⟨_, rfl⟩
 have hg1 : w.grownBy W1 (some g) := by
  rw [hW1]
  exact grown_trans (b := w.drew) ⟨rfl, rfl, rfl, Nat.le_refl _, fun _ _ _ => rfl⟩ (grown_setCells g _ _ _)
 have hR1 : Row W1 g 49 2 cap (spliced vs (j * 2) news) := by
  rw [hW1, Nat.zero_add]
  exact Row.setCells news (j * 2) w.drew vs h (by rw [hlen, hn]; omega)
 have hl1 : (spliced vs (j * 2) news).length = n * 2 := by rw [spliced_length (by rw [hlen, hn]; omega)]; exact hn
 have hcl : ∀ ty, (Builtin.clear_ #[24] ty #[.slice (some ⟨g, (j + (n - (j + 1))) * 2, none⟩) (n - (j + (n - (j + 1)))) (cap - (j + (n - (j + 1))))]).run Tryz.prog W1 = .ok (.tuple #[]) (W1.setCells g ((j + (n - (j + 1))) * 2) (Builtin.zeroCells (Value.agg #[.int .i64 0, .slice none 0 0]).cells (n - (j + (n - (j + 1))))).toList) := fun ty =>
  run_clear_many W1 _ _ ty _ 2 Tryz.underlying24 zeroP (by decide +kernel) (by decide +kernel) g _ _ _ (by omega)
   (fun t ht => by rw [hR1.cell? _ (by rw [hl1]; omega), List.getElem?_eq_getElem (by rw [hl1]; omega)]; rfl) (fun t ht => hR1.frozen _)
 have hR2 := Row.setCells (Builtin.zeroCells (Value.agg #[.int .i64 0, .slice none 0 0]).cells (n - (j + (n - (j + 1))))).toList ((j + (n - (j + 1))) * 2) W1 _ hR1 (by
  rw [Array.length_toList, size_zeroCells, hl1]
  have : (Value.agg #[.int .i64 0, .slice none 0 0]).cells.size = 2 := by decide +kernel
  rw [this]; omega)
 have hg2 := grown_trans hg1 (grown_setCells g (Builtin.zeroCells (Value.agg #[.int .i64 0, .slice none 0 0]).cells (n - (j + (n - (j + 1))))).toList ((j + (n - (j + 1))) * 2) W1)
 have hend : Row (W1.setCells g ((j + (n - (j + 1))) * 2) (Builtin.zeroCells (Value.agg #[.int .i64 0, .slice none 0 0]).cells (n - (j + (n - (j + 1))))).toList) g 49 2 cap (vs.take (j * 2) ++ vs.drop (j * 2 + 2)) := by
  have h3 := hR2.take ((n - 1) * 2)
  have h4 : (spliced (spliced vs (j * 2) news) ((j + (n - (j + 1))) * 2) (Builtin.zeroCells (Value.agg #[.int .i64 0, .slice none 0 0]).cells (n - (j + (n - (j + 1))))).toList).take ((n - 1) * 2) = vs.take (j * 2) ++ vs.drop (j * 2 + 2) := by
   have e2 : j + (n - (j + 1)) = n - 1 := by omega
   rw [e2]; unfold spliced; rw [List.take_append, List.length_take, List.take_take]; have hl1' : (List.take (j * 2) vs ++ (news ++ List.drop (j * 2 + news.length) vs)).length = n * 2 := hl1; rw [hl1', Nat.min_self, Nat.min_eq_left (by omega), Nat.sub_self, List.take_zero, List.append_nil]; rw [← List.append_assoc, List.take_append]; have h5 : (List.take (j * 2) vs ++ news).length = (n - 1) * 2 := by rw [List.length_append, List.length_take, hlen, hn]; omega
   rw [h5, Nat.sub_self, List.take_zero, List.append_nil, List.take_of_length_le (by omega), hnews]
  rw [h4] at h3; exact h3
 have hW : Hid (W1 = w.drew.setCells g (0 + j * 2) news) := hW1
 have Hend := Lib.hid hend; have Hg2 := Lib.hid hg2
 have hjc : j ≤ cap := by omega
 have hjc2 : j + 1 ≤ cap := by omega
 have hnc : j + (n - (j + 1)) ≤ n := by omega
 clear hR1 hR2 hg1 hg2 hend hl1 hlen hnews h hW1 h1
 go_enter Tryz.func74, Tryz.ntmps74
 go_wp2_with fail
 go_region_law (refine step_append_room rfl (.tmp 22) (.tmp 25) 24 rfl 49 i0 2 Tryz.underlying24 hi0 hz1 g 0 j cap (by simp [Act.eval, Act.put]) A (n - (j + 1)) (cap - (j + 1)) news (by simp [Act.eval, Act.put]) s1.out hsrc.out s2.out (by omega) s3.out ?_; rw [← hW.out])
 go_wp2
 go_ret
 exact ⟨by rw [show n - 1 = j + (n - (j + 1)) by omega]; rfl, Hend.out, Hg2.out⟩
end Go.Proofs.YtagcbnpahgfgmaaGreat
namespace Go.Proofs.YtagcbnpahgfgmaaGreat
open Go Go.RowKit Go.Maps
def RV : Value → Option (DataW Value × List MemPlace) := fun v => some (.held v, [])
open Classical in
noncomputable def updL (F : Lit → Option Value) (k : Lit) (v : Value) : Lit → Option Value := fun j => if j = k then some v else F j
theorem updL_same (F : Lit → Option Value) (k : Lit) (v : Value) : updL F k v k = some v := by simp [updL]
theorem updL_ne (F : Lit → Option Value) {k j : Lit} (v : Value) (h : j ≠ k) : updL F k v j = F j := by simp [updL, h]
def MGs (D : DataW Value) (F : Lit → Option Value) (c : Nat) : Prop :=
 Tidy D ∧ Maps.size D = c ∧ (∀ l, Maps.has D l = (F l).isSome) ∧ ∀ l x, F l = some x → ∀ z, D.atKey l z = .held x
def MG (w : World) (k : TypeId) (B c : Nat) (F : Lit → Option Value) : Prop :=
 ∃ D : DataW Value, w.ownsMap Tryz.prog k RV B c D ∧ MGs D F c
theorem MGs.none : MGs (.map []) (fun _ => none) 0 := ⟨tidy_empty, rfl, fun v => rfl, fun v x h => by cases h⟩
theorem MGs.put {D : DataW Value} {F : Lit → Option Value} {c : Nat} (h : MGs D F c) {k : Lit} (hk : WideAt.IsKeyLit k) (v : Value) : MGs (D.put k (.held v)) (updL F k v) (if (F k).isSome then c else c + 1) := by
 obtain ⟨h1, h2, h3, h4⟩ := h
 refine ⟨h1.put hk _, ?_, fun j => ?_, fun j x hj z => ?_⟩
 · rw [size_put h1, h3 k, h2]
 ·
  by_cases e : j = k
  · subst e; rw [has_put_same h1.isMap hk, updL_same]; rfl
  · rw [has_put_other e, h3 j, updL_ne _ _ e]
 ·
  by_cases e : j = k
  · subst e; rw [updL_same] at hj; cases hj; rw [atKey_put_same h1.isMap hk]
  ·
   rw [updL_ne _ _ e] at hj; rw [atKey_put_other e]; exact h4 j x hj z
namespace MG
variable {w w' : World} {k : TypeId} {B c : Nat} {F : Lit → Option Value}
theorem exact_ {n : Nat} {D : DataW Value} (h : w.ownsMap Tryz.prog k RV B n D) : w.ownsMap Tryz.prog k RV B (Maps.size D) D := by
 obtain ⟨es, clock, hb, G, hs, rfl⟩ := h
 exact ⟨es, clock, hb, G, by rw [size_eq, length_read]; exact Nat.le_refl _, rfl⟩
theorem lt (h : MG w k B c F) : B < w.heap.size := by obtain ⟨D, h1, _⟩ := h; exact h1.lt
theorem made (w : World) (k : TypeId) : MG (w.alloc (.map #[] 0)) k w.heap.size 0 (fun _ => none) := ⟨_, World.ownsMap_made _ _ _ _, MGs.none⟩
theorem block (h : MG w k B c F) (e : w'.heap[B]? = w.heap[B]?) : MG w' k B c F := by
 obtain ⟨D, ⟨es, clock, hb, r⟩, h2⟩ := h
 exact ⟨D, ⟨es, clock, e.trans hb, r⟩, h2⟩
theorem below (h : MG w k B c F) (hb : Below w.heap.size w w') : MG w' k B c F := h.block (hb.block B h.lt)
theorem grown {r : Option Nat} (h : MG w k B c F) (hg : w.grownBy w' r) (hne : r ≠ some B) : MG w' k B c F := h.block (hg.block B h.lt (fun e => hne e.symm))
theorem alloc (h : MG w k B c F) (o : Obj) : MG (w.alloc o) k B c F := h.block (Below.heap_alloc w o B h.lt)
theorem look (h : MG w k B c F) (K : Keyed Tryz.prog k) {t e : TypeId} (ht : Tryz.prog.underlying t = some (.map k e)) {z : Value} (hz : (zeroValue e).run Tryz.prog w = .ok z w) {v : Value} {l : Lit} (hv : keyOf Tryz.prog k v = some l) :
  (Instr.lookup t (.map (some B)) v false).run Tryz.prog w = .ok ((F l).getD z) w := by
 obtain ⟨D, hown, _, _, h3, h4⟩ := h
 obtain ⟨u, ps, hrun, hu⟩ := hown.lookup K ht hz (zd := .held z) (zp := []) rfl hv
 rw [hrun]
 unfold RV at hu
 simp only [Option.some.injEq, Prod.mk.injEq] at hu
 cases hF : F l with
 | none =>
  have hh := h3 l; rw [hF] at hh
  rw [atKey_of_not_has hh] at hu
  have := hu.1; cases this; rfl
 | some x =>
  rw [h4 l x hF] at hu
  have := hu.1; cases this; rfl
theorem len (h : MG w k B c F) {t e : TypeId} (ht : Tryz.prog.underlying t = some (.map k e)) (ty : TypeId) :
  (Builtin.len_ #[t] ty #[.map (some B)]).run Tryz.prog w = .ok (.int .i64 c) w := by
 obtain ⟨D, hown, _, h2, _⟩ := h
 rw [hown.len ht ty, h2]
theorem store (h : MG w k B c F) (K : Keyed Tryz.prog k) {t e : TypeId} (ht : Tryz.prog.underlying t = some (.map k e)) {v : Value} {l : Lit} (hv : keyOf Tryz.prog k v = some l) (x : Value) (hc : c ≤ 100000000) :
  ∃ w', (Instr.mapUpdate t (.map (some B)) v x).run Tryz.prog w = .ok () w' ∧ MG w' k B (if (F l).isSome then c else c + 1) (updL F l x) ∧ w.grownBy w' (some B) := by
 obtain ⟨D, hown, h2⟩ := h
 obtain ⟨w', hrun, r1, r2⟩ := hown.update K ht (by unfold maxLen; omega) hv (d := .held x) (ps := []) rfl
 have h3 := h2.put (K.key hv) x
 have h4 := exact_ r1
 rw [h3.2.1] at h4
 exact ⟨w', hrun, ⟨_, h4, h3⟩, r2⟩
end MG
theorem wpList_put_MG {w : World} {ops : Array Oper} {rest : List Oper} {o : Oper} {a : Act} {Q : Exit → Act → World → Prop} (hg : o.guard = none) (m x y : Operand) (t : TypeId) (hop : o.op = Op.mapUpdate t m x y) {k e : TypeId} {B c : Nat} {F : Lit → Option Value} (h : MG w k B c F) (K : Keyed Tryz.prog k) (ht : Tryz.prog.underlying t = some (.map k e))
  {kv v : Value} {l : Lit} (hm : a.eval m = .map (some B)) (hx : a.eval x = kv) (hy : a.eval y = v) (hv : keyOf Tryz.prog k kv = some l) (hc : c ≤ 100000000)
  (hK : ∀ w', MG w' k B (if (F l).isSome then c else c + 1) (updL F l v) → w.grownBy w' (some B) → wpList Tryz.prog ops Q rest (a.put o.dst undef) w') : wpList Tryz.prog ops Q (o :: rest) a w := by
 refine wpList_plain hg fun K' hK' => ?_
 obtain ⟨w', hrun, r1, r2⟩ := h.store K ht hv v hc
 unfold Oper.wp
 simp [execOp, hop, hm, hx, hy, hrun, Result.andThen]
 exact hK' _ _ (hK w' r1 r2)
theorem run_makeMapN (t k e : TypeId) (ht : Tryz.prog.underlying t = some (.map k e)) (w : World) : (Instr.makeMap t none).run Tryz.prog w = .ok (.map (some w.heap.size)) (w.alloc (.map #[] 0)) := by
 simp [Instr.makeMap, run_underlying ht, Result.andThen]
theorem MG.entry {w : World} {k : TypeId} {B c : Nat} {F : Lit → Option Value} (h : MG w k B c F) (Kl : Go.WideMaps.KeyLaw Tryz.prog k) {t e : TypeId} (ht : Tryz.prog.underlying t = some (.map k e)) {z : Value} (hz : ∀ u : World, (zeroValue e).run Tryz.prog u = .ok z u) {v : Value} {l : Lit} (hv : keyOf Tryz.prog k v = some l) (hc : c ≤ 100000000) :
  ∃ (st : Nat) (w1 : World), (Instr.mapEntry t (.map (some B)) v).run Tryz.prog w = .ok (.tuple #[(F l).getD z, goInt st]) w1 ∧ w.grownBy w1 (some B) ∧ (∃ c1 F1, MG w1 k B c1 F1 ∧ (F1 l).getD z = (F l).getD z) ∧
   ∀ (w2 : World) (x : Value), w2.heap[B]? = w1.heap[B]? → ∃ w3, (Instr.entryStore t (.map (some B)) (goInt st) x).run Tryz.prog w2 = .ok () w3 ∧ w2.grownBy w3 (some B) ∧ MG w3 k B (if (F l).isSome then c else c + 1) (updL F l x) := by
 have K : Keyed Tryz.prog k := Keyed.of_law Kl
 have hlook := h.look K ht (hz w) hv
 have hMG := h
 obtain ⟨D, ⟨es, clock, hb, G, hs, hD⟩, h2⟩ := h
 obtain ⟨v0, st, es1, clock1, hrun, _, hst⟩ := Go.WideElems.entry_then_store Kl ht hz hb G hv
 have hw1 : v0 = (F l).getD z ∧ ∃ c1 F1, MG (Go.ChangeMaps.setBlock w B (.map es1 clock1)) k B c1 F1 ∧ (F1 l).getD z = (F l).getD z := by
  rcases K.find w hv es.toList G.keys with ⟨h1, hno⟩ | ⟨j, e0, h1, hj, hk0⟩
  ·
   have hrun2 : (Instr.mapEntry t (.map (some B)) v).run Tryz.prog w = .ok (.tuple #[z, goInt clock]) (Go.ChangeMaps.setBlock w B (.map (es.push ⟨v, z, clock⟩) (clock + 1))) := by
    simp [Instr.mapEntry, run_underlying ht, MapKept.run_getObj_map hb, K.check w false hv, h1, hz, MapKept.run_setObj_map _ hb, Result.andThen, Go.ChangeMaps.setBlock]
   have hup : (Instr.mapUpdate t (.map (some B)) v z).run Tryz.prog w = .ok () (Go.ChangeMaps.setBlock w B (.map (es.push ⟨v, z, clock⟩) (clock + 1))) := by
    simp [Instr.mapUpdate, run_underlying ht, MapKept.run_getObj_map hb, K.check w false hv, h1, MapKept.run_setObj_map _ hb, Result.andThen, Go.ChangeMaps.setBlock]
   have hlk : (Instr.lookup t (.map (some B)) v false).run Tryz.prog w = .ok z w := by
    rcases Maps.fit_look false K ht (hz w) hb G hv with ⟨hr, _, _⟩ | ⟨e1, y, he1, hk1, hr, _⟩
    · exact hr
    · exact absurd hk1 (hno e1 he1)
   rw [hrun2] at hrun; rw [hlk] at hlook; simp only [Result.ok.injEq, Value.tuple.injEq, and_true] at hrun hlook; obtain ⟨hr1, hr2⟩ := hrun; have hz1 : z = v0 := by
    have := congrArg (fun a : Array Value => a[0]?) hr1; simpa using this
   obtain ⟨w', hr', hm', _⟩ := hMG.store K ht hv z hc; rw [hup] at hr'; cases hr'; refine ⟨by rw [← hz1]; exact hlook, _, _, by rw [← hr2]; exact hm', by rw [updL_same, ← hlook]; rfl⟩
  ·
   have hj' : es[j]? = some e0 := by simpa using hj
   have hlk : (Instr.lookup t (.map (some B)) v false).run Tryz.prog w = .ok e0.val w := by
    simp [Instr.lookup, run_underlying ht, MapKept.run_getObj_map hb, K.check w _ hv, h1, hz, Result.andThen]
   have hsame : es.modify j (fun e => { e with key := v }) = es := by
    apply Array.ext'; rw [Array.toList_modify, Go.ChangeMaps.modify_eq_set _ _ _ _ hj]; have : ({ e0 with key := v } : MapEntry) = e0 := by rw [← hk0]
    rw [this]; exact Go.WideElems.set_self _ _ _ hj
   have hrun2 : (Instr.mapEntry t (.map (some B)) v).run Tryz.prog w = .ok (.tuple #[e0.val, goInt e0.born]) (Go.ChangeMaps.setBlock w B (.map es clock)) := by
    simp [Instr.mapEntry, run_underlying ht, MapKept.run_getObj_map hb, K.check w false hv, h1, hj', hk0, K.stays w hv, hsame, MapKept.run_setObj_map _ hb, Result.andThen, Go.ChangeMaps.setBlock]
   rw [hrun2] at hrun; rw [hlk] at hlook; simp only [Result.ok.injEq, Value.tuple.injEq, and_true] at hrun hlook; obtain ⟨hr1, hr2⟩ := hrun; have hz1 : e0.val = v0 := by
    have := congrArg (fun a : Array Value => a[0]?) hr1; simpa using this
   refine ⟨by rw [← hz1]; exact hlook, c, F, ?_, rfl⟩; rw [← hr2]; exact hMG.block (by rw [Go.ChangeMaps.heap_setBlock_same hb _, hb])
 obtain ⟨hv0, c1, F1, hm1, hF1⟩ := hw1
 subst hv0
 refine ⟨st, _, hrun, ⟨rfl, rfl, rfl, by simp [Go.ChangeMaps.setBlock], fun i _ hi => Go.ChangeMaps.heap_setBlock_other hb _ (fun e => hi (by rw [e]))⟩, ⟨c1, F1, hm1, hF1⟩, fun w2 x hw2 => ?_⟩
 rw [Go.ChangeMaps.heap_setBlock_same hb] at hw2
 obtain ⟨es', clock', hr3, hup⟩ := hst w2 x hw2
 obtain ⟨w', hr', hm', _⟩ := hMG.store K ht hv x hc
 rw [hup] at hr'
 cases hr'
 refine ⟨_, hr3, ⟨rfl, rfl, rfl, by simp [Go.ChangeMaps.setBlock], fun i _ hi => Go.ChangeMaps.heap_setBlock_other hw2 _ (fun e => hi (by rw [e]))⟩, hm'.block ?_⟩
 rw [Go.ChangeMaps.heap_setBlock_same hw2, Go.ChangeMaps.heap_setBlock_same hb]
def WfL (e : Lk) : Prop := WfZ e.1 ∧ WfZ e.2.1 ∧ WfZ e.2.2
theorem OkL.wf {e : Lk} (h : OkL e) : WfL e := by unfold OkL at h; exact ⟨wfZ_of (by omega), wfZ_of (by omega), wfZ_of (by omega)⟩
theorem lawL : Go.WideMaps.KeyLaw Tryz.prog 38 := deep_law_laid (by kernel_rfl) (m := 2) (by omega) (of_decide_eq_true (by kernel_rfl)) (by kernel_rfl) (by kernel_rfl)
theorem keyedL : Keyed Tryz.prog 38 := Keyed.of_law lawL
theorem keyLits_i {a : Int} (h : (Lit.int .i64 a).wf = true) (d : Nat) : Tryz.prog.keyLits (d + 1) 3 [.int .i64 a] = some [.int .i64 a] := by
 rw [Program.keyLits.eq_def]
 simp only [Tryz.underlying3]
 simp [h]
theorem keyLits_L {a b c : Int} (h1 : (Lit.int .i64 a).wf = true) (h2 : (Lit.int .i64 b).wf = true) (h3 : (Lit.int .i64 c).wf = true) (d : Nat) :
  Tryz.prog.keyLits (d + 1 + 1) 38 [.int .i64 a, .int .i64 b, .int .i64 c] = some [.int .i64 a, .int .i64 b, .int .i64 c] := by
 have c3 : Tryz.prog.cellsOf 3 = 1 := by kernel_rfl
 have c38 : Tryz.prog.cellsOf 38 = 3 := by kernel_rfl
 have k1 := keyLits_i h1 d
 have k2 := keyLits_i h2 d
 have k3 := keyLits_i h3 d
 rw [Program.keyLits.eq_def]
 simp only [Tryz.underlying38]
 simp [c3, c38, k1, k2, k3]
theorem keyOf_L {e : Lk} (h : WfL e) : ∃ l, keyOf Tryz.prog 38 (lkV e) = some l := by
 obtain ⟨a, b, c⟩ := e
 obtain ⟨h1, h2, h3⟩ := h
 unfold WfZ at h1 h2 h3
 simp only at h1 h2 h3
 have hkt : Tryz.prog.keyType 38 = true := by kernel_rfl
 have hfm : (lkV (a, b, c)).formed Tryz.prog 38 = true := by kernel_rfl
 have hsz : ∃ m, Tryz.prog.types.size + 1 = m + 1 + 1 := ⟨Tryz.prog.types.size - 1, by
  have : 0 < Tryz.prog.types.size := of_decide_eq_true (by kernel_rfl)
  omega⟩
 obtain ⟨m, hm⟩ := hsz
 unfold keyOf
 rw [Tryz.underlying38, hm]
 simp only [hkt, hfm, Bool.true_and, if_true]
 refine ⟨Lit.string (keyBytes [.int .i64 a, .int .i64 b, .int .i64 c]), ?_⟩
 show Option.map (fun ls => Lit.string (keyBytes ls)) (Tryz.prog.keyLits (m + 1 + 1) 38 [.int .i64 a, .int .i64 b, .int .i64 c]) = _
 rw [keyLits_L h1 h2 h3]
 rfl
noncomputable def litL (e : Lk) : Lit := (keyOf Tryz.prog 38 (lkV e)).getD (.bool false)
theorem litL_ok {e : Lk} (h : WfL e) : keyOf Tryz.prog 38 (lkV e) = some (litL e) := by
 obtain ⟨l, hl⟩ := keyOf_L h
 unfold litL
 rw [hl]; rfl
theorem litL_inj {e f : Lk} (he : WfL e) (hf : WfL f) (h : litL e = litL f) : e = f := by
 have h1 := litL_ok he
 rw [h] at h1
 have := keyedL.inj h1 (litL_ok hf)
 unfold lkV at this
 obtain ⟨a, b, c⟩ := e
 obtain ⟨a', b', c'⟩ := f
 simp at this
 simp [this]
end Go.Proofs.YtagcbnpahgfgmaaGreat
namespace Go.Proofs.YtagcbnpahgfgmaaGreat
open Go Go.RowKit Go.Maps
def hVal (r : Nat × Nat × Lk) : Value := .agg #[.int .i64 (r.1 : Nat), .int .i64 (r.2.1 : Nat), .int .i64 r.2.2.1, .int .i64 r.2.2.2.1, .int .i64 r.2.2.2.2]
theorem zeroH (w : World) : (zeroValue 123).run Tryz.prog w = .ok (hVal (0, 0, (0, 0, 0))) w := by kernel_rfl
theorem zeroI (w : World) : (zeroValue 3).run Tryz.prog w = .ok (.int .i64 0) w := by kernel_rfl
def heldL (l : List Oc) : Lit → Option Value
 | .int .i64 v => if v = 0 then none else (heldF l v).map hVal
 | _ => none
theorem heldL_zero {l : List Oc} {p : Oc} (h : p.2.2.2 = 0) : heldL (l ++ [p]) = heldL l := by
 funext x
 unfold heldL
 split
 ·
  rename_i v
  split
  · rfl
  · rw [heldF_snoc, if_neg (by omega)]
 · rfl
theorem heldL_at {l : List Oc} {v : Int} (h : v ≠ 0) : heldL l (.int .i64 v) = (heldF l v).map hVal := by
 show (if v = 0 then none else (heldF l v).map hVal) = _
 rw [if_neg h]
theorem heldL_put {l : List Oc} {p : Oc} (h : p.2.2.2 ≠ 0) : updL (heldL l) (.int .i64 p.2.2.2) (hVal (p.1, (atV p.2.2.2 l).length + 1, p.2)) = heldL (l ++ [p]) := by
 funext x
 by_cases hx : x = .int .i64 p.2.2.2
 ·
  subst hx
  rw [updL_same, heldL_at h, heldF_snoc, if_pos rfl]; rfl
 ·
  rw [updL_ne _ _ hx]
  unfold heldL
  split
  ·
   rename_i v; split
   · rfl
   · rw [heldF_snoc, if_neg (fun e => hx (by rw [e]))]
  · rfl
def HeldM (w : World) (B : Nat) (l : List Oc) : Prop := MG w 3 B (numsO l).length (heldL l)
theorem heldL_some {l : List Oc} {v : Int} (h : v ≠ 0) : (heldL l (.int .i64 v)).isSome = true ↔ v ∈ numsO l := by
 rw [heldL_at h, Option.isSome_map, heldF_some h]
theorem nums_put {l : List Oc} {p : Oc} (h : p.2.2.2 ≠ 0) : (if (heldL l (.int .i64 p.2.2.2)).isSome = true then (numsO l).length else (numsO l).length + 1) = (numsO (l ++ [p])).length := by
 rw [numsO_snoc]
 by_cases hm : p.2.2.2 ∈ numsO l
 · rw [if_pos ((heldL_some h).2 hm), if_pos (.inr hm)]
 ·
  rw [if_neg (fun hc => hm ((heldL_some h).1 hc)), if_neg (fun hc => hc.elim h hm)]
  simp
theorem nums_zero {l : List Oc} {p : Oc} (h : p.2.2.2 = 0) : numsO (l ++ [p]) = numsO l := by rw [numsO_snoc, if_pos (.inl h)]
theorem HeldM.real {w : World} {B : Nat} {l : List Oc} {p : Oc} (h : HeldM w B l) (hp : p.2.2.2 = 0) : HeldM w B (l ++ [p]) := by
 unfold HeldM at h ⊢
 rw [nums_zero hp, heldL_zero hp]; exact h
theorem nums_le (l : List Oc) : (numsO l).length ≤ l.length := by
 induction l using snoc_ind with
 | nil => simp [numsO]
 | snoc l p ih => rw [numsO_snoc]; split <;> simp <;> omega
def OwnM (w : World) (B : Nat) (l : List Oc) : Prop := ∃ c F, MG w 38 B c F ∧ c ≤ l.length ∧ ∀ e, WfL e → F (litL e) = if e ∈ realsO l then some (.int .i64 1) else none
theorem OwnM.virt {w : World} {B : Nat} {l : List Oc} {p : Oc} (h : OwnM w B l) (hp : p.2.2.2 ≠ 0) : OwnM w B (l ++ [p]) := by
 obtain ⟨c, F, h1, h2, h3⟩ := h
 refine ⟨c, F, h1, by simp; omega, fun e he => ?_⟩
 rw [h3 e he, realsO_append, show realsO [p] = [] by simp [realsO, hp], List.append_nil]
theorem OwnM.block {w w' : World} {B : Nat} {l : List Oc} (h : OwnM w B l) (e : w'.heap[B]? = w.heap[B]?) : OwnM w' B l := by
 obtain ⟨c, F, h1, h2⟩ := h
 exact ⟨c, F, h1.block e, h2⟩
theorem OwnM.lt {w : World} {B : Nat} {l : List Oc} (h : OwnM w B l) : B < w.heap.size := by obtain ⟨c, F, h1, _⟩ := h; exact h1.lt
def rowsO (n : Nat) (l : List Oc) : List (List Value) := (List.range n).map fun k => (outO (pairsO l) k).map vN
theorem rowsO_get {n : Nat} {l : List Oc} {k : Nat} (h : k < n) : (rowsO n l)[k]? = some ((outO (pairsO l) k).map vN) := by simp [rowsO, h]
theorem rowsO_nil (n : Nat) : rowsO n [] = List.replicate n [] := by
 apply List.ext_getElem (by simp [rowsO])
 intro i h1 h2
 simp [rowsO, pairsO_nil, outO_nil]
theorem rowsO_same {n : Nat} {l : List Oc} {p : Oc} (h : newP l p = []) : rowsO n (l ++ [p]) = rowsO n l := by
 unfold rowsO
 rw [pairsO_snoc, h, List.append_nil]
theorem rowsO_step {n : Nat} {l : List Oc} {p a : Oc} (h0 : p.2.2.2 ≠ 0) (h1 : atV p.2.2.2 l = [a]) (hne : a.1 ≠ p.1) (hp : p.1 < n) (ha : a.1 < n) :
  ((rowsO n l).set p.1 ((outO (pairsO l) p.1).map vN ++ [vN a.1])).set a.1 ((outO (pairsO l) a.1).map vN ++ [vN p.1]) = rowsO n (l ++ [p]) := by
 apply List.ext_getElem (by simp [rowsO])
 intro i h2 h3
 have hi : i < n := by simpa [rowsO] using h3
 have e : rowsO n (l ++ [p]) = (List.range n).map fun k => ((outO (pairsO l) k).map vN ++ (outO [(a.1, p.1)] k).map vN) := by
  unfold rowsO
  rw [pairsO_snoc, newP_second h0 h1]
  refine List.map_congr_left fun k _ => ?_
  rw [outO_append, List.map_append]
 simp only [e, List.getElem_set, List.getElem_map, List.getElem_range, outO_one]
 by_cases e1 : a.1 = i
 ·
  subst e1
  have : ¬ p.1 = a.1 := fun h => hne h.symm
  simp [this]
 ·
  by_cases e2 : p.1 = i
  · subst e2; simp [e1]
  · simp [e1, e2, rowsO]
structure BesI (w wj : World) (Q : List Pt) (l : List Oc) : Prop where
 fine : fineP Q l
 held : HeldM wj w.heap.size l
 own : OwnM wj (w.heap.size + 1) l
 rows : ∃ vals, OwnRows wj (w.heap.size + 1 + 1) 33 3 Q.length vals (rowsO Q.length l)
 bel : Below w.heap.size w wj
theorem BesI.sz {w wj : World} {Q : List Pt} {l : List Oc} (h : BesI w wj Q l) : w.heap.size + 3 ≤ wj.heap.size := by
 obtain ⟨vals, hO⟩ := h.rows
 have := hO.outer.lt
 omega
theorem BesI.grown {w wj w' : World} {Q : List Pt} {l : List Oc} (h : BesI w wj Q l) (hb : Below wj.heap.size wj w') : BesI w w' Q l := by
 obtain ⟨vals, hO⟩ := h.rows
 exact ⟨h.fine, MG.below h.held hb, h.own.block (hb.block _ h.own.lt), ⟨vals, hO.below hb⟩, bl_trans h.bel hb⟩
theorem ownRows_keep {w w' : World} {G : Nat} {tO e : TypeId} {cap : Nat} {vals : List Value} {rows : List (List Value)} (h : OwnRows w G tO e cap vals rows) (h0 : w'.heap[G]? = w.heap[G]?) (h1 : ∀ (v : Nat) u g, vals[v]? = some u → u.ownBlock = some g → w'.heap[g]? = w.heap[g]?) : OwnRows w' G tO e cap vals rows where
 len := h.len
 outer := h.outer.block h0
 own v u r hu hr := (h.own v u r hu hr).below fun g hg => h1 v u g hu hg
 young := h.young
 apart := h.apart
def RowsA (w wj : World) (Q : List Pt) (l : List Oc) (bs : List Nat) : Prop := ∃ vals, OwnRows wj (w.heap.size + 1 + 1) 33 3 Q.length vals (rowsO Q.length l) ∧ ∀ (v : Nat) u g, vals[v]? = some u → u.ownBlock = some g → g ∉ bs
theorem RowsA.start {w wr : World} {Q : List Pt} {l : List Oc} (h : BesI w wr Q l) : RowsA w wr Q l [] := by
 obtain ⟨vals, hO⟩ := h.rows
 exact ⟨vals, hO, fun _ _ _ _ _ => by simp⟩
theorem RowsA.more {w wj : World} {Q : List Pt} {l : List Oc} {bs : List Nat} (h : RowsA w wj Q l bs) (o : Obj) : RowsA w (wj.alloc o) Q l (wj.heap.size :: bs) := by
 obtain ⟨vals, hO, h2⟩ := h
 refine ⟨vals, hO.alloc o, fun v u g hu hg => ?_⟩
 have := hO.lt hu hg
 have h3 := h2 v u g hu hg
 rw [List.mem_cons]
 rintro (h | h)
 · omega
 · exact h3 h
theorem RowsA.less {w wj : World} {Q : List Pt} {l : List Oc} {b : Nat} {bs : List Nat} (h : RowsA w wj Q l (b :: bs)) : RowsA w wj Q l bs := by
 obtain ⟨vals, hO, h2⟩ := h
 exact ⟨vals, hO, fun v u g hu hg hm => h2 v u g hu hg (List.mem_cons_of_mem _ hm)⟩
theorem RowsA.sub {w wj : World} {Q : List Pt} {l : List Oc} {bs bs' : List Nat} (h : RowsA w wj Q l bs) (hs : ∀ x ∈ bs', x ∈ bs) : RowsA w wj Q l bs' := by
 obtain ⟨vals, hO, h2⟩ := h
 exact ⟨vals, hO, fun v u g hu hg hm => h2 v u g hu hg (hs _ hm)⟩
theorem RowsA.below {w wj w' : World} {Q : List Pt} {l : List Oc} {bs : List Nat} (h : RowsA w wj Q l bs) (hb : Below wj.heap.size wj w') : RowsA w w' Q l bs := by
 obtain ⟨vals, hO, h2⟩ := h
 exact ⟨vals, hO.below hb, h2⟩
theorem RowsA.turned {w wj w' : World} {Q : List Pt} {l : List Oc} {bs : List Nat} {B : Nat} (h : RowsA w wj Q l bs) (hg : wj.grownBy w' (some B)) (hB : B < w.heap.size + 1 + 1 ∨ (B ∈ bs ∧ w.heap.size + 1 + 1 < B)) : RowsA w w' Q l bs := by
 obtain ⟨vals, hO, h2⟩ := h
 refine ⟨vals, ownRows_keep hO (hg.block _ hO.outer.lt fun e => by have := Option.some.inj e; omega) fun v u g hu hg' => hg.block g (hO.lt hu hg') fun e => ?_, h2⟩
 have e := Option.some.inj e
 subst e
 rcases hB with h3 | h3
 ·
  have := hO.young v u g hu hg'
  omega
 · exact h2 v u g hu hg' h3.1
structure BesJ (w wj : World) (Q : List Pt) (l : List Oc) (b : Nat) (kd : Int) : Prop where
 fine : fineP Q l
 held : HeldM wj w.heap.size l
 own : OwnM wj (w.heap.size + 1) l
 rows : RowsA w wj Q l [b]
 bel : Below w.heap.size w wj
 kind : wj.cell? ⟨b, 0, none⟩ = some (.int .i64 kd)
 big : w.heap.size + 3 ≤ b
theorem BesJ.grown {w wj w' : World} {Q : List Pt} {l : List Oc} {b : Nat} {kd : Int} (h : BesJ w wj Q l b kd) (hb : Below wj.heap.size wj w') : BesJ w w' Q l b kd :=
 ⟨h.fine, MG.below h.held hb, h.own.block (hb.block _ h.own.lt), h.rows.below hb, bl_trans h.bel hb, keep_cell hb h.kind, h.big⟩
theorem BesJ.toI {w wj : World} {Q : List Pt} {l : List Oc} {b : Nat} {kd : Int} (h : BesJ w wj Q l b kd) : BesI w wj Q l :=
 ⟨h.fine, h.held, h.own, by obtain ⟨vals, hO, _⟩ := h.rows; exact ⟨vals, hO⟩, h.bel⟩
theorem BesJ.lt {w wj : World} {Q : List Pt} {l : List Oc} {b : Nat} {kd : Int} (h : BesJ w wj Q l b kd) : b < wj.heap.size := World.block_lt_of_cell? _ _ h.kind
theorem BesJ.real {w wj w' : World} {Q : List Pt} {l : List Oc} {b : Nat} {kd : Int} {p : Oc} (h : BesJ w wj Q l b kd) (hp : p.2.2.2 = 0) (hn : p.2 ∉ realsO l) (hg : wj.grownBy w' (some (w.heap.size + 1))) (ho : OwnM w' (w.heap.size + 1) (l ++ [p])) : BesJ w w' Q (l ++ [p]) b kd := by
 have hne : newP l p = [] := newP_zero hp
 refine ⟨(fineP_real hp).2 ⟨h.fine, hn⟩, HeldM.real (MG.grown h.held hg (by simp)) hp, ho, ?_, h.bel.grown hg (h.bel.size) (fun j hj => by cases hj; omega), grown_cell hg h.kind (fun e => by have := h.big; have := Option.some.inj e; omega), h.big⟩
 have := h.rows.turned hg (.inl (by omega))
 unfold RowsA at this ⊢
 rw [rowsO_same hne]; exact this
theorem grB_trans {a b c : World} {r : Option Nat} (h : a.grownBy b r) (k : b.grownBy c r) : a.grownBy c r :=
 ⟨k.os.trans h.os, k.tape.trans h.tape, k.output.trans h.output, Nat.le_trans h.size k.size, fun j h1 h2 => (k.block j (Nat.lt_of_lt_of_le h1 h.size) h2).trans (h.block j h1 h2)⟩
theorem grownBy_setCell (w : World) (a : Addr) (v : Value) : w.grownBy (w.setCell a v) (some a.block) :=
 ⟨rfl, rfl, rfl, by simp, fun j _ h2 => Below.heap_setCell w a v j (fun e => h2 (by rw [e]))⟩
theorem bes_tail {w W WT w9 : World} {Q : List Pt} {l : List Oc} {p : Oc} {b bh : Nat} {kd : Int} (hp : p.2.2.2 ≠ 0) (hwf : WfZ p.2.2.2) (hf : fineP Q (l ++ [p])) (hh : HeldM W w.heap.size l) (ho : OwnM W (w.heap.size + 1) l) (hrow : RowsA w W Q (l ++ [p]) [bh, b]) (hbel : Below w.heap.size w W)
  (hk : W.cell? ⟨b, 0, none⟩ = some (.int .i64 kd)) (hbig : w.heap.size + 3 ≤ b) (hbh : b < bh) (hT : W.grownBy WT (some bh)) (h9 : WT.grownBy w9 (some w.heap.size))
  (hm : MG w9 3 w.heap.size (if (heldL l (.int .i64 p.2.2.2)).isSome then (numsO l).length else (numsO l).length + 1) (updL (heldL l) (.int .i64 p.2.2.2) (hVal (p.1, (atV p.2.2.2 l).length + 1, p.2)))) : BesJ w w9 Q (l ++ [p]) b kd := by
 have hbT : Below w.heap.size w WT := hbel.grown hT hbel.size (fun j hj => by cases hj; omega)
 refine ⟨hf, ?_, ?_, ?_, hbT.grown h9 hbT.size (fun j hj => by cases hj; exact Nat.le_refl _), ?_, hbig⟩
 ·
  unfold HeldM
  rw [nums_put hp, heldL_put hp] at hm
  exact hm
 ·
  have h1 := ho.block (hT.block _ ho.lt (fun e => by have := Option.some.inj e; omega))
  exact (h1.block (h9.block _ h1.lt (fun e => by have := Option.some.inj e; omega))).virt hp
 · exact ((hrow.turned hT (.inr ⟨by simp, by omega⟩)).turned h9 (.inl (by omega))).less
 · exact grown_cell h9 (grown_cell hT hk (fun e => by have := Option.some.inj e; omega)) (fun e => by have := Option.some.inj e; omega)
structure BesR (w W : World) (n : Nat) (l : List Oc) (R : List (List Value)) (bs : List Nat) (b : Nat) (kd : Int) : Prop where
 held : HeldM W w.heap.size l
 own : OwnM W (w.heap.size + 1) l
 rows : ∃ vals, OwnRows W (w.heap.size + 1 + 1) 33 3 n vals R ∧ ∀ (v : Nat) u g, vals[v]? = some u → u.ownBlock = some g → g ∉ bs
 bel : Below w.heap.size w W
 kind : W.cell? ⟨b, 0, none⟩ = some (.int .i64 kd)
 lt : ∀ x ∈ bs, x < W.heap.size ∧ w.heap.size + 1 + 1 < x
 mem : b ∈ bs
theorem BesR.push {w W w5 : World} {n : Nat} {l : List Oc} {R : List (List Value)} {bs : List Nat} {b : Nat} {kd : Int} (h : BesR w W n l R bs b kd) {vals : List Value} (hO : OwnRows W (w.heap.size + 1 + 1) 33 3 n vals R) (hap : ∀ (v : Nat) u g, vals[v]? = some u → u.ownBlock = some g → g ∉ bs)
  {j : Nat} {u : Value} {r : List Nat} (hu : vals[j]? = some u) (hr : R[j]? = some (r.map vN)) {o : Obj} {g5 c5 x : Nat} (hr5 : Row w5 g5 3 1 c5 (r.map vN ++ [vN x])) (hg5 : (W.alloc o).drew.grownBy w5 u.ownBlock) (hor5 : u.ownBlock = some g5 ∨ W.heap.size + 1 ≤ g5) :
  BesR w (w5.setCell ⟨w.heap.size + 1 + 1, j, none⟩ (.slice (some ⟨g5, 0, none⟩) (r.length + 1) c5)) n l (R.set j (r.map vN ++ [vN x])) bs b kd ∧
  (∀ y ∈ bs, ∀ k, W.cell? ⟨y, k, none⟩ = (w5.setCell ⟨w.heap.size + 1 + 1, j, none⟩ (.slice (some ⟨g5, 0, none⟩) (r.length + 1) c5)).cell? ⟨y, k, none⟩) ∧ (∀ y ∈ bs, ∀ k, W.frozen? ⟨y, k, none⟩ = (w5.setCell ⟨w.heap.size + 1 + 1, j, none⟩ (.slice (some ⟨g5, 0, none⟩) (r.length + 1) c5)).frozen? ⟨y, k, none⟩) ∧
  (∀ y, y < W.heap.size → y ≠ w.heap.size + 1 + 1 → u.ownBlock ≠ some y → (w5.setCell ⟨w.heap.size + 1 + 1, j, none⟩ (.slice (some ⟨g5, 0, none⟩) (r.length + 1) c5)).heap[y]? = W.heap[y]?) := by
 have hGlt := hO.outer.lt
 have hblk : ∀ y, y < W.heap.size → y ≠ w.heap.size + 1 + 1 → u.ownBlock ≠ some y → (w5.setCell ⟨w.heap.size + 1 + 1, j, none⟩ (.slice (some ⟨g5, 0, none⟩) (r.length + 1) c5)).heap[y]? = W.heap[y]? := fun y h1 h2 h3 => by
  rw [Below.heap_setCell _ _ _ _ h2, hg5.block y (by simp; omega) (fun e => h3 e.symm)]
  exact Below.heap_alloc W o y h1
 have hyoung : ∀ g, u.ownBlock = some g → w.heap.size + 1 + 1 < g := fun g hg => hO.young j u g hu hg
 have hst := (hO.alloc o).drew.stored hu hr hr5 hg5 (hor5.imp id (fun h => by simpa using h))
 rw [show (r.map vN ++ [vN x]).length = r.length + 1 by simp] at hst
 have hbs : ∀ y ∈ bs, (w5.setCell ⟨w.heap.size + 1 + 1, j, none⟩ (.slice (some ⟨g5, 0, none⟩) (r.length + 1) c5)).heap[y]? = W.heap[y]? := fun y hy => hblk y (h.lt y hy).1 (by have := (h.lt y hy).2; omega) (fun e => hap j u y hu e hy)
 have hcell : ∀ y ∈ bs, ∀ k, W.cell? ⟨y, k, none⟩ = (w5.setCell ⟨w.heap.size + 1 + 1, j, none⟩ (.slice (some ⟨g5, 0, none⟩) (r.length + 1) c5)).cell? ⟨y, k, none⟩ := fun y hy k => by
  unfold World.cell?
  rw [hbs y hy]
 have hfro : ∀ y ∈ bs, ∀ k, W.frozen? ⟨y, k, none⟩ = (w5.setCell ⟨w.heap.size + 1 + 1, j, none⟩ (.slice (some ⟨g5, 0, none⟩) (r.length + 1) c5)).frozen? ⟨y, k, none⟩ := fun y hy k => by
  unfold World.frozen?
  rw [hbs y hy]
 have hsz : W.heap.size ≤ w5.heap.size := by have := hg5.size; simp at this; omega
 have hbel : Below w.heap.size w (w5.setCell ⟨w.heap.size + 1 + 1, j, none⟩ (.slice (some ⟨g5, 0, none⟩) (r.length + 1) c5)) :=
  ((bl_trans h.bel ((bl_alloc W o).drew)).grown hg5 (by have := h.bel.size; simp; omega) (fun k hk => by have := hyoung k hk; omega)).setCell (by simp; omega) _
 refine ⟨⟨h.held.block (hblk _ (MG.lt h.held) (by omega) (fun e => by have := hyoung _ e; omega)), h.own.block (hblk _ h.own.lt (by omega) (fun e => by have := hyoung _ e; omega)), ⟨_, hst, fun v u' g hu' hg => ?_⟩, hbel, by rw [← hcell b h.mem]; exact h.kind, fun y hy => ⟨by have := (h.lt y hy).1; simp; omega, (h.lt y hy).2⟩, h.mem⟩, hcell, hfro, hblk⟩
 rw [List.getElem?_set] at hu'
 by_cases hv : j = v
 ·
  subst hv
  rw [if_pos rfl, if_pos (List.getElem?_eq_some_iff.1 hu).1] at hu'
  cases hu'
  have e : g5 = g := Option.some.inj hg
  subst e
  rcases hor5 with h5 | h5
  · exact hap j u g5 hu h5
  · exact fun hm => by have := (h.lt _ hm).1; omega
 ·
  rw [if_neg hv] at hu'
  exact hap v u' g hu' hg
theorem ownRows_turn {w w' : World} {G : Nat} {tO e : TypeId} {cap : Nat} {vals : List Value} {rows : List (List Value)} (h : OwnRows w G tO e cap vals rows) {v g c : Nat} {r r' : List Value} (hu : vals[v]? = some (.slice (some ⟨g, 0, none⟩) r.length c)) (hr : rows[v]? = some r) (hr' : Row w' g e 1 c r') (hl : r'.length = r.length) (hg : w.grownBy w' (some g)) : OwnRows w' G tO e cap vals (rows.set v r') := by
 have hGg := h.young v _ g hu rfl
 refine ⟨by rw [List.length_set]; exact h.len, h.outer.grown hg (fun e => by have := Option.some.inj e; omega), fun v' u' r1 hu' hr1 => ?_, h.young, h.apart⟩
 rw [List.getElem?_set] at hr1
 by_cases hv : v = v'
 ·
  subst hv
  rw [if_pos rfl, if_pos (List.getElem?_eq_some_iff.1 hr).1] at hr1
  cases hr1
  rw [hu] at hu'
  cases hu'
  rw [← hl]
  exact hr'.own1
 ·
  rw [if_neg hv] at hr1
  exact (h.own v' u' r1 hu' hr1).below fun j hj => hg.block j (h.lt hu' hj) (fun e => h.apart v v' _ u' g hv hu hu' rfl (by rw [hj]; exact e))
def srtRows (n : Nat) (l : List Oc) (j : Nat) : List (List Value) := (List.range n).map fun k => (if k < j then srtN (outO (pairsO l) k) else outO (pairsO l) k).map vN
theorem srtRows_zero (n : Nat) (l : List Oc) : srtRows n l 0 = rowsO n l := by
 unfold srtRows rowsO
 refine List.map_congr_left fun k _ => ?_
 rw [if_neg (by omega)]
theorem srtRows_get {n : Nat} {l : List Oc} {j k : Nat} (h : k < n) : (srtRows n l j)[k]? = some ((if k < j then srtN (outO (pairsO l) k) else outO (pairsO l) k).map vN) := by simp [srtRows, h]
theorem srtRows_set {n : Nat} {l : List Oc} {j : Nat} (h : j < n) : (srtRows n l j).set j ((srtN (outO (pairsO l) j)).map vN) = srtRows n l (j + 1) := by
 apply List.ext_getElem (by simp [srtRows])
 intro i h1 h2
 simp only [srtRows, List.getElem_set, List.getElem_map, List.getElem_range]
 by_cases e : j = i
 · subst e; rw [if_pos rfl, if_pos (by omega)]
 ·
  rw [if_neg e]
  by_cases e2 : i < j
  · rw [if_pos e2, if_pos (by omega)]
  · rw [if_neg e2, if_neg (by omega)]
theorem srtRows_none {n : Nat} {l : List Oc} {j : Nat} (hj : outO (pairsO l) j = []) : srtRows n l (j + 1) = srtRows n l j := by
 unfold srtRows
 refine List.map_congr_left fun k _ => ?_
 by_cases e : k = j
 ·
  subst e
  rw [if_pos (by omega), if_neg (by omega), hj]
  simp [srtN]
 ·
  by_cases e2 : k < j
  · rw [if_pos e2, if_pos (by omega)]
  · rw [if_neg e2, if_neg (by omega)]
theorem srtRows_all {n : Nat} {Q : List Pt} : srtRows n (allQ Q) n = (List.range n).map fun k => (besQ Q k).map vN := by
 unfold srtRows besQ
 refine List.map_congr_left fun k hk => ?_
 rw [if_pos (List.mem_range.1 hk)]
theorem srtN_len (l : List Nat) : (srtN l).length = l.length := (srtN_perm l).length_eq
def RdQ (w : World) (a : Option Addr) (Q : List Pt) : Prop := ∀ (i : Nat) (q : Pt), Q[i]? = some q →
 ∃ b o au cu, a = some ⟨b, o, none⟩ ∧ w.cell? ⟨b, o + i * 2, none⟩ = some (.int .i64 q.1) ∧ w.cell? ⟨b, o + i * 2 + 1, none⟩ = some (.slice au q.2.length cu) ∧ RdL w au q.2 ∧ q.2.length ≤ cu ∧ cu ≤ maxLen
theorem RdQ.below {w w' : World} {a : Option Addr} {Q : List Pt} (h : RdQ w a Q) (hb : Below w.heap.size w w') : RdQ w' a Q := fun i q hq => by
 obtain ⟨b, o, au, cu, h1, h2, h3, h4, h5⟩ := h i q hq
 exact ⟨b, o, au, cu, h1, keep_cell hb h2, keep_cell hb h3, h4.below hb, h5⟩
def RetBes (w : World) (Q : List Pt) (e : Ending) (w' : World) : Prop :=
 Below w.heap.size w w' ∧ ((besideP Q ∧ ∃ G, e = .returned (.tuple #[.slice (some ⟨G, 0, none⟩) Q.length Q.length, .bool true]) ∧ RdG w' G Q.length (besQ Q)) ∨ (¬ besideP Q ∧ e = .returned (.tuple #[.slice none 0 0, .bool false])))
end Go.Proofs.YtagcbnpahgfgmaaGreat
namespace Go.Proofs.YtagcbnpahgfgmaaGreat
open Go Go.RowKit
abbrev PtR := Pt × Option Addr × Nat
def ptV (p : PtR) : Value := .slice p.2.1 p.1.2.length p.2.2
def ptC (ps : List PtR) : List Value := ps.flatMap fun p => [.int .i64 p.1.1, ptV p]
def ptQ (ps : List PtR) : List Pt := ps.map fun p => p.1
theorem ptQ_len (ps : List PtR) : (ptQ ps).length = ps.length := by simp [ptQ]
theorem ptC_len (ps : List PtR) : (ptC ps).length = ps.length * 2 := by
 induction ps with
 | nil => rfl
 | cons p ps ih => simp only [ptC, List.flatMap_cons, List.length_append, List.length_cons, List.length_nil] at ih ⊢; omega
theorem ptC_cons (p : PtR) (ps : List PtR) : ptC (p :: ps) = .int .i64 p.1.1 :: ptV p :: ptC ps := rfl
theorem ptC_append (a b : List PtR) : ptC (a ++ b) = ptC a ++ ptC b := by simp [ptC]
theorem ptC_get (ps : List PtR) (i : Nat) (h : i < ps.length) : (ptC ps)[i * 2]? = some (.int .i64 ps[i].1.1) ∧ (ptC ps)[i * 2 + 1]? = some (ptV ps[i]) := by
 induction ps generalizing i with
 | nil => simp at h
 | cons p ps ih =>
  cases i with
  | zero => simp [ptC]
  | succ i =>
   have := ih i (by simpa using h); rw [ptC_cons, show (i + 1) * 2 = i * 2 + 1 + 1 by omega]; simpa using this
theorem ptC_del (ps : List PtR) (j : Nat) (h : j < ps.length) : (ptC ps).take (j * 2) ++ (ptC ps).drop (j * 2 + 2) = ptC (ps.eraseIdx j) := by
 induction ps generalizing j with
 | nil => simp at h
 | cons p ps ih =>
  cases j with
  | zero => simp [ptC_cons]
  | succ j =>
   have := ih j (by simpa using h); rw [List.eraseIdx_cons_succ, ptC_cons, ptC_cons, show (j + 1) * 2 = j * 2 + 1 + 1 by omega, show j * 2 + 1 + 1 + 2 = (j * 2 + 2) + 1 + 1 by omega]; simp only [List.take_succ_cons, List.drop_succ_cons, List.cons_append]; rw [this]
theorem ptC_set (ps : List PtR) (i : Nat) (h : i < ps.length) (p : PtR) (hk : p.1.1 = ps[i].1.1) : (ptC ps).set (i * 2 + 1) (ptV p) = ptC (ps.set i p) := by
 induction ps generalizing i with
 | nil => simp at h
 | cons q ps ih =>
  cases i with
  | zero => simp at hk; simp [ptC_cons, hk]
  | succ i =>
   have := ih i (by simpa using h) (by simpa using hk); rw [List.set_cons_succ, ptC_cons, ptC_cons, show (i + 1) * 2 + 1 = (i * 2 + 1) + 1 + 1 by omega]; simp only [List.set_cons_succ]; rw [this]
theorem ptC_one (ps : List PtR) : ∀ u ∈ ptC ps, u.oneCell' = true := fun u hu => by
 unfold ptC at hu
 obtain ⟨p, _, hp⟩ := List.mem_flatMap.1 hu
 simp at hp
 rcases hp with rfl | rfl <;> rfl
theorem ptQ_get {ps : List PtR} {i : Nat} (h : i < ps.length) : (ptQ ps)[i]? = some ps[i].1 := by simp [ptQ, h]
theorem ptQ_set (ps : List PtR) (i : Nat) (p : PtR) : ptQ (ps.set i p) = (ptQ ps).set i p.1 := by simp [ptQ, List.map_set]
theorem ptQ_del (ps : List PtR) (j : Nat) : ptQ (ps.eraseIdx j) = (ptQ ps).eraseIdx j := by
 unfold ptQ
 induction ps generalizing j with
 | nil => rfl
 | cons p ps ih =>
  cases j with
  | zero => rfl
  | succ j => simp [ih]
def RowP (w : World) (p : PtR) : Prop := RdL w p.2.1 p.1.2 ∧ p.1.2.length ≤ p.2.2 ∧ p.2.2 ≤ maxLen ∧ ∀ ad, p.2.1 = some ad → ad.block < w.heap.size
theorem RowP.grown {w w' : World} {p : PtR} (h : RowP w p) {k : Option Nat} (hg : w.grownBy w' k) (hf : ∀ ad, p.2.1 = some ad → k ≠ some ad.block) : RowP w' p :=
 ⟨fun i u hu => by
  obtain ⟨b, o, e, hc⟩ := h.1 i u hu
  exact ⟨b, o, e, grown_cell hg hc (hf _ e)⟩, h.2.1, h.2.2.1, fun ad ha => Nat.lt_of_lt_of_le (h.2.2.2 ad ha) hg.size⟩
theorem RowP.below {w w' : World} {p : PtR} (h : RowP w p) (hb : Below w.heap.size w w') : RowP w' p :=
 ⟨h.1.below hb, h.2.1, h.2.2.1, fun ad ha => Nat.lt_of_lt_of_le (h.2.2.2 ad ha) hb.size⟩
structure PtI (w : World) (B g cap : Nat) (ps : List PtR) : Prop where
 row : Row w g 49 2 cap (ptC ps)
 len : ps.length ≤ cap
 lo : B ≤ g
 each : ∀ p ∈ ps, RowP w p ∧ ∀ ad, p.2.1 = some ad → ad.block ≠ g
namespace PtI
variable {w w' : World} {B g cap : Nat} {ps : List PtR}
theorem cap_le (h : PtI w B g cap ps) : cap ≤ maxLen := h.row.cap_le
theorem lt (h : PtI w B g cap ps) : g < w.heap.size := h.row.lt
theorem below (h : PtI w B g cap ps) (hb : Below w.heap.size w w') : PtI w' B g cap ps :=
 ⟨h.row.block (hb.block _ h.lt), h.len, h.lo, fun p hp => ⟨(h.each p hp).1.below hb, (h.each p hp).2⟩⟩
theorem rdq (h : PtI w B g cap ps) : RdQ w (some ⟨g, 0, none⟩) (ptQ ps) := fun i q hq => by
 have hi : i < ps.length := by have := (List.getElem?_eq_some_iff.1 hq).1; rwa [ptQ_len] at this
 rw [ptQ_get hi] at hq
 cases hq
 obtain ⟨h1, h2⟩ := ptC_get ps i hi
 obtain ⟨⟨r1, r2, r3, _⟩, _⟩ := h.each _ (List.getElem_mem hi)
 refine ⟨g, 0, _, _, rfl, ?_, ?_, r1, r2, r3⟩
 · rw [Nat.zero_add, h.row.cell? _ (by rw [ptC_len]; omega)]; exact h1
 · rw [Nat.zero_add, h.row.cell? _ (by rw [ptC_len]; omega)]; exact h2
theorem store (h : PtI w B g cap ps) {i : Nat} (hi : i < ps.length) {p : PtR} (hk : p.1.1 = ps[i].1.1) (hr : RowP w p) (hf : ∀ ad, p.2.1 = some ad → ad.block ≠ g) :
  PtI (w.setCell ⟨g, i * 2 + 1, none⟩ (ptV p)) B g cap (ps.set i p) := by
 have hg := grown_setCell w g (i * 2 + 1) (ptV p)
 refine ⟨?_, by rw [List.length_set]; exact h.len, h.lo, fun q hq => ?_⟩
 ·
  rw [← ptC_set ps i hi p hk]
  exact h.row.set _ _
 ·
  rcases List.mem_or_eq_of_mem_set hq with hq | rfl
  ·
   obtain ⟨h1, h2⟩ := h.each q hq; exact ⟨h1.grown hg fun ad ha e => h2 ad ha (by cases e; rfl), h2⟩
  · exact ⟨hr.grown hg fun ad ha e => hf ad ha (by cases e; rfl), hf⟩
theorem del (h : PtI w B g cap ps) {j : Nat} (hj : j < ps.length) (hr : Row w' g 49 2 cap ((ptC ps).take (j * 2) ++ (ptC ps).drop (j * 2 + 2))) (hg : w.grownBy w' (some g)) : PtI w' B g cap (ps.eraseIdx j) := by
 rw [ptC_del ps j hj] at hr
 refine ⟨hr, ?_, h.lo, fun q hq => ?_⟩
 · rw [List.length_eraseIdx, if_pos hj]; have := h.len; omega
 ·
  obtain ⟨h1, h2⟩ := h.each q (List.mem_of_mem_eraseIdx hq)
  exact ⟨h1.grown hg fun ad ha e => h2 ad ha (by cases e; rfl), h2⟩
end PtI
end Go.Proofs.YtagcbnpahgfgmaaGreat
