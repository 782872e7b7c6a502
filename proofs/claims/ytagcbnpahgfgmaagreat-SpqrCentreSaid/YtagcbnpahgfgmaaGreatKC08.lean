/- Facts that the claim rests on, part 9. -/
import Derived.Test.YtagcbnpahgfgmaaGreatKC07
namespace Go.Proofs.YtagcbnpahgfgmaaGreat
open Go Go.RowKit
set_option maxHeartbeats 1000000 in
theorem asks_walk (cb db gc gd n j : Nat) (cut : Nat → Bool) (dir : Nat → Nat) (t : Bool) (w : World) (hc : w.cell? ⟨cb, 0, none⟩ = some (.slice (some ⟨gc, 0, none⟩) n n)) (hd : w.cell? ⟨db, 0, none⟩ = some (.slice (some ⟨gd, 0, none⟩) n n))
  (hrc : Row w gc 4 1 n (rowB n cut)) (hrd : Row w gd 3 1 n (rowN n dir)) (hj : j < n) (ht : (cut j || decide (1 < dir j)) = t) :
  Calls Tryz.prog 88 #[.int .i64 j, .pointer (some ⟨cb, 0, none⟩), .pointer (some ⟨db, 0, none⟩)] w fun e w' => e = .returned (.bool t) ∧ w = w' := by
 have c1 := hrc.atB hj
 have c2 := hrd.atN hj
 cases hcj : cut j with
 | true =>
  rw [hcj, Bool.true_or] at ht
  rw [hcj] at c1
  subst ht
  clear hcj
  go_enter Tryz.func88, Tryz.ntmps88
  go_wp2_with fail
  go_ret
  exact ⟨rfl, rfl⟩
 | false =>
  rw [hcj, Bool.false_or] at ht
  rw [hcj] at c1
  obtain ⟨d, hd0⟩ : ∃ d, d = dir j := ⟨_, rfl⟩
  rw [← hd0] at ht c2
  clear hcj hd0
  cases t with
  | true =>
   have q : 1 < d := by simpa using ht
   have q1 : decide ((1 : Int) < (d : Int)) = true := by simp; omega
   clear q; go_enter Tryz.func88, Tryz.ntmps88; go_wp2_with fail; go_ret; exact ⟨rfl, rfl⟩
  | false =>
   have q : ¬ 1 < d := by simpa using ht
   have q1 : decide ((1 : Int) < (d : Int)) = false := by simp; omega
   clear q; go_enter Tryz.func88, Tryz.ntmps88; go_wp2_with fail; go_ret; exact ⟨rfl, rfl⟩
theorem count_step (l : List Nat) (m : Nat) (h : m < l.length) : upd (fun u => (l.take m).count u) l[m] ((l.take m).count l[m] + 1) = fun u => (l.take (m + 1)).count u := by
 funext u
 rw [List.take_succ_eq_append_getElem h, List.count_append]
 unfold upd
 by_cases e : u = l[m]
 · rw [if_pos e, e]; simp
 ·
  rw [if_neg e]
  have : List.count u [l[m]] = 0 := by rw [List.count_eq_zero]; simpa using e
  show List.count u (l.take m) = List.count u (l.take m) + List.count u [l[m]]
  omega
set_option maxRecDepth 100000 in
set_option maxHeartbeats 8000000 in
theorem first_walk (a : Option Addr) (cap : Nat) (ls : List Lk) (w : World) (hr : RdL w a ls) (hcap : ls.length ≤ 9223372036854775807) :
  Calls Tryz.prog 59 #[.slice a ls.length cap] w (RetF w (firstL ls)) := by
 cases h2 : twoL ls with
 | false =>
  have hc := first_no h2
  have H2 := Lib.hid h2; have Hc := Lib.hid hc; clear h2 hc
  go_enter Tryz.func59, Tryz.ntmps59
  go_wp2_with fail
  go_step3
  go_wp2_with fail
  refine (two_walk a cap ls _ hr hcap).mono ?_
  rw [H2.out]
  rintro e w1 ⟨rfl, hb1⟩
  go_wp2_with fail
  rw [Hc.out]
  try rw [Exit.noGoto_ret]
  exact bodyPost_ret (v := .tuple #[.int .i64 0, .int .i64 0, .bool false, .int .i64 130]) (by simp [results, Tryz.results59, go_sem]) rfl ⟨rfl, hb1⟩
 | true =>
  have hR := two_right h2
  have hn := hR.1
  obtain ⟨vs, hvs⟩ : ∃ vs, vs = vertsL ls := ⟨_, rfl⟩
  have hvl : vs.length ≤ 2000 := by rw [hvs]; have := vertsL_length ls; omega
  have hv2 : 2 ≤ vs.length := by rw [hvs]; exact two_verts h2
  have Hvs := Lib.hid hvs; have H2 := Lib.hid h2; have HR := Lib.hid hR; clear hvs h2 hR
  have hmi := run_make_row' (P := Tryz.prog) 33 3 (.int .i64 0) 8 Tryz.underlying33 int_info rfl .i64 .i64 vs.length (by omega) (by omega)
  go_enter Tryz.func59, Tryz.ntmps59
  go_wp2_with fail
  go_step3
  go_wp2_with fail
  refine (two_walk a cap ls _ hr hcap).mono ?_
  rw [H2.out]
  rintro e w1 ⟨rfl, hb1⟩
  go_wp2_with fail
  refine (verts_walk a cap ls _ (hr.below hb1) (by omega)).mono ?_
  rw [← Hvs.out]
  rintro e w2 ⟨av, cv, rfl, hrv, _, hvc, hvm, hb2⟩
  have hB2 := bl_trans hb1 hb2
  have hr2 := hr.below hB2
  clear hb1 hb2 hr
  by_cases hs : vs.length = 2
  ·
   have q0 : ((vs.length : Int) == 2) = true := by rw [hs]; rfl
   have q0' : (vs.length == 2) = true := by rw [hs]; rfl
   have hps := pair_small HR.out (by rw [← Hvs.out]; exact hs); by_cases h4 : ls.length < 4
   ·
    have q1 : decide ((ls.length : Int) < 4) = true := by simp; omega
    have hfin : firstL ls = (0, 0, false, 0) := first_none H2.out fun i k hik hk => by
     rw [← Hvs.out, hs] at hk; obtain rfl : k = 1 := by omega
     obtain rfl : i = 0 := by omega
     rw [hps]; simp; omega
    have Hfin := Lib.hid hfin; clear hfin hps hs h4; go_wp2_with fail; rw [Hfin.out]; try rw [Exit.noGoto_ret]
    exact bodyPost_ret (v := .tuple #[.int .i64 0, .int .i64 0, .bool false, .int .i64 0]) (by simp [results, Tryz.results59, go_sem]) rfl ⟨rfl, hB2⟩
   ·
    have q1 : decide ((ls.length : Int) < 4) = false := by simp; omega
    obtain ⟨b, o, rfl, c0⟩ := hrv.at 0 (by omega); obtain ⟨b', o', e', c1⟩ := hrv.at 1 (by omega); cases e'; obtain ⟨x, hx⟩ : ∃ x, vs[0]'(by omega) = x := ⟨_, rfl⟩
    obtain ⟨y, hy⟩ : ∃ x, vs[1]'(by omega) = x := ⟨_, rfl⟩
    rw [hx] at c0; rw [hy] at c1; simp only [Nat.add_zero] at c0; have hfin : firstL ls = (x, y, true, 0) := by
     have h1 := first_at H2.out (i := 0) (k := 1) ⟨by omega, by rw [← Hvs.out]; omega, by rw [hps]; simp; omega, fun k' h1 h2 => absurd h1 (by omega), fun i' k' h1 => absurd h1 (by omega)⟩; rw [h1, ← Hvs.out, getD_at (by omega), getD_at (by omega), hx, hy]
    have l0 : (0 : Int) < (vs.length : Int) := by omega
    have l1 : (1 : Int) < (vs.length : Int) := by omega
    have Hfin := Lib.hid hfin; clear hfin hps hx hy hs h4; go_wp2_with fail; go_quiet (fail)
    go_wp2_with fail; rw [Hfin.out]; try rw [Exit.noGoto_ret]
    exact bodyPost_ret (v := .tuple #[.int .i64 x, .int .i64 y, .bool true, .int .i64 0]) (by simp [results, Tryz.results59, go_sem]) rfl ⟨rfl, below_drewN hB2 _⟩
  ·
   have h3 : 3 ≤ vs.length := by omega
   have q0 : ((vs.length : Int) == 2) = false := by simp only [beq_eq_false_iff_ne, ne_eq]; omega
   have q0' : (vs.length == 2) = false := by simpa using hs
   clear hs; go_wp2_with fail; refine (neighbours_walk a cap ls av cv vs _ hr2 HR.out Hvs.out hrv hvc).mono ?_; rintro e w3 ⟨G, rfl, hG, hGsz, hb3⟩; have hB3 := bl_trans hB2 hb3; have hrv3 := hrv.below hb3; clear hB2 hb3 hrv hr2; go_wp2_with fail; go_step3; go_wp2_with fail; go_loopg [8, 9, 40] vs.length (fun r av' bv' iv wj => ∃ i : Nat, i + r = vs.length ∧ iv = .int .i64 i ∧ av' = .int .i64 (-1) ∧ bv' = .int .i64 (-1) ∧ (∀ i' k', i' < i → i' < k' → k' < vs.length → pairAt ls i' k' = false) ∧ Below w3.heap.size w3 wj)
   case atStart => exact ⟨0, by omega, rfl, rfl, rfl, fun i' k' h => absurd h (by omega), bl_refl _⟩
   case round =>
    obtain ⟨i, hi, rfl, rfl, rfl, hall, hbi⟩ := hrel; have Hi := Lib.hid hi; have Hall := Lib.hid hall; clear hall; by_cases hil : i < vs.length
    ·
     clear hi; obtain ⟨gO, rfl⟩ : ∃ n : Nat, n = gk := ⟨_, rfl⟩
     obtain ⟨x, hx⟩ : ∃ x, vs[i] = x := ⟨_, rfl⟩
     have hok := HR.out.2.1; have hsy : ∀ a b, b ∈ nbN vs ls a → a ∈ nbN vs ls b := by rw [Hvs.out]; exact nbN_symm hok
     have hlt2 : ∀ v, v < vs.length → ∀ x ∈ nbN vs ls v, x < vs.length := fun v _ x hx => by
      rw [Hvs.out] at hx ⊢; exact (nbN_lt hok hx).1
     have hlen : ∀ v, v < vs.length → (nbN vs ls v).length ≤ 1000 := fun v _ => by have := nbN_len vs ls v; omega
     have hsum : restS vs.length (nbN vs ls) (fun _ => 0) ≤ 100000000 := by
      have h1 := restS_le hlen; have h2 : vs.length * 1000 ≤ 2000 * 1000 := Nat.mul_le_mul_right _ hvl; omega
     have hcuts := cuts_walk G vs.length (nbN vs ls) (i : Int) wr (hG.below hbi) hsy hlt2 (by omega) (fun v hv => by have := hlen v hv; omega) hsum (by omega) (by omega); have hli := hlen i hil; have hlti := hlt2 i hil; obtain ⟨au, cu, gci, gca⟩ := hG i hil; have Hlti := Lib.hid hlti; clear hok hsy hlt2 hlen hsum hlti; go_wp2_with fail; refine hcuts.mono ?_; rintro e w4 ⟨jn, cut, gc, rfl, hrc, hgc, hb4, hspec⟩; have hask : ∀ u y, vs[u]? = some y → i ≠ u → (cut u || decide (1 < (nbN vs ls i).count u)) = pairAt ls i u := fun u y hu hiu => by
      rw [Hvs.out] at hspec hu ⊢; have hxi : (vertsL ls)[i]? = some x := by rw [← Hvs.out, List.getElem?_eq_getElem hil, hx]
      have h1 := pair_ask H2.out (by rw [← Hvs.out]; exact h3) hxi hu hiu hspec; rw [h1]; unfold pairAt; have hil' := (List.getElem?_eq_some_iff.1 hxi).1; have hul' := (List.getElem?_eq_some_iff.1 hu).1; rw [getD_at hil', getD_at hul', (List.getElem?_eq_some_iff.1 hxi).2, (List.getElem?_eq_some_iff.1 hu).2]
     have Hask := Lib.hid hask; have hbi4 := bl_trans hbi hb4; have gci4 := keep_cell hbi4 gci; have gca4 := gca.below hbi4; have hgcl := hrc.lt; clear hask hspec hcuts hgc hb4 hbi gci; go_upto_region 15 with (fail)
     obtain ⟨cb, hcb⟩ : ∃ x, x = w4.heap.size := ⟨_, rfl⟩
     have hx0 : (w4.alloc (.cells #[.slice (some ⟨gc, 0, none⟩) vs.length vs.length] 78)).cell? ⟨cb, 0, none⟩ = some (.slice (some ⟨gc, 0, none⟩) vs.length vs.length) := cell_new1 hcb; have hsA : (w4.alloc (.cells #[.slice (some ⟨gc, 0, none⟩) vs.length vs.length] 78)).heap.size = w4.heap.size + 1 := by simp
     have hrow0 : Row ((w4.alloc (.cells #[.slice (some ⟨gc, 0, none⟩) vs.length vs.length] 78)).alloc (.cells (madeCells #[.int .i64 0] vs.length) 3)) (w4.heap.size + 1) 3 1 vs.length (rowN vs.length fun _ => 0) := by
      have := row_made (w4.alloc (.cells #[.slice (some ⟨gc, 0, none⟩) vs.length vs.length] 78)) (.int .i64 0) vs.length 3 (by unfold maxLen; omega); rwa [rowN_zero, hsA] at this
     have hbA1 := bl_alloc w4 (.cells #[.slice (some ⟨gc, 0, none⟩) vs.length vs.length] 78); generalize w4.alloc (.cells #[.slice (some ⟨gc, 0, none⟩) vs.length vs.length] 78) = w5 at hx0 hsA hrow0 hbA1 ⊢; have hbA2 := bl_alloc w5 (.cells (madeCells #[.int .i64 0] vs.length) 3); have hx1 := keep_cell hbA2 hx0; have hsB : (w5.alloc (.cells (madeCells #[.int .i64 0] vs.length) 3)).heap.size = w4.heap.size + 1 + 1 := by rw [← hsA]; simp
     generalize w5.alloc (.cells (madeCells #[.int .i64 0] vs.length) 3) = w6 at hx1 hsB hrow0 hbA2 ⊢; have hbA3 := bl_alloc w6 (.cells #[.slice (some ⟨w4.heap.size + 1, 0, none⟩) vs.length vs.length] 33); have hx2 := keep_cell hbA3 hx1; have hd2 : (w6.alloc (.cells #[.slice (some ⟨w4.heap.size + 1, 0, none⟩) vs.length vs.length] 33)).cell? ⟨w4.heap.size + 1 + 1, 0, none⟩ = some (.slice (some ⟨w4.heap.size + 1, 0, none⟩) vs.length vs.length) := cell_new1 hsB.symm; have hrow1 := hrow0.below hbA3 hrow0.lt; have hb6 : Below w4.heap.size w4 (w6.alloc (.cells #[.slice (some ⟨w4.heap.size + 1, 0, none⟩) vs.length vs.length] 33)) := bl_trans (bl_trans hbA1 hbA2) hbA3; generalize w6.alloc (.cells #[.slice (some ⟨w4.heap.size + 1, 0, none⟩) vs.length vs.length] 33) = w7 at hx2 hd2 hrow1 hb6 ⊢; clear hx0 hx1 hsA hsB hrow0 hbA1 hbA2 hbA3; obtain ⟨gd, hgd⟩ : ∃ x, x = w4.heap.size + 1 := ⟨_, rfl⟩
     obtain ⟨db, hdb⟩ : ∃ x, x = w4.heap.size + 1 + 1 := ⟨_, rfl⟩
     rw [← hdb] at hd2 ⊢; rw [← hgd] at hd2 hrow1 ⊢; rw [← hcb] at ⊢; have n1 : cb ≠ gd := by omega
     have n2 : db ≠ gd := by omega
     have n3 : w4.heap.size ≤ gd := by omega
     have n4 : gc ≠ gd := by omega
     have N1 := Lib.hid n1; have N2 := Lib.hid n2; have N4 := Lib.hid n4; clear hgd hdb hcb n1 n2 n4; have gci7 := keep_cell hb6 gci4; have hgN : ∀ (wj : World), Below w4.heap.size w4 wj → CellsAt wj au ((nbN vs ls i).map vN) := fun wj hwj => gca.below (bl_trans hbi4 hwj); have HgN := Lib.hid hgN; clear hgN gca4 gci4 gca; obtain ⟨L, hL⟩ : ∃ L, L = nbN vs ls i := ⟨_, rfl⟩
     rw [← hL] at gci7 hli HgN Hlti Hask; clear hL; go_wp2_with fail; go_loopg [57] L.length (fun r mv wj => ∃ m : Nat, m + r = L.length ∧ mv = .int .i64 m ∧ Row wj gd 3 1 vs.length (rowN vs.length fun u => (L.take m).count u) ∧ wj.cell? ⟨cb, 0, none⟩ = some (.slice (some ⟨gc, 0, none⟩) vs.length vs.length) ∧ wj.cell? ⟨db, 0, none⟩ = some (.slice (some ⟨gd, 0, none⟩) vs.length vs.length) ∧ Below w4.heap.size w4 wj)
     case atStart => exact ⟨0, by omega, rfl, by simpa using hrow1, hx2, hd2, hb6⟩
     case round =>
      clear hrow1 hx2 hd2 hb6 gci7; obtain ⟨m, hm, rfl, hrow, hx2, hd2, hb⟩ := hrel; have Hm := Lib.hid hm; by_cases hml : m < L.length
      ·
       clear hm; obtain ⟨bu, ou, eau, cu0⟩ := HgN.out wr hb m (vN L[m]) (by simp [hml]); subst eau; have hu := Hlti.out L[m] (List.getElem_mem hml); have hcs := count_step L m hml; obtain ⟨u, hue⟩ : ∃ u, u = L[m] := ⟨_, rfl⟩
       rw [← hue] at cu0 hu hcs; unfold vN at cu0; have c1 := hrow.atN hu; have f1 := hrow.frozen u; have hgl := hrow.lt; obtain ⟨d, hd⟩ : ∃ d, d = (L.take m).count u := ⟨_, rfl⟩
       have hdl : d ≤ 1000 := by rw [hd]; have h1 := List.count_le_length (a := u) (l := L.take m); rw [List.length_take] at h1; omega
       rw [← hd] at c1 hcs; have i1 : IntKind.i64.wrap ((d : Int) + 1) = (d : Int) + 1 := IntWalk.i64_in _ (by omega); have hrow2 : Row (wr.setCell ⟨gd, u, none⟩ (.int .i64 ((d : Int) + 1))) gd 3 1 vs.length (rowN vs.length fun u => (L.take (m + 1)).count u) := by
        have := hrow.set u (.int .i64 ((d : Int) + 1)); rw [show (Value.int .i64 ((d : Int) + 1)) = vN (d + 1) by unfold vN; simp, rowN_set, hcs] at this; rw [show (Value.int .i64 ((d : Int) + 1)) = vN (d + 1) by unfold vN; simp]; exact this
       have hx3 : (wr.setCell ⟨gd, u, none⟩ (.int .i64 ((d : Int) + 1))).cell? ⟨cb, 0, none⟩ = some (.slice (some ⟨gc, 0, none⟩) vs.length vs.length) := (World.cell?_setCell_far wr ⟨gd, u, none⟩ ⟨cb, 0, none⟩ _ (fun e => N1.out e.symm)).trans hx2; have hd3 : (wr.setCell ⟨gd, u, none⟩ (.int .i64 ((d : Int) + 1))).cell? ⟨db, 0, none⟩ = some (.slice (some ⟨gd, 0, none⟩) vs.length vs.length) := (World.cell?_setCell_far wr ⟨gd, u, none⟩ ⟨db, 0, none⟩ _ (fun e => N2.out e.symm)).trans hd2; have hb3 : Below w4.heap.size w4 (wr.setCell ⟨gd, u, none⟩ (.int .i64 ((d : Int) + 1))) := hb.setCell n3 _; have Hrow2 := Lib.hid hrow2; have Hx3 := Lib.hid hx3; have Hd3 := Lib.hid hd3; clear hcs hd hue hrow2 hx3 hd3 hrow hx2; go_wp2_with fail; go_roundg (gk - 1)
       case measure => have := Hm.out; omega
       case rel => exact ⟨m + 1, by have := Hm.out; omega, by go_num, Hrow2.out, Hx3.out, Hd3.out, hb3⟩
      ·
       have hmn : m = L.length := by omega
       subst hmn; rw [List.take_length] at hrow; clear hm; have hrcE := hrc.below hb hgcl; have hrvE := hrv3.below (bl_trans hbi4 hb); have hbE := bl_trans hbi4 hb; have hbW := bl_trans hB3 hbE; obtain ⟨wE, rfl⟩ : ∃ wo : World, wo = wr := ⟨_, rfl⟩
       have hasks := fun (j : Nat) (t : Bool) (hj : j < vs.length) (ht : (cut j || decide (1 < L.count j)) = t) => asks_walk cb db gc gd vs.length j cut (fun u => L.count u) t wE hx2 hd2 hrcE hrow hj ht; have Hasks := Lib.hid hasks; clear hasks hrcE hrow hx2 hd2 hb; go_wp2_with fail; go_loopg [8, 9, 17] (vs.length - (i + 1)) (fun r a8 b9 kv wj => ∃ k : Nat, k + r = vs.length ∧ i < k ∧ kv = .int .i64 k ∧ a8 = .int .i64 (-1) ∧ b9 = .int .i64 (-1) ∧ (∀ k', i < k' → k' < k → pairAt ls i k' = false) ∧ wE = wj)
       case atStart => exact ⟨i + 1, by omega, by omega, by go_num, rfl, rfl, fun k' h1 h2 => absurd h2 (by omega), rfl⟩
       case round =>
        obtain ⟨k, hk, hik, rfl, rfl, rfl, hall2, rfl⟩ := hrel; have Hk := Lib.hid hk; have Hall2 := Lib.hid hall2; clear hall2; by_cases hkl : k < vs.length
        ·
         clear hk; obtain ⟨b, o, eav, c0⟩ := hrvE.at i hil; subst eav; obtain ⟨b', o', e', c1⟩ := hrvE.at k hkl; cases e'; obtain ⟨y, hy⟩ : ∃ y, vs[k] = y := ⟨_, rfl⟩
         rw [hx] at c0; rw [hy] at c1; have hak := Hask.out k y (by rw [List.getElem?_eq_getElem hkl, hy]) (by omega); obtain ⟨t, ht⟩ : ∃ t, t = pairAt ls i k := ⟨_, rfl⟩
         rw [← ht] at hak; have hcall := Hasks.out k t hkl hak; have Ht := Lib.hid ht; have Hy := Lib.hid hy; have Hcall := Lib.hid hcall; have Hx := Lib.hid hx; clear ht hy hak hcall; go_wp2_with fail; refine Hcall.out.mono ?_; rintro e w' ⟨rfl, rfl⟩; cases t with
         | false =>
          have hnx : ∀ k', i < k' → k' < k + 1 → pairAt ls i k' = false := fun k' h1 h2 => by
           by_cases e : k' < k
           · exact Hall2.out k' h1 e
           ·
            obtain rfl : k' = k := by omega
            exact Ht.out.symm
          have Hnx := Lib.hid hnx; clear hnx; go_wp2_with fail; go_roundg (gk - 1)
          case measure => have := Hk.out; omega
          case rel => exact ⟨k + 1, by have := Hk.out; omega, by omega, by go_num, rfl, rfl, Hnx.out, rfl⟩
         | true =>
          have hfin : firstL ls = (x, y, true, 0) := by
           have h1 := first_at H2.out (i := i) (k := k) ⟨hik, by rw [← Hvs.out]; exact hkl, Ht.out.symm, Hall2.out, by rw [← Hvs.out]; exact Hall.out⟩; rw [h1, ← Hvs.out, getD_at hil, getD_at hkl, Hx.out, Hy.out]
          have hx0 : 0 ≤ x := by
           have hxm : x ∈ vertsL ls := by rw [← Hvs.out, ← Hx.out]; exact List.getElem_mem _
           obtain ⟨q, hq, e⟩ := (mem_vertsL ls x).1 hxm; have ok := HR.out.2.1 q hq; unfold OkL at ok; rcases e with rfl | rfl <;> omega
          have q9 : decide (x < 0) = false := by simp; omega
          have Hfin := Lib.hid hfin; clear hfin hx; go_wp2_with fail; go_quiet (fail)
          go_wp2_with fail; rw [Hfin.out]; try rw [Exit.noGoto_ret]
          exact bodyPost_ret (v := .tuple #[.int .i64 x, .int .i64 y, .bool true, .int .i64 0]) (by simp [results, Tryz.results59, go_sem]) rfl ⟨rfl, below_drewN hbW _⟩
        ·
         have hkn : k = vs.length := by omega
         subst hkn; have hnx : ∀ i' k', i' < i + 1 → i' < k' → k' < vs.length → pairAt ls i' k' = false := fun i' k' h1 h2 h3 => by
          by_cases e : i' < i
          · exact Hall.out i' k' e h2 h3
          ·
           obtain rfl : i' = i := by omega
           exact Hall2.out k' h2 h3
         have Hnx := Lib.hid hnx; clear hnx hk; go_wp2_with fail; go_roundg (gO - 1)
         case measure => have := Hi.out; omega
         case rel => exact ⟨i + 1, by have := Hi.out; omega, by go_num, rfl, rfl, Hnx.out, hbE⟩
    ·
     have hin : i = vs.length := by omega
     subst hin; have hfin : firstL ls = (0, 0, false, 0) := first_none H2.out fun i' k' h1 h4 => by
      rw [← Hvs.out] at h4; exact Hall.out i' k' (by omega) h1 h4
     have Hfin := Lib.hid hfin; clear hfin hi; go_wp2_with fail; rw [Hfin.out]; try rw [Exit.noGoto_ret]
     exact bodyPost_ret (v := .tuple #[.int .i64 0, .int .i64 0, .bool false, .int .i64 0]) (by simp [results, Tryz.results59, go_sem]) rfl ⟨rfl, bl_trans hB3 hbi⟩
end Go.Proofs.YtagcbnpahgfgmaaGreat
namespace Go.Proofs.YtagcbnpahgfgmaaGreat
open Go Go.RowKit
def RetN (w : World) (z : Int) (e : Ending) (w' : World) : Prop := e = .returned (.int .i64 z) ∧ Below w.heap.size w w'
set_option maxRecDepth 100000 in
set_option maxHeartbeats 4000000 in
theorem kind_walk (a : Option Addr) (cap : Nat) (ls : List Lk) (w : World) (hr : RdL w a ls) (hcap : ls.length ≤ 9223372036854775807) :
  Calls Tryz.prog 21 #[.slice a ls.length cap] w (RetN w (kindL ls)) := by
 obtain ⟨z, hz⟩ : ∃ z, z = kindL ls := ⟨_, rfl⟩
 rw [← hz]
 unfold kindL at hz
 by_cases h3 : ls.length < 3
 ·
  have q1 : decide ((ls.length : Int) < 3) = true := by simp; omega
  rw [decide_eq_true h3] at hz
  simp at hz
  subst hz
  clear h3
  go_enter Tryz.func21, Tryz.ntmps21
  go_wp2_with fail
  go_ret
  exact ⟨rfl, bl_refl _⟩
 have q1 : decide ((ls.length : Int) < 3) = false := by simp; omega
 rw [decide_eq_false h3, Bool.false_or] at hz
 clear h3
 cases hj : joinedL ls with
 | false =>
  rw [hj] at hz
  simp at hz
  subst hz
  have Hj := Lib.hid hj; clear hj
  go_enter Tryz.func21, Tryz.ntmps21
  go_wp2_with fail
  refine (joined_walk a cap ls _ hr hcap).mono ?_
  rw [Hj.out]
  rintro e w1 ⟨rfl, hb1⟩
  go_wp2_with fail
  go_ret
  exact ⟨rfl, hb1⟩
 | true =>
  have hR := joinedR hj
  have hn := hR.1
  rw [hj] at hz
  simp only [Bool.not_true, Bool.false_eq_true, if_false] at hz
  obtain ⟨vs, hvs⟩ : ∃ vs, vs = vertsL ls := ⟨_, rfl⟩
  have hvl : vs.length ≤ 2000 := by rw [hvs]; have := vertsL_length ls; omega
  rw [← hvs] at hz
  obtain ⟨t, ht⟩ : ∃ t, t = allTwoL ls := ⟨_, rfl⟩
  obtain ⟨⟨p, q, pt, er⟩, hf⟩ : ∃ f, f = firstC ls := ⟨_, rfl⟩
  rw [← ht, ← hf] at hz
  simp only at hz
  have Hj := Lib.hid hj; have Hvs := Lib.hid hvs; have HR := Lib.hid hR; have Ht := Lib.hid ht; have Hf := Lib.hid hf; have Hz := Lib.hid hz
  clear hj hvs hR ht hf hz
  go_enter Tryz.func21, Tryz.ntmps21
  go_wp2_with fail
  refine (joined_walk a cap ls _ hr hcap).mono ?_
  rw [Hj.out]
  rintro e w1 ⟨rfl, hb1⟩
  have hr1 := hr.below hb1
  go_wp2_with fail
  refine (verts_walk a cap ls _ hr1 (by omega)).mono ?_
  rw [← Hvs.out]
  rintro e w2 ⟨av, cv, rfl, _, _, _, _, hb2⟩
  have hB2 := bl_trans hb1 hb2
  have hr2 := hr1.below hb2
  clear hb1 hb2 hr1
  by_cases h2 : vs.length = 2
  ·
   have hz := Hz.out; rw [if_pos h2] at hz; have k1 : ((vs.length : Int) == 2) = true := by simp; omega
   clear h2; subst hz; go_wp2_with fail; go_ret; exact ⟨rfl, hB2⟩
  have hz := Hz.out
  rw [if_neg h2] at hz
  have k1 : ((vs.length : Int) == 2) = false := by simp; omega
  have Hz2 := Lib.hid hz
  clear h2 hz
  go_wp2_with fail
  refine (allTwo_walk a cap ls _ hr2 HR.out).mono ?_
  rw [← Ht.out]
  rintro e w3 ⟨rfl, hb3⟩
  have hB3 := bl_trans hB2 hb3
  have hr3 := hr2.below hb3
  clear hB2 hb3 hr2
  cases t with
  | true =>
   have hz := Hz2.out; simp at hz; subst hz; go_wp2_with fail; go_ret; exact ⟨rfl, hB3⟩
  | false =>
   have hz := Hz2.out; simp only [Bool.false_eq_true, if_false] at hz; by_cases h4 : vs.length < 4
   ·
    have k2 : decide ((vs.length : Int) < 4) = true := by simp; omega
    rw [if_pos h4] at hz; subst hz; clear h4; go_wp2_with fail; go_ret; exact ⟨rfl, hB3⟩
   have k2 : decide ((vs.length : Int) < 4) = false := by simp; omega
   rw [if_neg h4] at hz; have Hz3 := Lib.hid hz; clear h4 hz; go_wp2_with fail; refine (first_walk a cap ls _ hr3 hcap).mono ?_; rw [first_c, ← Hf.out]; rintro e w4 ⟨rfl, hb4⟩; simp only; have hB4 := bl_trans hB3 hb4; clear hB3 hb4 hr3; by_cases he : er = 0
   ·
    have k3 : (er != 0) = false := by simpa using he
    have hz := Hz3.out; rw [decide_eq_false (by simpa using he)] at hz; simp only [Bool.false_or] at hz; clear he; cases pt with
    | true =>
     simp at hz; subst hz; go_wp2_with fail; go_ret; exact ⟨rfl, hB4⟩
    | false =>
     simp at hz; subst hz; go_wp2_with fail; go_ret; exact ⟨rfl, hB4⟩
   ·
    have k3 : (er != 0) = true := by simpa using he
    have hz := Hz3.out; rw [decide_eq_true (by simpa using he)] at hz; simp at hz; subst hz; clear he; go_wp2_with fail; go_ret; exact ⟨rfl, hB4⟩
end Go.Proofs.YtagcbnpahgfgmaaGreat
namespace Go.Proofs.YtagcbnpahgfgmaaGreat
open Go Go.RowKit
set_option maxHeartbeats 1000000 in
theorem cmp1_walk (x y : Lk) (w : World) :
  Calls Tryz.prog 78 #[.agg #[.int .i64 x.1, .int .i64 x.2.1, .int .i64 x.2.2], .agg #[.int .i64 y.1, .int .i64 y.2.1, .int .i64 y.2.2]] w (RetN w (cmpL x y)) := by
 have hpe := fun w => lk_eq x y w
 unfold lkV at hpe
 obtain ⟨x1, x2, x3⟩ := x
 obtain ⟨y1, y2, y3⟩ := y
 simp only at hpe ⊢
 have hgt : Tryz.prog.eqGuardType Tryz.prog.depth 38 = false := by kernel_rfl
 have hB := bl_trans (bl_alloc w (.cells #[.int .i64 x1, .int .i64 x2, .int .i64 x3] 38)) (bl_alloc _ (.cells #[.int .i64 y1, .int .i64 y2, .int .i64 y3] 38))
 obtain ⟨z, hz⟩ : ∃ z, z = cmpL (x1, x2, x3) (y1, y2, y3) := ⟨_, rfl⟩
 rw [← hz]
 by_cases he : ((x1, x2, x3) : Lk) = (y1, y2, y3)
 ·
  rw [decide_eq_true he] at hpe
  have h0 := cmpL_zero.2 he
  rw [← hz] at h0
  clear he hz
  subst h0
  go_enter Tryz.func78, Tryz.ntmps78
  go_wp2_with fail
  go_ret
  exact ⟨rfl, hB⟩
 ·
  rw [decide_eq_false he] at hpe
  unfold cmpL orI at hz
  simp only at hz
  by_cases h1 : x1 = y1
  ·
   have k1 : (x1 != y1) = false := by simpa using h1
   by_cases h2 : x2 = y2
   ·
    have k2 : (x2 != y2) = false := by simpa using h2
    have hc : z = cmpI x3 y3 := by
     rw [hz, if_pos (by unfold cmpI; rw [h1]; simp), if_pos (by unfold cmpI; rw [h2]; simp)]
    clear hz he; have Hc := Lib.hid hc; have H1 := Lib.hid h1; have H2 := Lib.hid h2; clear hc h1 h2; go_enter Tryz.func78, Tryz.ntmps78; go_wp2_with (go_at_call 79; refine (compare_any _ _ _).mono ?_; rintro e w' ⟨rfl, rfl⟩); go_ret; exact ⟨by rw [Hc.out] <;> rfl, hB⟩
   ·
    have k2 : (x2 != y2) = true := by simpa using h2
    have hc : z = cmpI x2 y2 := by
     rw [hz, if_pos (by unfold cmpI; rw [h1]; simp), if_neg (by unfold cmpI; split <;> (try split) <;> omega)]
    clear hz he; have Hc := Lib.hid hc; have H1 := Lib.hid h1; clear hc h1 h2; go_enter Tryz.func78, Tryz.ntmps78; go_wp2_with (go_at_call 79; refine (compare_any _ _ _).mono ?_; rintro e w' ⟨rfl, rfl⟩); go_ret; exact ⟨by rw [Hc.out] <;> rfl, hB⟩
  ·
   have k1 : (x1 != y1) = true := by simpa using h1
   have hc : z = cmpI x1 y1 := by
    rw [hz, if_neg (by unfold cmpI; split <;> (try split) <;> omega)]
   clear hz he; have Hc := Lib.hid hc; clear hc h1; go_enter Tryz.func78, Tryz.ntmps78; go_wp2_with (go_at_call 79; refine (compare_any _ _ _).mono ?_; rintro e w' ⟨rfl, rfl⟩); go_ret; exact ⟨by rw [Hc.out] <;> rfl, hB⟩
theorem cmpLs_at {x y : List Lk} {i : Nat} (hx : i < x.length) (hy : i < y.length) : cmpLs (x.drop i) (y.drop i) = if cmpL x[i] y[i] = 0 then cmpLs (x.drop (i + 1)) (y.drop (i + 1)) else cmpL x[i] y[i] := by
 rw [List.drop_eq_getElem_cons hx, List.drop_eq_getElem_cons hy]
 rfl
set_option maxRecDepth 100000 in
set_option maxHeartbeats 4000000 in
theorem compareF_walk (a b : Option Addr) (ca cb : Nat) (x y : List Lk) (w : World) (hx : RdL w a x) (hy : RdL w b y) (hxl : x.length ≤ 9223372036854775807) (hyl : y.length ≤ 9223372036854775807) :
  Calls Tryz.prog 77 #[.slice a x.length ca, .slice b y.length cb, .func (.func 78) #[] #[]] w (RetN w (cmpLs x y)) := by
 obtain ⟨z, hz⟩ : ∃ z, z = cmpLs x y := ⟨_, rfl⟩
 rw [← hz]
 have Hz := Lib.hid hz; clear hz
 go_enter Tryz.func77, Tryz.ntmps77
 go_wp2_with fail
 go_loopg [13] x.length (fun r iv wj => ∃ i : Nat, i + r = x.length ∧ i ≤ y.length ∧ iv = .int .i64 i ∧ cmpLs (x.drop i) (y.drop i) = cmpLs x y ∧ Below w.heap.size w wj)
 case atStart => exact ⟨0, by omega, by omega, rfl, rfl, bl_refl _⟩
 case round =>
  obtain ⟨i, hi, hiy, rfl, hst, hb⟩ := hrel
  have Hi := Lib.hid hi
  by_cases hil : i < x.length
  ·
   clear hi; have hst' := hst; obtain ⟨b1, o1, rfl, p0, p1, p2⟩ := (hx.below hb).at i hil; by_cases hly : i < y.length
   ·
    obtain ⟨b2, o2, rfl, q0, q1, q2⟩ := (hy.below hb).at i hly; rw [cmpLs_at hil hly] at hst; obtain ⟨⟨x1, x2, x3⟩, hxe⟩ : ∃ u : Lk, x[i] = u := ⟨_, rfl⟩
    obtain ⟨⟨y1, y2, y3⟩, hye⟩ : ∃ u : Lk, y[i] = u := ⟨_, rfl⟩
    rw [hxe] at p0 p1 p2 hst; rw [hye] at q0 q1 q2 hst; simp only at p0 p1 p2 q0 q1 q2; have g0 : decide ((y.length : Int) ≤ (i : Int)) = false := by simp; omega
    have g0' : decide (y.length ≤ i) = false := by simp; omega
    have hba := bl_alloc wr (.cells #[.int .i64 x1, .int .i64 x2, .int .i64 x3] 38); have q0' := keep_cell hba q0; have q1' := keep_cell hba q1; have q2' := keep_cell hba q2; have i2 : (i : Int) < (y.length : Int) := by omega
    have Hst := Lib.hid hst; obtain ⟨c, hc⟩ : ∃ c, c = cmpL (x1, x2, x3) (y1, y2, y3) := ⟨_, rfl⟩
    have Hc := Lib.hid hc; clear hxe hye hst hst' hba q0 q1 q2 hc; go_wp2_with fail; refine (cmp1_walk (x1, x2, x3) (y1, y2, y3) _).mono ?_; rw [← Hc.out]; rintro e w2 ⟨rfl, hb2⟩; have hB := bl_trans hb (bl_trans (bl_trans (bl_alloc _ _) (bl_alloc _ _)) hb2); by_cases h0 : c = 0
    ·
     have k0 : (c != 0) = false := by simpa using h0
     have hnx : cmpLs (x.drop (i + 1)) (y.drop (i + 1)) = cmpLs x y := by rw [← Hst.out, if_pos (by rw [← Hc.out]; exact h0)]
     have Hnx := Lib.hid hnx; clear h0 hnx; go_wp2_with fail; go_roundg (gk - 1)
     case measure => have := Hi.out; omega
     case rel => exact ⟨i + 1, by have := Hi.out; omega, by omega, by go_num, Hnx.out, hB⟩
    ·
     have k0 : (c != 0) = true := by simpa using h0
     have hfin : z = c := by rw [Hz.out, ← Hst.out, if_neg (by rw [← Hc.out]; exact h0), ← Hc.out]
     have Hfin := Lib.hid hfin; clear h0 hfin; go_wp2_with fail; go_ret; exact ⟨by rw [Hfin.out] <;> rfl, hB⟩
   ·
    have hiy2 : i = y.length := by omega
    subst hiy2; have hfin : z = 1 := by
     rw [Hz.out, ← hst', List.drop_eq_getElem_cons hil, List.drop_eq_nil_of_le (Nat.le_refl _)]; rfl
    subst hfin; obtain ⟨⟨x1, x2, x3⟩, hxe⟩ : ∃ u : Lk, x[y.length] = u := ⟨_, rfl⟩
    rw [hxe] at p0 p1 p2; simp only at p0 p1 p2; clear hst hst' hxe hly; go_wp2_with fail; go_ret; exact ⟨rfl, bl_trans hb (bl_alloc _ _)⟩
  ·
   have hin : i = x.length := by omega
   subst hin; clear hi; rw [List.drop_eq_nil_of_le (Nat.le_refl x.length)] at hst; by_cases hly : x.length < y.length
   ·
    have hfin : z = -1 := by
     rw [Hz.out, ← hst, List.drop_eq_getElem_cons hly]; rfl
    have k1 : decide ((x.length : Int) < (y.length : Int)) = true := by simp; omega
    have k2 : decide (x.length < y.length) = true := by simp; omega
    subst hfin; clear hst hly; go_wp2_with fail; go_ret; exact ⟨rfl, hb⟩
   ·
    have hfin : z = 0 := by
     rw [Hz.out, ← hst, List.drop_eq_nil_of_le (by omega)]; rfl
    have k1 : decide ((x.length : Int) < (y.length : Int)) = false := by simp; omega
    have k2 : decide (x.length < y.length) = false := by simp; omega
    subst hfin; clear hst hly; go_wp2_with fail; go_ret; exact ⟨rfl, hb⟩
theorem compareP_walk (a b : Option Addr) (ca cb : Nat) (x y : List Lk) (w : World) (hx : RdL w a x) (hy : RdL w b y) (hxl : x.length ≤ 9223372036854775807) (hyl : y.length ≤ 9223372036854775807) :
  Calls Tryz.prog 39 #[.slice a x.length ca, .slice b y.length cb] w (RetN w (cmpLs x y)) := by
 go_enter Tryz.func39, Tryz.ntmps39
 go_wp2_with fail
 refine (compareF_walk a b ca cb x y _ hx hy hxl hyl).mono ?_
 rintro e w1 ⟨rfl, hb1⟩
 go_wp2_with fail
 go_ret
 exact ⟨rfl, hb1⟩
end Go.Proofs.YtagcbnpahgfgmaaGreat
namespace Go.Proofs.YtagcbnpahgfgmaaGreat
open Go Go.RowKit Go.Maps
theorem besQ_len {Q : List Pt} (hQ : Q.length ≤ 1000) (hR : ∀ q ∈ Q, q.2.length ≤ 1000) (v : Nat) : (besQ Q v).length ≤ 4000000 := by
 unfold besQ
 rw [srtN_len]
 have h1 := outO_len (pairsO (allQ Q)) v
 have h2 := pairsO_len (allQ Q)
 have h3 := allQ_len hQ hR Q.length 0 (Nat.le_refl _)
 rw [preQ_zero] at h3
 have h4 : (preO Q Q.length).length = (allQ Q).length := rfl
 omega
def RetTree (w : World) (Q : List Pt) (e : Ending) (w' : World) : Prop :=
 Below w.heap.size w w' ∧ ((RightQ Q ∧ ∃ G, e = .returned (.tuple #[.slice (some ⟨G, 0, none⟩) Q.length Q.length, .bool true]) ∧ RdG w' G Q.length (besQ Q)) ∨ (¬ RightQ Q ∧ ∃ v, e = .returned (.tuple #[v, .bool false])))
set_option maxRecDepth 100000 in
set_option maxHeartbeats 8000000 in
theorem tree_walk (a : Option Addr) (cap : Nat) (Q : List Pt) (w : World) (hr : RdQ w a Q) (hQ : Q.length ≤ 1000) :
  Calls Tryz.prog 41 #[.slice a Q.length cap] w (RetTree w Q) := by
 by_cases h0 : Q.length = 0
 ·
  obtain rfl := List.eq_nil_of_length_eq_zero h0
  have hbad : ¬ RightQ ([] : List Pt) := fun h => h.ne rfl
  have Hbad := Lib.hid hbad
  clear hbad h0
  go_enter Tryz.func41, Tryz.ntmps41
  go_wp2_with fail
  go_ret2
  exact ⟨bl_refl _, .inr ⟨Hbad.out, _, rfl⟩⟩
 have e0 : ((Q.length : Int) == 0) = false := beq_eq_false_iff_ne.2 (by omega)
 have H0 := Lib.hid h0
 clear h0
 go_enter Tryz.func41, Tryz.ntmps41
 go_wp2_with fail
 clear e0
 go_loopg [18] Q.length (fun r iv wj => ∃ i : Nat, i + r = Q.length ∧ iv = .int .i64 i ∧ seenQ Q i ∧ Below w.heap.size w wj)
 case atStart => exact ⟨0, by omega, rfl, seenQ_zero Q, bl_refl _⟩
 case round =>
  obtain ⟨i, hi, rfl, hseen, hB⟩ := hrel
  have Hi := Lib.hid hi; have Hseen := Lib.hid hseen
  clear hseen
  by_cases hil : i < Q.length
  ·
   clear hi; have hqi : Q[i]? = some Q[i] := List.getElem?_eq_getElem hil; obtain ⟨bp, op, au, cu, rfl, p0, p1, hrq, hcu, hcm⟩ := (hr.below hB) i _ hqi; obtain ⟨⟨kd, ls⟩, hq⟩ : ∃ q : Pt, Q[i] = q := ⟨_, rfl⟩
   rw [hq] at p0 p1 hrq hcu; simp only at p0 p1 hrq hcu; have Hq := Lib.hid hq; have hlsl : ls.length ≤ 9223372036854775807 := by unfold maxLen at hcm; omega
   clear hqi hq; have iI : (i : Int) < (Q.length : Int) := by omega
   go_upto_region 6 with (fail)
   have hbl := bl_alloc wr (.cells #[.int .i64 kd, .slice au ls.length cu] 49); have d0 : (wr.alloc (.cells #[.int .i64 kd, .slice au ls.length cu] 49)).cell? ⟨wr.heap.size, 0, none⟩ = some (.int .i64 kd) := by simp
   have d1 : (wr.alloc (.cells #[.int .i64 kd, .slice au ls.length cu] 49)).cell? ⟨wr.heap.size, 1, none⟩ = some (.slice au ls.length cu) := by simp
   have hBa := bl_trans hB hbl; have hrqa := hrq.below hbl; obtain ⟨B8, hB8⟩ : ∃ b, b = wr.heap.size := ⟨_, rfl⟩
   rw [← hB8] at d0 d1; have hra : RdQ (wr.alloc (.cells #[.int .i64 kd, .slice au ls.length cu] 49)) (some ⟨bp, op, none⟩) Q := (hr.below hB).below hbl; rw [← hB8]; generalize (wr.alloc (.cells #[.int .i64 kd, .slice au ls.length cu] 49)) = wa at *
   clear hbl hrq p0 p1 hB hB8; by_cases hk0 : kd = 0
   ·
    subst hk0; have hbad : ¬ RightQ Q := fun h => (h.kinds _ (List.getElem_mem hil)).1 (by rw [Hq.out]); have Hbad := Lib.hid hbad; clear hbad; go_wp2_with fail; go_quiet (fail)
    go_wp2_with fail; go_ret2; exact ⟨below_drewN hBa _, .inr ⟨Hbad.out, _, rfl⟩⟩
   ·
    have e1 : (kd == 0) = false := beq_eq_false_iff_ne.2 hk0; have Hk0 := Lib.hid hk0; clear hk0; have hkw := kind_walk au cu ls wa.drew hrqa hlsl; refine regionT (fun w' => w'.cell? ⟨B8, 0, none⟩ = some (.int .i64 kd) ∧ w'.cell? ⟨B8, 1, none⟩ = some (.slice au ls.length cu)) 11 (by kernel_rfl) ?_; have hS : wa.drew.cell? ⟨B8, 0, none⟩ = some (.int .i64 kd) ∧ wa.drew.cell? ⟨B8, 1, none⟩ = some (.slice au ls.length cu) := ⟨d0, d1⟩
    refine tkT 0 ?_ rfl hS ?_ ?_ (by kernel_rfl) (fun _ _ _ h => h) (by rfl); rotate_left; (· intro wS hSw; (try dsimp only at hSw); go_simp; try with_reducible rfl); simp only [Act.put, zA, z0, z1]; refine tkT 1 ?_ rfl hS ?_ ?_ (by kernel_rfl) (fun _ _ _ h => h) (by rfl); rotate_left; (· intro wS hSw; (try dsimp only at hSw); go_simp; try with_reducible rfl); simp only [Act.put, zA, z0, z1]; refine tkT 2 ?_ rfl hS ?_ ?_ (by kernel_rfl) (fun _ _ _ h => h) (by rfl); rotate_left; (· intro wS hSw; (try dsimp only at hSw); go_simp; try with_reducible rfl); simp only [Act.put, zA, z0, z1]; refine tkT 3 ?_ rfl hS ?_ ?_ (by kernel_rfl) (fun _ _ _ h => h) (by rfl); rotate_left; (· intro wS hSw; (try dsimp only at hSw); go_simp; try with_reducible rfl); simp only [Act.put, zA, z0, z1]; refine tkT 4 ?_ rfl hS ?_ ?_ (by kernel_rfl) (fun _ _ _ h => h) (by rfl); rotate_left; (· intro wS hSw; (try dsimp only at hSw); go_simp; try with_reducible rfl); simp only [Act.put, zA, z0, z1]; refine tkT 5 ?_ rfl hS ?_ ?_ (by kernel_rfl) (fun _ _ _ h => h) (by rfl); rotate_left; (· intro wS hSw; (try dsimp only at hSw); go_simp; try with_reducible rfl); simp only [Act.put, zA, z0, z1]; refine tkT 6 ?_ rfl hS ?_ ?_ (by kernel_rfl) (fun _ _ _ h => h) (by rfl); rotate_left; (· intro wS hSw; (try dsimp only at hSw); go_simp; try with_reducible rfl); simp only [Act.put, zA, z0, z1]; refine tkT 7 ?_ rfl hS ?_ ?_ (by kernel_rfl) (fun _ _ _ h => h) (by rfl); rotate_left; (· intro wS hSw; (try dsimp only at hSw); go_simp; try with_reducible rfl); simp only [Act.put, zA, z0, z1]
    refine oneT (i := 8) rfl (by kernel_rfl) (fun K hK => ?_); go_simp; refine hkw.mono ?_; rintro e w1 ⟨rfl, hb1⟩; replace hb1 : Below wa.heap.size wa w1 := bl_trans (Below.refl wa.heap.size wa).drew hb1; have hS1 : w1.cell? ⟨B8, 0, none⟩ = some (.int .i64 kd) ∧ w1.cell? ⟨B8, 1, none⟩ = some (.slice au ls.length cu) := ⟨keep_cell hb1 d0, keep_cell hb1 d1⟩
    have hrq1 := hrqa.below hb1; have hr1 := hra.below hb1; have hB1 := bl_trans hBa hb1; simp only; refine hK _ _ (fun _ => hS1) ?_; clear hK K hS hkw d0 d1 hrqa hra hBa hb1; have hS := hS1; refine tkT 9 ?_ rfl hS ?_ ?_ (by kernel_rfl) (fun _ _ _ h => h) (by rfl); rotate_left; (· intro wS hSw; (try dsimp only at hSw); go_simp; try with_reducible rfl); simp only [Act.put, zA, z0, z1]; refine tkT 10 ?_ rfl hS ?_ ?_ (by kernel_rfl) (fun _ _ _ h => h) (by rfl); rotate_left; (· intro wS hSw; (try dsimp only at hSw); go_simp; try with_reducible rfl); simp only [Act.put, zA, z0, z1]; refine doneT (by kernel_rfl) ?_ _; obtain ⟨d0, d1⟩ := hS1; by_cases hk1 : kd = kindL ls
    ·
     have e2 : (kd != kindL ls) = false := by simpa using hk1
     have Hk1 := Lib.hid hk1; clear hk1 hS; rcases Nat.eq_zero_or_pos i with hi0 | hi0
     ·
      subst hi0; go_wp2_with fail; go_quiet (fail)
      go_wp2_with fail; go_roundg (gk - 1)
      case measure => have := Hi.out; omega
      case rel => exact ⟨1, by have := Hi.out; omega, by go_num, seenQ_next Hseen.out hil (by rw [Hq.out]; exact Hk0.out) (by rw [Hq.out]; exact Hk1.out) (fun h => absurd h (by omega)), below_drewN hB1 _⟩
     ·
      have e3 : decide ((0 : Int) < (i : Int)) = true := by simp; omega
      go_wp2_with fail; have hp1 : Q[i - 1]? = some (Q[i - 1]'(by omega)) := List.getElem?_eq_getElem (by omega); obtain ⟨b2, o2, a2, c2, hb2, p0, p1, hrp, hpu, hpm⟩ := hr1 (i - 1) _ hp1; cases hb2; obtain ⟨⟨ke, ms⟩, hq2⟩ : ∃ q : Pt, Q[i - 1]'(by omega) = q := ⟨_, rfl⟩
      rw [hq2] at p1 hrp hpu; simp only at p1 hrp hpu; have Hq2 := Lib.hid hq2; have hmsl : ms.length ≤ 9223372036854775807 := by unfold maxLen at hpm; omega
      clear hp1 p0 hq2; have ei : IntKind.i64.wrap ((i : Int) - 1) = ((i - 1 : Nat) : Int) := by rw [IntWalk.i64_in _ (by omega)]; omega
      have ii : ((i - 1 : Nat) : Int) < (Q.length : Int) := by omega
      have hcw := compareP_walk a2 au c2 cu ms ls w1.drew hrp hrq1 hmsl hlsl; refine regionT (fun w' => w'.cell? ⟨bp, op + (i - 1) * 2 + 1, none⟩ = some (.slice a2 ms.length c2) ∧ w'.cell? ⟨B8, 1, none⟩ = some (.slice au ls.length cu)) 14 (by kernel_rfl) ?_; have hS : w1.drew.cell? ⟨bp, op + (i - 1) * 2 + 1, none⟩ = some (.slice a2 ms.length c2) ∧ w1.drew.cell? ⟨B8, 1, none⟩ = some (.slice au ls.length cu) := ⟨p1, d1⟩
      refine tkT 0 ?_ rfl hS ?_ ?_ (by kernel_rfl) (fun _ _ _ h => h) (by rfl); rotate_left; (· intro wS hSw; (try dsimp only at hSw); go_simp; try with_reducible rfl); simp only [Act.put, zA, z0, z1]; refine tkT 1 ?_ rfl hS ?_ ?_ (by kernel_rfl) (fun _ _ _ h => h) (by rfl); rotate_left; (· intro wS hSw; (try dsimp only at hSw); go_simp; try with_reducible rfl); simp only [Act.put, zA, z0, z1]; refine tkT 2 ?_ rfl hS ?_ ?_ (by kernel_rfl) (fun _ _ _ h => h) (by rfl); rotate_left; (· intro wS hSw; (try dsimp only at hSw); go_simp; try with_reducible rfl); simp only [Act.put, zA, z0, z1]; refine tkT 3 ?_ rfl hS ?_ ?_ (by kernel_rfl) (fun _ _ _ h => h) (by rfl); rotate_left; (· intro wS hSw; (try dsimp only at hSw); go_simp; try with_reducible rfl); simp only [Act.put, zA, z0, z1]; refine tkT 4 ?_ rfl hS ?_ ?_ (by kernel_rfl) (fun _ _ _ h => h) (by rfl); rotate_left; (· intro wS hSw; (try dsimp only at hSw); go_simp; try with_reducible rfl); simp only [Act.put, zA, z0, z1]; refine tkT 5 ?_ rfl hS ?_ ?_ (by kernel_rfl) (fun _ _ _ h => h) (by rfl); rotate_left; (· intro wS hSw; (try dsimp only at hSw); go_simp; try with_reducible rfl); simp only [Act.put, zA, z0, z1]; refine tkT 6 ?_ rfl hS ?_ ?_ (by kernel_rfl) (fun _ _ _ h => h) (by rfl); rotate_left; (· intro wS hSw; (try dsimp only at hSw); go_simp; try with_reducible rfl); simp only [Act.put, zA, z0, z1]; refine tkT 7 ?_ rfl hS ?_ ?_ (by kernel_rfl) (fun _ _ _ h => h) (by rfl); rotate_left; (· intro wS hSw; (try dsimp only at hSw); go_simp; try with_reducible rfl); simp only [Act.put, zA, z0, z1]
      refine tkT 8 ?_ rfl hS ?_ ?_ (by kernel_rfl) (fun _ _ _ h => h) (by rfl); rotate_left; (· intro wS hSw; (try dsimp only at hSw); go_simp; try with_reducible rfl); simp only [Act.put, zA, z0, z1]; refine tkT 9 ?_ rfl hS ?_ ?_ (by kernel_rfl) (fun _ _ _ h => h) (by rfl); rotate_left; (· intro wS hSw; (try dsimp only at hSw); go_simp; try with_reducible rfl); simp only [Act.put, zA, z0, z1]; refine tkT 10 ?_ rfl hS ?_ ?_ (by kernel_rfl) (fun _ _ _ h => h) (by rfl); rotate_left; (· intro wS hSw; (try dsimp only at hSw); go_simp; try with_reducible rfl); simp only [Act.put, zA, z0, z1]; refine oneT (i := 11) rfl (by kernel_rfl) (fun K hK => ?_); go_simp; refine hcw.mono ?_; rintro e w2 ⟨rfl, hb2⟩; replace hb2 : Below w1.heap.size w1 w2 := bl_trans (Below.refl w1.heap.size w1).drew hb2; have hS2 : w2.cell? ⟨bp, op + (i - 1) * 2 + 1, none⟩ = some (.slice a2 ms.length c2) ∧ w2.cell? ⟨B8, 1, none⟩ = some (.slice au ls.length cu) := ⟨keep_cell hb2 p1, keep_cell hb2 d1⟩
      have hB2 := bl_trans hB1 hb2; simp only; refine hK _ _ (fun _ => hS2) ?_; clear hK K hS hcw d0 d1 p1 hrq1 hr1 hB1 hb2 hrp; have hS := hS2; refine tkT 12 ?_ rfl hS ?_ ?_ (by kernel_rfl) (fun _ _ _ h => h) (by rfl); rotate_left; (· intro wS hSw; (try dsimp only at hSw); go_simp; try with_reducible rfl); simp only [Act.put, zA, z0, z1]; refine tkT 13 ?_ rfl hS ?_ ?_ (by kernel_rfl) (fun _ _ _ h => h) (by rfl); rotate_left; (· intro wS hSw; (try dsimp only at hSw); go_simp; try with_reducible rfl); simp only [Act.put, zA, z0, z1]; refine doneT (by kernel_rfl) ?_ _; clear hS hS2; have hc : cmpLs (Q[i - 1]'(by omega)).2 Q[i].2 = cmpLs ms ls := by rw [Hq.out, Hq2.out]
      obtain ⟨bb, hbb⟩ : ∃ b, b = decide (0 < cmpLs ms ls) := ⟨_, rfl⟩
      rw [← hbb]; cases bb with
      | true =>
       have hk2 : 0 < cmpLs ms ls := by simpa using hbb.symm
       have hbad : ¬ RightQ Q := fun h => by
        obtain ⟨k, hk⟩ : ∃ k, i = k + 1 := ⟨i - 1, by omega⟩
        subst hk; have h1 := h.ord k hil; simp only [Nat.add_sub_cancel] at hc; rw [hc] at h1; omega
       have Hbad := Lib.hid hbad; clear hbad hk2 hc hbb; go_wp2_with fail; go_ret2; exact ⟨hB2, .inr ⟨Hbad.out, _, rfl⟩⟩
      | false =>
       have hk2 : ¬ 0 < cmpLs ms ls := by simpa using hbb.symm
       have Hc := Lib.hid (show cmpLs (Q[i - 1]'(by omega)).2 Q[i].2 ≤ 0 by rw [hc]; omega); clear hk2 hc hbb; go_wp2_with fail; go_roundg (gk - 1)
       case measure => have := Hi.out; omega
       case rel => exact ⟨i + 1, by have := Hi.out; omega, by go_num, seenQ_next Hseen.out hil (by rw [Hq.out]; exact Hk0.out) (by rw [Hq.out]; exact Hk1.out) (fun _ => Hc.out), hB2⟩
    ·
     have e2 : (kd != kindL ls) = true := by simpa using hk1
     have hbad : ¬ RightQ Q := fun h => by
      have h1 := (h.kinds _ (List.getElem_mem hil)).2; rw [Hq.out] at h1; exact hk1 h1
     have Hbad := Lib.hid hbad; clear hbad hk1 hS; go_wp2_with fail; go_ret2; exact ⟨hB1, .inr ⟨Hbad.out, _, rfl⟩⟩
  ·
   have hin : i = Q.length := by omega
   subst hin; obtain ⟨hk, ho⟩ := seenQ_all.1 Hseen.out; have hR : ∀ q ∈ Q, RightL q.2 := fun q hq => (kind_right (by rw [← (hk q hq).2]; exact (hk q hq).1)).1; have hrj := hr.below hB; have Hk := Lib.hid hk; have Ho := Lib.hid ho; clear hi Hi hk ho; go_wp2_with fail; refine (beside_walk a cap Q _ hrj hQ hR).mono ?_; rintro e w2 ⟨hb2, ⟨hbp, G, rfl, hG⟩ | ⟨hbp, rfl⟩⟩
   ·
    have hB2 := bl_trans hB hb2; have Hbp := Lib.hid hbp; have hn0 : 0 < Q.length := Nat.pos_of_ne_zero H0.out; clear hbp hrj hB hr hR; have hwn := hb2.size; have hmk := run_make_row' (P := Tryz.prog) 78 4 (.bool false) 1 Tryz.underlying78 bool_info rfl .i64 .i64 Q.length (by omega) (by omega); clear hb2; have hrc0 : Row (w2.alloc (.cells (madeCells #[.bool false] Q.length) 4)) w2.heap.size 4 1 Q.length (List.replicate Q.length (.bool false)) := row_made w2 (.bool false) Q.length 4 (by unfold maxLen; omega); have hbA := bl_alloc w2 (.cells (madeCells #[.bool false] Q.length) 4); go_upto_region 15 with (fail)
    clear hmk; generalize w2.alloc (.cells (madeCells #[.bool false] Q.length) 4) = wM at hrc0 hbA ⊢; have f0 := hrc0.frozen 0; have c0 : wM.cell? ⟨w2.heap.size, 0, none⟩ = some (.bool false) := by
     rw [hrc0.cell? 0 (by simpa using hn0)]; simp [hn0]
    have hs1 : Row (wM.setCell ⟨w2.heap.size, 0, none⟩ (.bool true)) w2.heap.size 4 1 Q.length ((metV Q.length [0]).map Value.bool) := by
     have := hrc0.set 0 (.bool true); rw [← metV_zero, List.map_set, List.map_replicate]; exact this
    have hbs1 : Below w2.heap.size w2 (wM.setCell ⟨w2.heap.size, 0, none⟩ (.bool true)) := hbA.setCell (Nat.le_refl _) _; have hgl := hs1.lt; have hnI : (0 : Int) < (Q.length : Int) := by omega
    go_upto_region 16 with (fail)
    clear f0 c0 hrc0 hbA; generalize wM.setCell ⟨w2.heap.size, 0, none⟩ (.bool true) = wN at hs1 hbs1 hgl ⊢; have hl0 : Row (wN.alloc (.cells #[.int .i64 0] 3)) wN.heap.size 3 1 1 ([0].map vN) := row_lit wN ([0].map vN) 3 (by unfold maxLen; decide); have hs2 := hs1.alloc (.cells #[.int .i64 0] 3); have hbs2 := bl_trans hbs1 (bl_alloc wN (.cells #[.int .i64 0] 3)); have hgN : w2.heap.size < wN.heap.size := hgl; go_upto_region 18 with (fail)
    clear hs1 hbs1 hgl; go_loopg [9, 10] Q.length (fun r vo iv wj => ∃ (i : Nat) (L : List Nat), i + r = Q.length ∧ iv = .int .i64 i ∧ TrI (besQ Q) Q.length i L ∧ Row wj w2.heap.size 4 1 Q.length ((metV Q.length L).map Value.bool) ∧ Own wj vo 3 1 L.length (L.map vN) ∧ (∀ g, vo.ownBlock = some g → w2.heap.size < g) ∧ Below w2.heap.size w2 wj)
    case atStart => exact ⟨0, [0], by omega, rfl, TrI.start hn0, hs2, by simpa using hl0.own1, fun g hg => by cases hg; exact hgN, hbs2⟩
    case round =>
     clear hs2 hl0 hbs2; obtain ⟨i, L, hi, rfl, hT, hrow, hown, hyoung, hB⟩ := hrel; have hLn := hT.len; by_cases hil : i < L.length
     ·
      have hv : L[i]? = some L[i] := List.getElem?_eq_getElem hil; obtain ⟨v, hvv⟩ : ∃ v, v = L[i] := ⟨_, rfl⟩
      rw [← hvv] at hv; have hvn : v < Q.length := hT.lt v (List.mem_of_getElem? hv); rcases hown.2 with ⟨rfl, h0⟩ | ⟨g, cg, rfl, hcg, hrowL⟩
      · omega
      have cL : wr.cell? ⟨g, i, none⟩ = some (.int .i64 (v : Nat)) := by
       rw [hrowL.cell? i (by rw [List.length_map]; exact hil), List.getElem?_map, hv]; rfl
      obtain ⟨ab, cb, cG2, hbs⟩ := hG v hvn; have cG := keep_cell hB cG2; have i1 : (i : Int) < (L.length : Int) := by omega
      have i2 : (v : Int) < (Q.length : Int) := by omega
      have hbl : (besQ Q v).length ≤ 4000000 := besQ_len hQ (fun q hq => (kind_right (by rw [← (Hk.out q hq).2]; exact (Hk.out q hq).1)).1.1) v; obtain ⟨gko, hgko⟩ : ∃ g, g = gk := ⟨_, rfl⟩
      have Hgko := Lib.hid hgko; clear hgko; have Hi := Lib.hid hi; have HT := Lib.hid hT; have Hv := Lib.hid hv; clear hi hT hv hvv hrowL hcg; go_upto_region 21 with (fail)
      have hi12 : ∀ y ∈ (besQ Q v).take 0, y ∈ L := fun y hy => by simp at hy
      go_loopg [9, 76] (besQ Q v).length (fun r vo jv wj => ∃ (j : Nat) (L' : List Nat), j + r = (besQ Q v).length ∧ jv = .int .i64 j ∧ TrI (besQ Q) Q.length i L' ∧ L'[i]? = some v ∧ (∀ y ∈ (besQ Q v).take j, y ∈ L') ∧ Row wj w2.heap.size 4 1 Q.length ((metV Q.length L').map Value.bool) ∧ Own wj vo 3 1 L'.length (L'.map vN) ∧ (∀ g, vo.ownBlock = some g → w2.heap.size < g) ∧ Below w2.heap.size w2 wj)
      case atStart => exact ⟨0, L, by omega, rfl, HT.out, Hv.out, hi12, hrow, hown, hyoung, hB⟩
      case round =>
       clear hrow hown hyoung hi12 i1 i2 cL cG cG2; obtain ⟨j, L', hj, rfl, hT2, hv2, hall, hrow, hown, hyoung, hB3⟩ := hrel; have Hj := Lib.hid hj; have HT2 := Lib.hid hT2; have Hv2 := Lib.hid hv2; have Hall := Lib.hid hall; have hLn2 := hT2.len; clear hT2 hv2 hall; by_cases hjl : j < (besQ Q v).length
       ·
        clear hj; obtain ⟨x, hx⟩ : ∃ x, (besQ Q v)[j]? = some x := ⟨_, List.getElem?_eq_getElem hjl⟩
        have hxm : x ∈ besQ Q v := List.mem_of_getElem? hx; have hxn : x < Q.length := besQ_lt Hbp.out hxm; obtain ⟨bb, ob, hab, cX⟩ := (hbs.below hB3) j (vN x) (by rw [List.getElem?_map, hx]; rfl); subst hab; replace cX : wr.cell? ⟨bb, ob + j, none⟩ = some (.int .i64 (x : Nat)) := cX; have cM : wr.cell? ⟨w2.heap.size, x, none⟩ = some (.bool (decide (x ∈ L'))) := by
         rw [hrow.cell? x (by rw [List.length_map, metV_len]; exact hxn), List.getElem?_map, metV_get hxn]; rfl
        have htk : (besQ Q v).take (j + 1) = (besQ Q v).take j ++ [x] := by
         rw [List.take_add_one, hx]; rfl
        have Htk := Lib.hid htk; have i1 : (j : Int) < ((besQ Q v).length : Int) := by omega
        have i2 : (x : Int) < (Q.length : Int) := by omega
        have Hxm := Lib.hid hxm; clear htk hx hxm; by_cases hm : x ∈ L'
        ·
         have e6 : decide (x ∈ L') = true := decide_eq_true hm; rw [e6] at cM; have Hm := Lib.hid hm; clear hm e6; go_wp2_with fail; go_roundg (gk - 1)
         case measure => have := Hj.out; omega
         case rel => exact ⟨j + 1, L', by have := Hj.out; omega, by go_num, HT2.out, Hv2.out, fun y hy => (by
          rw [Htk.out, List.mem_append] at hy; rcases hy with hy | hy
          · exact Hall.out y hy
          · simp at hy; subst hy; exact Hm.out), hrow, hown, hyoung, hB3⟩
        ·
         have e6 : decide (x ∈ L') = false := decide_eq_false hm; rw [e6] at cM; have Hm := Lib.hid hm; clear hm e6; have fM := hrow.frozen x; have hrow1 : Row (wr.setCell ⟨w2.heap.size, x, none⟩ (.bool true)) w2.heap.size 4 1 Q.length ((metV Q.length (L' ++ [x])).map Value.bool) := by
          have := hrow.set x (.bool true); rw [← metV_set Hm.out, List.map_set]; exact this
         have hown1 : Own (wr.setCell ⟨w2.heap.size, x, none⟩ (.bool true)) u9 3 1 L'.length (L'.map vN) := hown.below fun g hg => Below.heap_setCell _ _ _ _ (by have := hyoung g hg; simp only; omega); have hB4 : Below w2.heap.size w2 (wr.setCell ⟨w2.heap.size, x, none⟩ (.bool true)) := hB3.setCell (Nat.le_refl _) _; have hu9 := hyoung; have Hyoung := Lib.hid hyoung; go_upto_region 25 with (fail)
         clear cM fM cX hrow hown hyoung hu9 hB3; generalize wr.setCell ⟨w2.heap.size, x, none⟩ (.bool true) = wS at hrow1 hown1 hB4 ⊢; go_upto_region 26 with (at_builtin; refine wpList_append_row _ rfl (.tmp 88) (.tmp 90) 33 rfl 3 (.int .i64 0) 1 8 Tryz.underlying33 int_info rfl u9 L'.length _ rfl (hown1.alloc _) ⟨wS.heap.size, 0, none⟩ 1 1 [.int .i64 (x : Nat)] rfl rfl (one_new (cell_new1 rfl)) (one_ok _ _) (by omega) (by unfold maxLen; omega) (by omega) ?_; intro g5 c5 w5 hr5 hc5 hg5 hor5)
         have hadd : addL L' x = L' ++ [x] := by unfold addL; rw [if_neg Hm.out]
         have hsS := hB4.size; have hgS := hrow1.lt; have hyg : w2.heap.size < g5 := by
          rcases hor5 with h | h
          · exact Hyoung.out g5 h
          · simp at h; omega
         have hrow2 := (hrow1.alloc (.cells #[.int .i64 (x : Nat)] 3)).grown hg5 (fun e => by have := Hyoung.out _ e; omega); have hown2 : Own w5 (.slice (some ⟨g5, 0, none⟩) (L' ++ [x]).length c5) 3 1 (L' ++ [x]).length ((L' ++ [x]).map vN) := by
          have h1 := hr5.own1; have e1 : L'.map vN ++ [Value.int .i64 (x : Int)] = (L' ++ [x]).map vN := by rw [List.map_append]; rfl
          rw [e1] at h1; simpa using h1
         have hB5 : Below w2.heap.size w2 w5 := (bl_trans hB4 (bl_alloc wS (.cells #[.int .i64 (x : Nat)] 3))).grown hg5 (by simp; omega) (fun k hk => by have := Hyoung.out k hk; omega); have hT3 := HT2.out.add Hv2.out Hxm.out hxn; rw [hadd] at hT3; have hv3 : (L' ++ [x])[i]? = some v := by rw [← hadd]; exact addL_at Hv2.out
         rw [List.length_append, List.length_singleton] at hown2; clear hr5 hg5 hor5 hrow1 hown1 hB4; go_wp2_with fail; go_roundg (gk - 1)
         case measure => have := Hj.out; omega
         case rel => exact ⟨j + 1, L' ++ [x], by have := Hj.out; omega, by go_num, hT3, hv3, fun y hy => (by
          rw [Htk.out, List.mem_append] at hy; rcases hy with hy | hy
          · exact List.mem_append_left _ (Hall.out y hy)
          · exact List.mem_append_right _ hy), hrow2, by rw [List.length_append, List.length_singleton]; exact hown2, fun k hk => by cases hk; exact hyg, hB5⟩
       ·
        have hjn : j = (besQ Q v).length := by omega
        subst hjn; have hall2 : ∀ y ∈ besQ Q v, y ∈ L' := by
         have := Hall.out; rw [List.take_length] at this; exact this
        have Hall2 := Lib.hid hall2; clear hall2 hj; go_wp2_with fail; go_roundg (gko - 1)
        case measure => have := Hi.out; have := Hgko.out; omega
        case rel => exact ⟨i + 1, L', by have := Hi.out; have := Hgko.out; omega, by go_num, HT2.out.next Hv2.out Hall2.out, hrow, hown, hyoung, hB3⟩
     ·
      have hiL : i = L.length := by have := hT.il; omega
      subst hiL; have hd := hT.done; rw [← con_bes Hbp.out] at hd; obtain ⟨a9, c9, hvo⟩ : ∃ a c, u9 = Value.slice a L.length c := by
       rcases hown.2 with ⟨rfl, h0⟩ | ⟨g, cg, rfl, hcg, _⟩
       · exact ⟨none, 0, by rw [h0]⟩
       · exact ⟨_, _, rfl⟩
      have hGr := hG.below hB; clear hown hrow hyoung hG; subst hvo; by_cases hn : L.length = Q.length
      ·
       have hright : RightQ Q := ⟨fun h => by rw [h] at hn0; exact absurd hn0 (by simp), Hk.out, Ho.out, Hbp.out, hd.1 hn⟩
       have Hright := Lib.hid hright; have e5 : ((L.length : Int) == (Q.length : Int)) = true := by simp; omega
       clear hright hd; go_wp2_with fail; go_ret2; exact ⟨bl_trans hB2 hB, .inl ⟨Hright.out, _, rfl, hGr⟩⟩
      ·
       have hbad : ¬ RightQ Q := fun h => hn (hd.2 h.con); have Hbad := Lib.hid hbad; have e5 : ((L.length : Int) == (Q.length : Int)) = false := by simp; omega
       clear hbad hd; go_wp2_with fail; go_ret2; exact ⟨bl_trans hB2 hB, .inr ⟨Hbad.out, _, rfl⟩⟩
   ·
    have hbad : ¬ RightQ Q := fun h => hbp h.bes; have Hbad := Lib.hid hbad; clear hbad hbp; go_wp2_with fail; go_ret2; exact ⟨bl_trans hB hb2, .inr ⟨Hbad.out, _, rfl⟩⟩
end Go.Proofs.YtagcbnpahgfgmaaGreat
namespace Go.Proofs.YtagcbnpahgfgmaaGreat
open Go Go.RowKit Go.Sort
def GrN (w w' : World) : Prop := ∃ (q : Nat) (os : Array Obj), w' = grow (w.drewN q) os
theorem gr_refl (w : World) : GrN w w := ⟨0, #[], by cases w; simp [grow, World.drewN]⟩
theorem gr_alloc (w : World) (o : Obj) : GrN w (w.alloc o) := ⟨0, #[o], by rw [alloc_eq_grow]; cases w; simp [grow, World.drewN]⟩
theorem gr_trans {a b c : World} (h : GrN a b) (k : GrN b c) : GrN a c := by
 obtain ⟨q, os, rfl⟩ := h
 obtain ⟨q2, os2, rfl⟩ := k
 exact ⟨q + q2, os ++ os2, by cases a; simp [grow, World.drewN, Nat.add_assoc]⟩
theorem GrN.below {w w' : World} (h : GrN w w') : Below w.heap.size w w' := by
 obtain ⟨q, os, rfl⟩ := h
 refine ⟨rfl, rfl, rfl, by simp [grow, World.drewN], fun k hk => ?_⟩
 show (w.heap ++ os)[k]? = _
 rw [Array.getElem?_append_left hk]
def RetG (w : World) (z : Int) (e : Ending) (w' : World) : Prop := e = .returned (.int .i64 z) ∧ GrN w w'
set_option maxHeartbeats 1000000 in
theorem cmp1_walkG (x y : Lk) (w : World) :
  Calls Tryz.prog 78 #[.agg #[.int .i64 x.1, .int .i64 x.2.1, .int .i64 x.2.2], .agg #[.int .i64 y.1, .int .i64 y.2.1, .int .i64 y.2.2]] w (RetG w (cmpL x y)) := by
 have hpe := fun w => lk_eq x y w
 unfold lkV at hpe
 obtain ⟨x1, x2, x3⟩ := x
 obtain ⟨y1, y2, y3⟩ := y
 simp only at hpe ⊢
 have hgt : Tryz.prog.eqGuardType Tryz.prog.depth 38 = false := by kernel_rfl
 have hB := gr_trans (gr_alloc w (.cells #[.int .i64 x1, .int .i64 x2, .int .i64 x3] 38)) (gr_alloc _ (.cells #[.int .i64 y1, .int .i64 y2, .int .i64 y3] 38))
 obtain ⟨z, hz⟩ : ∃ z, z = cmpL (x1, x2, x3) (y1, y2, y3) := ⟨_, rfl⟩
 rw [← hz]
 by_cases he : ((x1, x2, x3) : Lk) = (y1, y2, y3)
 ·
  rw [decide_eq_true he] at hpe
  have h0 := cmpL_zero.2 he
  rw [← hz] at h0
  clear he hz
  subst h0
  go_enter Tryz.func78, Tryz.ntmps78
  go_wp2_with fail
  go_ret
  exact ⟨rfl, hB⟩
 ·
  rw [decide_eq_false he] at hpe
  unfold cmpL orI at hz
  simp only at hz
  by_cases h1 : x1 = y1
  ·
   have k1 : (x1 != y1) = false := by simpa using h1
   by_cases h2 : x2 = y2
   ·
    have k2 : (x2 != y2) = false := by simpa using h2
    have hc : z = cmpI x3 y3 := by
     rw [hz, if_pos (by unfold cmpI; rw [h1]; simp), if_pos (by unfold cmpI; rw [h2]; simp)]
    clear hz he; have Hc := Lib.hid hc; have H1 := Lib.hid h1; have H2 := Lib.hid h2; clear hc h1 h2; go_enter Tryz.func78, Tryz.ntmps78; go_wp2_with (go_at_call 79; refine (compare_any _ _ _).mono ?_; rintro e w' ⟨rfl, rfl⟩); go_ret; exact ⟨by rw [Hc.out] <;> rfl, hB⟩
   ·
    have k2 : (x2 != y2) = true := by simpa using h2
    have hc : z = cmpI x2 y2 := by
     rw [hz, if_pos (by unfold cmpI; rw [h1]; simp), if_neg (by unfold cmpI; split <;> (try split) <;> omega)]
    clear hz he; have Hc := Lib.hid hc; have H1 := Lib.hid h1; clear hc h1 h2; go_enter Tryz.func78, Tryz.ntmps78; go_wp2_with (go_at_call 79; refine (compare_any _ _ _).mono ?_; rintro e w' ⟨rfl, rfl⟩); go_ret; exact ⟨by rw [Hc.out] <;> rfl, hB⟩
  ·
   have k1 : (x1 != y1) = true := by simpa using h1
   have hc : z = cmpI x1 y1 := by
    rw [hz, if_neg (by unfold cmpI; split <;> (try split) <;> omega)]
   clear hz he; have Hc := Lib.hid hc; clear hc h1; go_enter Tryz.func78, Tryz.ntmps78; go_wp2_with (go_at_call 79; refine (compare_any _ _ _).mono ?_; rintro e w' ⟨rfl, rfl⟩); go_ret; exact ⟨by rw [Hc.out] <;> rfl, hB⟩
set_option maxRecDepth 100000 in
set_option maxHeartbeats 4000000 in
theorem compareF_walkG (a b : Option Addr) (ca cb : Nat) (x y : List Lk) (w : World) (hx : RdL w a x) (hy : RdL w b y) (hxl : x.length ≤ 9223372036854775807) (hyl : y.length ≤ 9223372036854775807) :
  Calls Tryz.prog 77 #[.slice a x.length ca, .slice b y.length cb, .func (.func 78) #[] #[]] w (RetG w (cmpLs x y)) := by
 obtain ⟨z, hz⟩ : ∃ z, z = cmpLs x y := ⟨_, rfl⟩
 rw [← hz]
 have Hz := Lib.hid hz; clear hz
 go_enter Tryz.func77, Tryz.ntmps77
 go_wp2_with fail
 go_loopg [13] x.length (fun r iv wj => ∃ i : Nat, i + r = x.length ∧ i ≤ y.length ∧ iv = .int .i64 i ∧ cmpLs (x.drop i) (y.drop i) = cmpLs x y ∧ GrN w wj)
 case atStart => exact ⟨0, by omega, by omega, rfl, rfl, gr_refl _⟩
 case round =>
  obtain ⟨i, hi, hiy, rfl, hst, hb⟩ := hrel
  have Hi := Lib.hid hi
  by_cases hil : i < x.length
  ·
   clear hi; have hst' := hst; obtain ⟨b1, o1, rfl, p0, p1, p2⟩ := (hx.below hb.below).at i hil; by_cases hly : i < y.length
   ·
    obtain ⟨b2, o2, rfl, q0, q1, q2⟩ := (hy.below hb.below).at i hly; rw [cmpLs_at hil hly] at hst; obtain ⟨⟨x1, x2, x3⟩, hxe⟩ : ∃ u : Lk, x[i] = u := ⟨_, rfl⟩
    obtain ⟨⟨y1, y2, y3⟩, hye⟩ : ∃ u : Lk, y[i] = u := ⟨_, rfl⟩
    rw [hxe] at p0 p1 p2 hst; rw [hye] at q0 q1 q2 hst; simp only at p0 p1 p2 q0 q1 q2; have g0 : decide ((y.length : Int) ≤ (i : Int)) = false := by simp; omega
    have g0' : decide (y.length ≤ i) = false := by simp; omega
    have hba := bl_alloc wr (.cells #[.int .i64 x1, .int .i64 x2, .int .i64 x3] 38); have q0' := keep_cell hba q0; have q1' := keep_cell hba q1; have q2' := keep_cell hba q2; have i2 : (i : Int) < (y.length : Int) := by omega
    have Hst := Lib.hid hst; obtain ⟨c, hc⟩ : ∃ c, c = cmpL (x1, x2, x3) (y1, y2, y3) := ⟨_, rfl⟩
    have Hc := Lib.hid hc; clear hxe hye hst hst' hba q0 q1 q2 hc; go_wp2_with fail; refine (cmp1_walkG (x1, x2, x3) (y1, y2, y3) _).mono ?_; rw [← Hc.out]; rintro e w2 ⟨rfl, hb2⟩; have hB := gr_trans hb (gr_trans (gr_trans (gr_alloc _ _) (gr_alloc _ _)) hb2); by_cases h0 : c = 0
    ·
     have k0 : (c != 0) = false := by simpa using h0
     have hnx : cmpLs (x.drop (i + 1)) (y.drop (i + 1)) = cmpLs x y := by rw [← Hst.out, if_pos (by rw [← Hc.out]; exact h0)]
     have Hnx := Lib.hid hnx; clear h0 hnx; go_wp2_with fail; go_roundg (gk - 1)
     case measure => have := Hi.out; omega
     case rel => exact ⟨i + 1, by have := Hi.out; omega, by omega, by go_num, Hnx.out, hB⟩
    ·
     have k0 : (c != 0) = true := by simpa using h0
     have hfin : z = c := by rw [Hz.out, ← Hst.out, if_neg (by rw [← Hc.out]; exact h0), ← Hc.out]
     have Hfin := Lib.hid hfin; clear h0 hfin; go_wp2_with fail; go_ret; exact ⟨by rw [Hfin.out] <;> rfl, hB⟩
   ·
    have hiy2 : i = y.length := by omega
    subst hiy2; have hfin : z = 1 := by
     rw [Hz.out, ← hst', List.drop_eq_getElem_cons hil, List.drop_eq_nil_of_le (Nat.le_refl _)]; rfl
    subst hfin; obtain ⟨⟨x1, x2, x3⟩, hxe⟩ : ∃ u : Lk, x[y.length] = u := ⟨_, rfl⟩
    rw [hxe] at p0 p1 p2; simp only at p0 p1 p2; clear hst hst' hxe hly; go_wp2_with fail; go_ret; exact ⟨rfl, gr_trans hb (gr_alloc _ _)⟩
  ·
   have hin : i = x.length := by omega
   subst hin; clear hi; rw [List.drop_eq_nil_of_le (Nat.le_refl x.length)] at hst; by_cases hly : x.length < y.length
   ·
    have hfin : z = -1 := by
     rw [Hz.out, ← hst, List.drop_eq_getElem_cons hly]; rfl
    have k1 : decide ((x.length : Int) < (y.length : Int)) = true := by simp; omega
    have k2 : decide (x.length < y.length) = true := by simp; omega
    subst hfin; clear hst hly; go_wp2_with fail; go_ret; exact ⟨rfl, hb⟩
   ·
    have hfin : z = 0 := by
     rw [Hz.out, ← hst, List.drop_eq_nil_of_le (by omega)]; rfl
    have k1 : decide ((x.length : Int) < (y.length : Int)) = false := by simp; omega
    have k2 : decide (x.length < y.length) = false := by simp; omega
    subst hfin; clear hst hly; go_wp2_with fail; go_ret; exact ⟨rfl, hb⟩
theorem compareP_walkG (a b : Option Addr) (ca cb : Nat) (x y : List Lk) (w : World) (hx : RdL w a x) (hy : RdL w b y) (hxl : x.length ≤ 9223372036854775807) (hyl : y.length ≤ 9223372036854775807) :
  Calls Tryz.prog 39 #[.slice a x.length ca, .slice b y.length cb] w (RetG w (cmpLs x y)) := by
 go_enter Tryz.func39, Tryz.ntmps39
 go_wp2_with fail
 refine (compareF_walkG a b ca cb x y _ hx hy hxl hyl).mono ?_
 rintro e w1 ⟨rfl, hb1⟩
 go_wp2_with fail
 go_ret
 exact ⟨rfl, hb1⟩
end Go.Proofs.YtagcbnpahgfgmaaGreat
namespace Go.Proofs.YtagcbnpahgfgmaaGreat
open Go Go.RowKit Go.Sort Go.Maps
open Classical in
noncomputable def rightB (Q : List Pt) : Bool := decide (RightQ Q)
theorem rightB_iff {Q : List Pt} : rightB Q = true ↔ RightQ Q := by unfold rightB; simp
theorem rightB_not {Q : List Pt} : rightB Q = false ↔ ¬ RightQ Q := by unfold rightB; simp
def realQ (Q : List Pt) : List Lk := Q.flatMap fun q => q.2.filter fun e => e.2.2 == 0
noncomputable def wholeL (Q : List Pt) : List Lk := if rightB Q then sortL (realQ Q) else []
noncomputable def besideL (Q : List Pt) (i : Int) : List Nat := if 0 ≤ i ∧ i < Q.length ∧ rightB Q = true then besQ Q i.toNat else []
def RetBo (w : World) (b : Bool) (e : Ending) (w' : World) : Prop := e = .returned (.bool b) ∧ Below w.heap.size w w'
theorem sright_walk (a : Option Addr) (cap : Nat) (Q : List Pt) (w : World) (hr : RdQ w a Q) (hQ : Q.length ≤ 1000) :
  Calls Tryz.prog 10 #[.slice a Q.length cap] w (RetBo w (rightB Q)) := by
 go_enter Tryz.func10, Tryz.ntmps10
 go_wp2_with fail
 refine (tree_walk a cap Q _ hr hQ).mono ?_
 rintro e w' ⟨hb, ⟨hR, G, rfl, hG⟩ | ⟨hR, v, rfl⟩⟩
 ·
  have h1 := rightB_iff.2 hR
  clear hR hG
  go_wp2_with fail
  go_ret
  exact ⟨by rw [h1] <;> rfl, hb⟩
 ·
  have h1 := rightB_not.2 hR
  clear hR
  go_wp2_with fail
  go_ret
  exact ⟨by rw [h1] <;> rfl, hb⟩
theorem cells_lit {w : World} {x : Lk} {t : TypeId} : RdL (w.alloc (.cells #[.int .i64 x.1, .int .i64 x.2.1, .int .i64 x.2.2] t)) (some ⟨w.heap.size, 0, none⟩) [x] := by
 intro i u hu
 refine ⟨w.heap.size, 0, rfl, ?_⟩
 match i with
 | 0 => simp [lkCells] at hu; subst hu; simp
 | 1 => simp [lkCells] at hu; subst hu; simp
 | 2 => simp [lkCells] at hu; subst hu; simp
 | i + 3 => simp [lkCells] at hu
theorem cmpLs_one (x y : Lk) : cmpLs [x] [y] = cmpL x y := by
 by_cases h : cmpL x y = 0
 · simp [cmpLs, orI, h]
 · simp [cmpLs, orI, h]
theorem whole1_walk (x y : Lk) (w : World) :
  Calls Tryz.prog 43 #[lkV x, lkV y] w
   fun e w' => e = .returned (.int .i64 (cmpL x y)) ∧ ∃ q os, w' = grow (w.drewN q) os := by
 have hcon := fun w' a b hx hy => compareP_walkG a b 1 1 [x] [y] w' hx hy (by simp) (by simp)
 rw [cmpLs_one] at hcon
 have hlx := fun (w : World) => cells_lit (w := w) (x := x) (t := 38)
 have hly := fun (w : World) => cells_lit (w := w) (x := y) (t := 38)
 unfold lkV
 generalize cmpL x y = r at hcon ⊢
 obtain ⟨x1, x2, x3⟩ := x
 obtain ⟨y1, y2, y3⟩ := y
 simp only [List.length_singleton] at hcon hlx hly ⊢
 have Hcon := Lib.hid hcon; have Hlx := Lib.hid hlx; have Hly := Lib.hid hly
 clear hcon hlx hly
 go_enter Tryz.func43, Tryz.ntmps43
 go_wp2_with fail
 have hx2 : RdL ((((w.alloc (.cells #[.int .i64 x1, .int .i64 x2, .int .i64 x3] 38)).alloc (.cells #[.int .i64 y1, .int .i64 y2, .int .i64 y3] 38)).alloc (.cells #[.int .i64 x1, .int .i64 x2, .int .i64 x3] 38)).alloc (.cells #[.int .i64 y1, .int .i64 y2, .int .i64 y3] 38)) (some ⟨w.heap.size + 1 + 1, 0, none⟩) [(x1, x2, x3)] := by
  have := (Hlx.out ((w.alloc (.cells #[.int .i64 x1, .int .i64 x2, .int .i64 x3] 38)).alloc (.cells #[.int .i64 y1, .int .i64 y2, .int .i64 y3] 38))).below (bl_alloc _ (.cells #[.int .i64 y1, .int .i64 y2, .int .i64 y3] 38))
  simpa using this
 have hy2 : RdL ((((w.alloc (.cells #[.int .i64 x1, .int .i64 x2, .int .i64 x3] 38)).alloc (.cells #[.int .i64 y1, .int .i64 y2, .int .i64 y3] 38)).alloc (.cells #[.int .i64 x1, .int .i64 x2, .int .i64 x3] 38)).alloc (.cells #[.int .i64 y1, .int .i64 y2, .int .i64 y3] 38)) (some ⟨w.heap.size + 1 + 1 + 1, 0, none⟩) [(y1, y2, y3)] := by
  have := Hly.out (((w.alloc (.cells #[.int .i64 x1, .int .i64 x2, .int .i64 x3] 38)).alloc (.cells #[.int .i64 y1, .int .i64 y2, .int .i64 y3] 38)).alloc (.cells #[.int .i64 x1, .int .i64 x2, .int .i64 x3] 38))
  simpa using this
 have hgr := gr_trans (gr_trans (gr_trans (gr_alloc w (.cells #[.int .i64 x1, .int .i64 x2, .int .i64 x3] 38)) (gr_alloc _ (.cells #[.int .i64 y1, .int .i64 y2, .int .i64 y3] 38))) (gr_alloc _ (.cells #[.int .i64 x1, .int .i64 x2, .int .i64 x3] 38))) (gr_alloc _ (.cells #[.int .i64 y1, .int .i64 y2, .int .i64 y3] 38))
 refine (Hcon.out _ _ _ hx2 hy2).mono ?_
 rintro e w' ⟨rfl, hg⟩
 have hg2 := gr_trans hgr hg
 clear hgr hx2 hy2 hg
 go_wp2_with fail
 go_ret
 exact ⟨rfl, hg2⟩
theorem sortW_walk (g cap : Nat) (ls : List Lk) (w : World) (h : Row w g 38 3 cap (lkCells ls)) (hsz : ls.length ≤ 1000000) :
  Calls Tryz.prog 42 #[.slice (some ⟨g, 0, none⟩) ls.length cap, .func (.func 43) #[] #[]] w
   fun e w' => e = .returned (.tuple #[]) ∧ Row w' g 38 3 cap (lkCells (ls.mergeSort fun x y => !decide (cmpL y x < 0))) ∧ w.grownBy w' (some g) := by
 have eg : ∀ args w, (callFunc 43 args).run Tryz.prog w = .ok (.enter 43 args) w := enters_of Tryz.func43 (by kernel_rfl) rfl
 have hcon := AnyQ.slices_SortFunc_total Tryz.laySortL 3 Tryz.isAgg38 Tryz.sizeOf38 lkEnc (fun _ => rfl) (fun x v hv => by simp [lkEnc] at hv; rcases hv with rfl | rfl | rfl <;> rfl) cmpL swo_cmpL 43 #[] g 0 cap ls.toArray w eg
  (fun _ _ _ _ x y => whole1_walk x y _) h.holdsK h.lt (by simp; omega) (fun x y h1 h2 => by rw [ltOf_cmpL] at h1 h2; simp only [decide_eq_false_iff_not] at h1 h2; exact LtL.total x y h1 h2)
 change Calls Tryz.prog 42 _ _ _ at hcon
 simp only [List.size_toArray] at hcon
 refine hcon.mono ?_
 rintro e w' ⟨rfl, n, os, rfl⟩
 have := h.sortedK (n := n) (os := os) (ts := ls.mergeSort fun x y => !ltOf cmpL y x) (by simp)
 exact ⟨rfl, this⟩
theorem swap_ok {ls : List Lk} (h : ∀ k ∈ ls, k.1 < k.2.1) : ls.map swapL = ls := by
 conv => rhs; rw [← List.map_id ls]
 refine List.map_congr_left fun k hk => ?_
 have := h k hk
 unfold swapL
 rw [if_neg (by omega)]; rfl
theorem realQ_take {Q : List Pt} {i : Nat} {q : Pt} (h : Q[i]? = some q) : realQ (Q.take (i + 1)) = realQ (Q.take i) ++ q.2.filter fun e => e.2.2 == 0 := by
 obtain ⟨hi, rfl⟩ := List.getElem?_eq_some_iff.1 h
 unfold realQ
 rw [List.take_succ_eq_append_getElem hi, List.flatMap_append]
 simp
theorem realQ_len {Q : List Pt} (hR : ∀ q ∈ Q, q.2.length ≤ 1000) : (realQ Q).length ≤ Q.length * 1000 := by
 induction Q with
 | nil => simp [realQ]
 | cons q Q ih =>
  have h1 := ih fun x hx => hR x (List.mem_cons_of_mem _ hx)
  have h2 := hR q (by simp)
  have h3 := List.length_filter_le (fun e : Lk => e.2.2 == 0) q.2
  unfold realQ at h1 ⊢
  rw [List.flatMap_cons, List.length_append, List.length_cons, Nat.succ_mul]
  omega
end Go.Proofs.YtagcbnpahgfgmaaGreat
namespace Go.Proofs.YtagcbnpahgfgmaaGreat
open Go Go.RowKit Go.Sort Go.Maps
theorem own_of {w : World} {base : Nat} {e : TypeId} {s n : Nat} {v : Value} {xs : List Value} (h : w.ownsRow base e s v n xs) : Own w v e s n xs ∧ ∀ g, v.ownBlock = some g → base ≤ g := by
 obtain ⟨h1, h2 | ⟨g, cap, cur, rfl, hb, hg, hn, hm, hs, ht⟩⟩ := h
 ·
  refine ⟨⟨h1, .inl h2⟩, fun g hg => ?_⟩
  rw [h2.1] at hg; cases hg
 ·
  refine ⟨⟨h1, .inr ⟨g, cap, rfl, hn, cur, hg, hs, ?_, hm, ?_⟩⟩, fun k hk => by cases hk; exact hb⟩
  · rw [h1]; exact Nat.mul_le_mul_right _ hn
  · rw [h1]; exact ht
def RetIs (w : World) (l : List Nat) (e : Ending) (w' : World) : Prop :=
 ∃ a c, e = .returned (.slice a l.length c) ∧ CellsAt w' a (l.map vN) ∧ Below w.heap.size w w'
set_option maxRecDepth 100000 in
set_option maxHeartbeats 4000000 in
theorem whole_walk (a : Option Addr) (cap : Nat) (Q : List Pt) (w : World) (hr : RdQ w a Q) (hQ : Q.length ≤ 1000) :
  Calls Tryz.prog 12 #[.slice a Q.length cap] w (RetLk w (wholeL Q)) := by
 cases hR : rightB Q with
 | false =>
  have hw : wholeL Q = [] := by unfold wholeL; rw [hR]; rfl
  have Hw := Lib.hid hw; have HR := Lib.hid hR
  clear hw hR
  go_enter Tryz.func12, Tryz.ntmps12
  go_wp2_with fail
  refine (sright_walk a cap Q _ hr hQ).mono ?_
  rw [HR.out]
  rintro e w1 ⟨rfl, hb⟩
  go_wp2_with fail
  go_ret
  rw [Hw.out]
  exact ⟨_, rfl, own_nil _ _ _, fun g hg => by simp [Value.ownBlock] at hg, hb⟩
 | true =>
  have hw : wholeL Q = sortL (realQ Q) := by unfold wholeL; rw [hR]; rfl
  have hRR := rightB_iff.1 hR
  have hlen : ∀ i, (realQ (Q.take i)).length ≤ 1000000 := fun i => by
   have h1 := realQ_len (Q := Q.take i) fun q hq => (hRR.right (List.mem_of_mem_take hq)).1.1; have h2 : (Q.take i).length ≤ 1000 := by rw [List.length_take]; omega
   have h3 : (Q.take i).length * 1000 ≤ 1000 * 1000 := Nat.mul_le_mul_right _ h2; omega
  have hsw : (realQ Q).mergeSort (fun x y => !decide (cmpL y x < 0)) = sortL (realQ Q) := by
   rw [← sortL_merge, swap_ok]; intro k hk; unfold realQ at hk; obtain ⟨q, hq, hkq⟩ := List.mem_flatMap.1 hk; have hok := (hRR.right hq).1.2.1 k (List.mem_filter.1 hkq).1; exact hok.2.1
  have Hw := Lib.hid hw; have HR := Lib.hid hR; have HRR := Lib.hid hRR; have Hlen := Lib.hid hlen; have Hsw := Lib.hid hsw
  clear hw hR hRR hlen hsw
  go_enter Tryz.func12, Tryz.ntmps12
  go_wp2_with fail
  refine (sright_walk a cap Q _ hr hQ).mono ?_
  rw [HR.out]
  rintro e w1 ⟨rfl, hb⟩
  go_wp2_with fail
  go_loopg [3, 13] Q.length (fun r vo iv wj => ∃ i : Nat, i + r = Q.length ∧ iv = .int .i64 i ∧ OwnL wj vo (realQ (Q.take i)) ∧ (∀ g, vo.ownBlock = some g → w.heap.size ≤ g) ∧ Below w.heap.size w wj)
  case atStart => exact ⟨0, by omega, rfl, by simpa [realQ, OwnL, lkCells] using own_nil w1 38 3, fun g hg => by simp [Value.ownBlock] at hg, hb⟩
  case round =>
   obtain ⟨i, hi, rfl, hown, hyoung, hB⟩ := hrel; have Hi := Lib.hid hi; by_cases hil : i < Q.length
   ·
    clear hi; have hqi : Q[i]? = some Q[i] := List.getElem?_eq_getElem hil; obtain ⟨bp, op, au, cu, rfl, p0, p1, hrq, hcu, hcm⟩ := hr i _ hqi; replace p0 := keep_cell hB p0; replace p1 := keep_cell hB p1; have htk := realQ_take hqi; have hL := Hlen.out (i + 1); rw [htk] at hL; obtain ⟨⟨kd, ls⟩, hq⟩ : ∃ q : Pt, Q[i] = q := ⟨_, rfl⟩
    rw [hq] at p0 p1 hrq hcu htk hL; simp only at p0 p1 hrq hcu htk hL; have hlsl : ls.length ≤ 9223372036854775807 := by unfold maxLen at hcm; omega
    have Htk := Lib.hid htk; have iI : (i : Int) < (Q.length : Int) := by omega
    have hbl := bl_alloc wr (.cells #[.int .i64 kd, .slice au ls.length cu] 49); have d1 : (wr.alloc (.cells #[.int .i64 kd, .slice au ls.length cu] 49)).cell? ⟨wr.heap.size, 1, none⟩ = some (.slice au ls.length cu) := by simp
    have hBa := bl_trans hB hbl; have howna := Own.alloc hown (.cells #[.int .i64 kd, .slice au ls.length cu] 49); obtain ⟨R, hRe⟩ : ∃ R, R = realQ (Q.take i) := ⟨_, rfl⟩
    rw [← hRe] at howna hL htk; have HT := Lib.hid htk; obtain ⟨gko, hgko⟩ : ∃ g, g = gk := ⟨_, rfl⟩
    have Hgko := Lib.hid hgko; have hlr : R.length + ls.length ≤ 2000000 := by
     have h1 := Hlen.out i; rw [← hRe] at h1; have h2 := (HRR.out.right (List.mem_of_getElem? hqi)).1.1; rw [hq] at h2; simp only at h2; omega
    clear hgko htk Htk hRe hown hB hqi hq; go_upto_region 8 with (fail)
    clear p0 p1 d1 hbl; generalize wr.alloc (.cells #[.int .i64 kd, .slice au ls.length cu] 49) = wa at *
    go_loopg [3, 20] ls.length (fun r vo kv wj => ∃ k : Nat, k + r = ls.length ∧ kv = .int .i64 k ∧ OwnL wj vo (R ++ (ls.take k).filter fun e => e.2.2 == 0) ∧ (∀ g, vo.ownBlock = some g → w.heap.size ≤ g) ∧ Below w.heap.size w wj)
    case atStart => exact ⟨0, by omega, rfl, by simpa [OwnL] using howna, hyoung, hBa⟩
    case round =>
     clear howna hyoung hBa; obtain ⟨k, hk, rfl, hown, hyoung, hB⟩ := hrel; have Hk := Lib.hid hk; by_cases hkl : k < ls.length
     ·
      clear hk; have hfl := List.length_filter_le (fun e : Lk => e.2.2 == 0) (ls.take k); have hft : (ls.take (k + 1)).filter (fun e => e.2.2 == 0) = (ls.take k).filter (fun e => e.2.2 == 0) ++ if ls[k].2.2 == 0 then [ls[k]] else [] := by
       rw [List.take_succ_eq_append_getElem hkl, List.filter_append]; congr 1; by_cases h : ls[k].2.2 == 0
       · simp [h]
       · simp [h]
      rw [List.length_take] at hfl; obtain ⟨b1, o1, rfl, q0, q1, q2⟩ := (hrq.below hB).at k hkl; obtain ⟨⟨x, y, z⟩, hxe⟩ : ∃ u : Lk, ls[k] = u := ⟨_, rfl⟩
      rw [hxe] at q0 q1 q2 hft; simp only at q0 q1 q2 hft; have i2 : (k : Int) < (ls.length : Int) := by omega
      have HB := Lib.hid hB; have hownb := Own.alloc hown (.cells #[.int .i64 x, .int .i64 y, .int .i64 z] 38); obtain ⟨F, hF⟩ : ∃ F, F = (ls.take k).filter fun e => e.2.2 == 0 := ⟨_, rfl⟩
      rw [← hF] at hfl hft hownb; have hbl := bl_alloc wr (.cells #[.int .i64 x, .int .i64 y, .int .i64 z] 38); by_cases hz : z = 0
      ·
       subst hz; have hfo : R ++ (ls.take (k + 1)).filter (fun e => e.2.2 == 0) = (R ++ F) ++ [(x, y, 0)] := by rw [hft]; simp
       have Hfo := Lib.hid hfo; have hrl : (R ++ F).length ≤ 2000000 := by rw [List.length_append]; omega
       generalize R ++ F = RF at *
       have hownc := Own.alloc hownb (.cells #[.int .i64 x, .int .i64 y, .int .i64 0] 38); clear hfo hft hfl hxe hF hB hown hownb hlr; go_upto_region 12 with (at_builtin; refine wpList_append_row _ rfl (.tmp 27) (.tmp 29) 22 rfl 38 (.agg #[.int .i64 0, .int .i64 0, .int .i64 0]) 3 24 Tryz.underlying22 link_info rfl u3 RF.length _ rfl hownc ⟨wr.heap.size + 1, 0, none⟩ 1 1 [.int .i64 x, .int .i64 y, .int .i64 0] rfl rfl (by have := news3 (wr.alloc (.cells #[.int .i64 x, .int .i64 y, .int .i64 0] 38)) 38 x y 0; simpa using this) (one3 _ _ _) (by omega) (by unfold maxLen; omega) (by omega) ?_; intro g5 c5 w5 hr5 hc5 hg5 hor5)
       have hbC := bl_trans hbl (bl_alloc _ (.cells #[.int .i64 x, .int .i64 y, .int .i64 0] 38)); have hwz := HB.out.size; have hyg : w.heap.size ≤ g5 := by
        rcases hor5 with h | h
        · exact hyoung g5 h
        · simp at h; omega
       have hB5 : Below w.heap.size w w5 := (bl_trans HB.out hbC).grown hg5 (by simp; omega) (fun j hj => hyoung j hj); have hown5 : OwnL w5 (.slice (some ⟨g5, 0, none⟩) (RF.length + 1) c5) (RF ++ [(x, y, 0)]) := by
        have e1 : lkCells RF ++ [Value.int .i64 x, Value.int .i64 y, Value.int .i64 0] = lkCells (RF ++ [(x, y, 0)]) := by rw [lkCells_append]; rfl
        rw [e1] at hr5; refine ⟨by rw [lkCells_length], .inr ⟨g5, c5, by rw [List.length_append]; rfl, by rw [List.length_append]; exact hc5, hr5⟩⟩
       clear hr5 hg5 hor5 hbC hbl hownc; go_wp2_with fail; go_roundg (gk - 1)
       case measure => have := Hk.out; omega
       case rel => exact ⟨k + 1, by have := Hk.out; omega, by go_num, by rw [Hfo.out]; exact hown5, fun j hj => by cases hj; exact hyg, hB5⟩
      ·
       have e1 : (z == 0) = false := beq_eq_false_iff_ne.2 hz; have hfo : R ++ (ls.take (k + 1)).filter (fun e => e.2.2 == 0) = R ++ F := by rw [hft, e1]; simp
       have Hfo := Lib.hid hfo; clear hfo hft hfl hxe hF hB hown hz; go_wp2_with fail; go_roundg (gk - 1)
       case measure => have := Hk.out; omega
       case rel => exact ⟨k + 1, by have := Hk.out; omega, by go_num, by rw [Hfo.out]; exact hownb, hyoung, bl_trans HB.out hbl⟩
     ·
      have hkn : k = ls.length := by omega
      subst hkn; rw [List.take_length] at hown; clear hk; go_wp2_with fail; go_roundg (gko - 1)
      case measure => have := Hi.out; have := Hgko.out; omega
      case rel => exact ⟨i + 1, by have := Hi.out; have := Hgko.out; omega, by go_num, by rw [HT.out]; exact hown, hyoung, hB⟩
   ·
    have hin : i = Q.length := by omega
    subst hin; rw [List.take_length] at hown; clear hi Hi; rcases hown.2 with ⟨rfl, h0⟩ | ⟨g, cg, rfl, hcg, hrow⟩
    ·
     have hnil := List.eq_nil_of_length_eq_zero h0; have hw2 : wholeL Q = [] := by rw [Hw.out, hnil]; rfl
     have Hw2 := Lib.hid hw2; have hnone := fun w' => AnyF.slices_SortFunc_none Tryz.laySortL none 0 (.func (.func 43) #[] #[]) w'; change ∀ w', Calls Tryz.prog 42 _ _ _ at hnone; clear hown h0 hnil hw2 hyoung; go_wp2_with fail; refine (hnone _).mono ?_; rintro e w' ⟨rfl, rfl⟩; go_wp2_with fail; go_ret; rw [Hw2.out]; exact ⟨_, rfl, own_nil _ _ _, fun g hg => by simp [Value.ownBlock] at hg, hB⟩
    ·
     have hsort := sortW_walk g cg (realQ Q) wr hrow (by have := Hlen.out Q.length; rw [List.take_length] at this; exact this); rw [Hsw.out] at hsort; have hgl := hyoung g rfl; clear hown hrow hyoung; go_wp2_with fail; refine hsort.mono ?_; rintro e w' ⟨rfl, hrow2, hgr⟩; have hb2 : Below w.heap.size w w' := hB.grown hgr (by have := hB.size; omega) (fun j hj => by cases hj; exact hgl); clear hsort hgr; go_wp2_with fail; go_ret; rw [Hw.out]; have hll : (sortL (realQ Q)).length = (realQ Q).length := (sortL_perm _).length_eq.trans (List.length_map _); exact ⟨.slice (some ⟨g, 0, none⟩) (realQ Q).length cg, rfl, ⟨by rw [lkCells_length], .inr ⟨g, cg, by rw [hll], by rw [hll]; exact hcg, hrow2⟩⟩, fun j hj => by cases hj; exact hgl, hb2⟩
end Go.Proofs.YtagcbnpahgfgmaaGreat
namespace Go.Proofs.YtagcbnpahgfgmaaGreat
open Go Go.RowKit Go.Maps
theorem wpList_ins_MZ {w : World} {ops : Array Oper} {rest : List Oper} {o : Oper} {a : Act} {Q : Exit → Act → World → Prop} (hg : o.guard = none) (m x y : Operand) (hop : o.op = Op.insert 35 m x y) {B c : Nat} {F : Int → Option Int} (h : MZ w B c F) {k v : Int}
  (hm : a.eval m = .map (some B)) (hx : a.eval x = .int .i64 k) (hy : a.eval y = .int .i64 v) (hk : WfZ k) (hv : WfZ v) (hc : c ≤ 100000000)
  (hK : ∀ w', MZ w' B (if (F k).isSome then c else c + 1) (updF F k v) → w.grownBy w' (some B) → wpList Tryz.prog ops Q rest (a.put o.dst undef) w') : wpList Tryz.prog ops Q (o :: rest) a w := by
 refine wpList_plain hg fun K' hK' => ?_
 obtain ⟨w', hrun, r1, r2⟩ := h.store hk hv hc
 unfold Oper.wp
 simp [execOp, hop, hm, hx, hy, hrun, Result.andThen]
 exact hK' _ _ (hK w' r1 r2)
theorem wpList_append_tail {P : Program} {w : World} {ops : Array Oper} {rest : List Oper} {o : Oper} {a : Act} {Q : Exit → Act → World → Prop} (hgd : o.guard = none) (sl x : Operand) (t : TypeId)
  (ho : o.op = .call { callee := .builtin .append, args := #[sl, x], argTypes := #[t, t] })
  (e : TypeId) (z : Value) (bytes : Nat) (ht : P.underlying t = some (.slice e)) (hinfo : (P.info? e).map (fun i => (i.zero, i.size, i.bytes)) = some (some z, 1, bytes)) (hzs : z.cells.size = 1)
  (v : Value) (vs : List Value) (hs : a.eval sl = v) (hown : Tail w v e vs)
  (ad : Addr) (c : Nat) (u : Value) (hx : a.eval x = .slice (some ad) 1 c) (hu : w.cell? (ad.add 0) = some u) (h1 : u.oneCell' = true)
  (h63 : vs.length + 1 ≤ maxLen) (hbytes : (vs.length + 1) * bytes ≤ 140737488355328)
  (h : ∀ v' w', Tail w' v' e (vs ++ [u]) → w.grownBy w' v.ownBlock → (∀ b, v'.ownBlock = some b → v.ownBlock = some b ∨ w.heap.size ≤ b) → wpList P ops Q rest (a.put o.dst v') w') :
  wpList P ops Q (o :: rest) a w := by
 obtain ⟨i, hi, hz, hsize, hby⟩ := info_parts hinfo
 refine wpList_plain hgd fun K hK => ?_
 obtain ⟨v', w', hr, h2, h3, h4⟩ := run_append_tail (P := P) w t o.type e i z bytes ht hi hz hsize hby hzs v vs hown ad c u hu h1 h63 hbytes
 unfold Oper.wp execOp
 simp only [ho, resolve, invoke, builtin, Sem.run_bind, Sem.run_pure, Result.andThen_ok, List.map_toArray, List.map_cons, List.map_nil, hs, hx, hr]
 exact hK _ _ (h v' w' h2 h3 h4)
end Go.Proofs.YtagcbnpahgfgmaaGreat
namespace Go.Proofs.YtagcbnpahgfgmaaGreat
open Go Go.RowKit Go.Sort Go.Maps
def RetIn (w : World) (l : List Nat) (e : Ending) (w' : World) : Prop :=
 ∃ a c, e = .returned (.slice a l.length c) ∧ CellsAt w' a (l.map vN) ∧ (∀ x, a = some x → l ≠ [] → w.heap.size ≤ x.block) ∧ Below w.heap.size w w'
theorem cloneN_walk (a : Option Addr) (c : Nat) (l : List Nat) (w : World) (hr : CellsAt w a (l.map vN)) (hl : l.length ≤ 4000000) :
  Calls Tryz.prog 65 #[.slice a l.length c] w (RetIn w l) := by
 cases a with
 | none =>
  refine (Tryz.slices_Clone_int_nil l.length c w).mono ?_
  rintro e w' ⟨rfl, rfl⟩
  have h0 : l = [] := by
   rcases l with _ | ⟨x, l⟩
   · rfl
   · obtain ⟨b, o, hb, _⟩ := hr 0 (vN x) rfl; cases hb
  subst h0
  exact ⟨none, 0, rfl, fun i u hu => by simp at hu, (fun x hx => by cases hx), bl_refl _⟩
 | some ad =>
  by_cases h0 : l.length = 0
  ·
   obtain rfl := List.eq_nil_of_length_eq_zero h0; refine (Tryz.slices_Clone_int_zero ad c w).mono ?_; rintro e w' ⟨v', rfl, ho, hne, hb⟩; obtain ⟨h1, ⟨h2, _⟩ | ⟨g, cap, cur, rfl, _⟩⟩ := ho
   · exact absurd h2 hne
   · exact ⟨_, _, rfl, fun i u hu => by simp at hu, fun _ _ h => absurd rfl h, hb⟩
  ·
   obtain ⟨x, hx⟩ : ∃ x, l[0]? = some x := ⟨l[0]'(by omega), by simp⟩
   obtain ⟨b, o, hb, _⟩ := hr 0 (vN x) (by rw [List.getElem?_map, hx]; rfl); cases hb; refine (Tryz.slices_Clone_int b o l.length c (l.map fun x : Nat => (x : Int)) w (by simp) (by omega) ?_).mono ?_
   ·
    intro j hj; rw [List.length_map] at hj; obtain ⟨b', o', hb', hc⟩ := hr j (vN l[j]) (by rw [List.getElem?_map, List.getElem?_eq_getElem hj]; rfl); cases hb'; rw [hc]; simp [List.getD, hj, vN]
   ·
    rintro e w' ⟨v', rfl, ho, hne, hb⟩; have hl2 : ((l.map fun x : Nat => (x : Int)).take l.length).map (Value.int .i64) = l.map vN := by
     rw [List.take_of_length_le (by simp), ← vN_map]
    rw [hl2] at ho; obtain ⟨hO, hY⟩ := own_of ho; rcases hO.2 with ⟨rfl, h2⟩ | ⟨g, cg, rfl, hcg, hrow⟩
    · exact absurd h2 h0
    · exact ⟨_, _, rfl, hrow.at_, (fun x hx _ => by cases hx; exact hY g rfl), hb⟩
set_option maxHeartbeats 2000000 in
theorem nbeside_walk (a : Option Addr) (cap : Nat) (Q : List Pt) (i : Int) (w : World) (hr : RdQ w a Q) (hQ : Q.length ≤ 1000) (hi : WfZ i) :
  Calls Tryz.prog 26 #[.slice a Q.length cap, .int .i64 i] w (RetIn w (besideL Q i)) := by
 by_cases h1 : i < 0
 ·
  have e1 : decide (i < 0) = true := by simpa using h1
  have hb : besideL Q i = [] := by unfold besideL; rw [if_neg (by omega)]
  rw [hb]
  clear hb h1
  go_enter Tryz.func26, Tryz.ntmps26
  go_wp2_with fail
  go_ret
  exact ⟨none, 0, rfl, fun i u hu => by simp at hu, (fun x hx => by cases hx), bl_refl w⟩
 ·
  have e1 : decide (i < 0) = false := by simpa using h1
  by_cases h2 : (Q.length : Int) ≤ i
  ·
   have e2 : decide ((Q.length : Int) ≤ i) = true := by simpa using h2
   have hb : besideL Q i = [] := by unfold besideL; rw [if_neg (by omega)]
   rw [hb]; clear hb h1 h2; go_enter Tryz.func26, Tryz.ntmps26; go_wp2_with fail; go_ret; exact ⟨none, 0, rfl, fun i u hu => by simp at hu, (fun x hx => by cases hx), bl_refl w⟩
  ·
   have e2 : decide ((Q.length : Int) ≤ i) = false := by simpa using h2
   obtain ⟨k, rfl⟩ : ∃ k : Nat, i = k := ⟨i.toNat, by omega⟩
   have hkn : k < Q.length := by omega
   have i2 : (k : Int) < (Q.length : Int) := by omega
   clear h1 h2; go_enter Tryz.func26, Tryz.ntmps26; go_wp2_with fail; clear e1 e2; refine (tree_walk a cap Q _ hr hQ).mono ?_; rintro e w' ⟨hb, ⟨hR, G, rfl, hG⟩ | ⟨hR, v, rfl⟩⟩
   ·
    have hbl : besideL Q k = besQ Q k := by unfold besideL; rw [if_pos ⟨by omega, by omega, rightB_iff.2 hR⟩]; rfl
    have hlen := besQ_len hQ (fun q hq => (hR.right hq).1.1) k; have Hbl := Lib.hid hbl; obtain ⟨ab, cb, cG, hbs⟩ := hG k hkn; have hB : Below w.heap.size w w' := hb; have hcl := cloneN_walk ab cb (besQ Q k) w' hbs hlen; clear hbl hR hG hbs hr hb; go_wp2_with fail; refine hcl.mono ?_; rintro e w2 ⟨a2, c2, rfl, hc2, hy2, hb2⟩; have hy3 : ∀ x, a2 = some x → besQ Q k ≠ [] → w.heap.size ≤ x.block := fun x hx hn => by have := hy2 x hx hn; have := hB.size; omega
    have Hy3 := Lib.hid hy3; have hB2 := bl_trans hB hb2; clear hcl hB hb2 hlen hy2 hy3; go_wp2_with fail; go_ret; rw [Hbl.out]; exact ⟨a2, c2, rfl, hc2, Hy3.out, hB2⟩
   ·
    have hbl : besideL Q k = [] := by unfold besideL; rw [if_neg (fun h => hR (rightB_iff.1 h.2.2))]
    have Hbl := Lib.hid hbl; have hB : Below w.heap.size w w' := hb; clear hbl hR hr hb; go_wp2_with fail; go_ret; rw [Hbl.out]; exact ⟨none, 0, rfl, fun i u hu => by simp at hu, (fun x hx => by cases hx), hB⟩
end Go.Proofs.YtagcbnpahgfgmaaGreat
