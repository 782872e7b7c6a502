/- pair.First. -/
import Derived.Test.YtagcbnpahgfgmaaPaC
import Derived.Test.YtagcbnpahgfgmaaPaN
import Derived.WalkMore
import Derived.ScopeJumps
namespace Go.Proofs.Ytagcbnpahgfgmaa
open Go Go.RowKit

set_option maxHeartbeats 1000000 in
theorem asks_walk (cb db gc gd n j : Nat) (cut : Nat → Bool) (dir : Nat → Nat) (t : Bool) (w : World) (hc : w.cell? ⟨cb, 0, none⟩ = some (.slice (some ⟨gc, 0, none⟩) n n)) (hd : w.cell? ⟨db, 0, none⟩ = some (.slice (some ⟨gd, 0, none⟩) n n))
    (hrc : Row w gc 4 1 n (rowB n cut)) (hrd : Row w gd 3 1 n (rowN n dir)) (hj : j < n) (ht : (cut j || decide (1 < dir j)) = t) :
    Calls Try.prog 30 #[.int .i64 j, .pointer (some ⟨cb, 0, none⟩), .pointer (some ⟨db, 0, none⟩)] w fun e w' => e = .returned (.bool t) ∧ w = w' := by
  have c1 := hrc.atB hj
  have c2 := hrd.atN hj
  cases hcj : cut j with
  | true =>
    rw [hcj, Bool.true_or] at ht
    rw [hcj] at c1
    subst ht
    clear hcj
    go_enter Try.func30, Try.ntmps30
    go_wp2_with fail
    go_ret
    exact ⟨rfl, rfl⟩
  | false =>
    rw [hcj, Bool.false_or] at ht
    rw [hcj] at c1
    obtain ⟨d, hd0⟩ : ∃ d, d = dir j := ⟨_, rfl⟩
    rw [← hd0] at ht c2
    clear hcj hd0
    cases t with
    | true =>
      have q : 1 < d := by simpa using ht
      have q1 : decide ((1 : Int) < (d : Int)) = true := by simp; omega
      clear q
      go_enter Try.func30, Try.ntmps30
      go_wp2_with fail
      go_ret
      exact ⟨rfl, rfl⟩
    | false =>
      have q : ¬ 1 < d := by simpa using ht
      have q1 : decide ((1 : Int) < (d : Int)) = false := by simp; omega
      clear q
      go_enter Try.func30, Try.ntmps30
      go_wp2_with fail
      go_ret
      exact ⟨rfl, rfl⟩

theorem count_step (l : List Nat) (m : Nat) (h : m < l.length) : upd (fun u => (l.take m).count u) l[m] ((l.take m).count l[m] + 1) = fun u => (l.take (m + 1)).count u := by
  funext u
  rw [List.take_succ_eq_append_getElem h, List.count_append]
  unfold upd
  by_cases e : u = l[m]
  · rw [if_pos e, e]; simp
  · rw [if_neg e]
    have : List.count u [l[m]] = 0 := by rw [List.count_eq_zero]; simpa using e
    show List.count u (l.take m) = List.count u (l.take m) + List.count u [l[m]]
    omega
set_option maxRecDepth 100000 in
set_option maxHeartbeats 8000000 in
theorem first_walk (a : Option Addr) (cap : Nat) (ls : List Lk) (w : World) (hr : RdL w a ls) (hcap : ls.length ≤ 9223372036854775807) :
    Calls Try.prog 16 #[.slice a ls.length cap] w (RetF w (firstL ls)) := by
  cases h2 : twoL ls with
  | false =>
    have hc := first_no h2
    have H2 := Lib.hid h2; have Hc := Lib.hid hc; clear h2 hc
    go_enter Try.func16, Try.ntmps16
    go_wp2_with fail
    go_step3
    go_wp2_with fail
    refine (two_walk a cap ls _ hr hcap).mono ?_
    rw [H2.out]
    rintro e w1 ⟨rfl, hb1⟩
    go_wp2_with fail
    rw [Hc.out]
    try rw [Exit.noGoto_ret]
    exact bodyPost_ret (v := .tuple #[.int .i64 0, .int .i64 0, .bool false, .int .i64 130]) (by simp [results, Try.results16, go_sem]) rfl ⟨rfl, hb1⟩
  | true =>
    have hR := two_right h2
    have hn := hR.1
    obtain ⟨vs, hvs⟩ : ∃ vs, vs = vertsL ls := ⟨_, rfl⟩
    have hvl : vs.length ≤ 2000 := by rw [hvs]; have := vertsL_length ls; omega
    have hv2 : 2 ≤ vs.length := by rw [hvs]; exact two_verts h2
    have Hvs := Lib.hid hvs; have H2 := Lib.hid h2; have HR := Lib.hid hR; clear hvs h2 hR
    have hmi := run_make_row' (P := Try.prog) 38 3 (.int .i64 0) 8 Try.underlying38 int_info rfl .i64 .i64 vs.length (by omega) (by omega)
    go_enter Try.func16, Try.ntmps16
    go_wp2_with fail
    go_step3
    go_wp2_with fail
    refine (two_walk a cap ls _ hr hcap).mono ?_
    rw [H2.out]
    rintro e w1 ⟨rfl, hb1⟩
    go_wp2_with fail
    refine (verts_walk a cap ls _ (hr.below hb1) (by omega)).mono ?_
    rw [← Hvs.out]
    rintro e w2 ⟨av, cv, rfl, hrv, _, hvc, hvm, hb2⟩
    have hB2 := bl_trans hb1 hb2
    have hr2 := hr.below hB2
    clear hb1 hb2 hr
    by_cases hs : vs.length = 2
    · have q0 : ((vs.length : Int) == 2) = true := by rw [hs]; rfl
      have q0' : (vs.length == 2) = true := by rw [hs]; rfl
      have hps := pair_small HR.out (by rw [← Hvs.out]; exact hs)
      by_cases h4 : ls.length < 4
      · have q1 : decide ((ls.length : Int) < 4) = true := by simp; omega
        have hfin : firstL ls = (0, 0, false, 0) := first_none H2.out fun i k hik hk => by
          rw [← Hvs.out, hs] at hk
          obtain rfl : k = 1 := by omega
          obtain rfl : i = 0 := by omega
          rw [hps]; simp; omega
        have Hfin := Lib.hid hfin; clear hfin hps hs h4
        go_wp2_with fail
        rw [Hfin.out]
        try rw [Exit.noGoto_ret]
        exact bodyPost_ret (v := .tuple #[.int .i64 0, .int .i64 0, .bool false, .int .i64 0]) (by simp [results, Try.results16, go_sem]) rfl ⟨rfl, hB2⟩
      · have q1 : decide ((ls.length : Int) < 4) = false := by simp; omega
        obtain ⟨b, o, rfl, c0⟩ := hrv.at 0 (by omega)
        obtain ⟨b', o', e', c1⟩ := hrv.at 1 (by omega)
        cases e'
        obtain ⟨x, hx⟩ : ∃ x, vs[0]'(by omega) = x := ⟨_, rfl⟩
        obtain ⟨y, hy⟩ : ∃ x, vs[1]'(by omega) = x := ⟨_, rfl⟩
        rw [hx] at c0; rw [hy] at c1
        simp only [Nat.add_zero] at c0
        have hfin : firstL ls = (x, y, true, 0) := by
          have h1 := first_at H2.out (i := 0) (k := 1) ⟨by omega, by rw [← Hvs.out]; omega, by rw [hps]; simp; omega, fun k' h1 h2 => absurd h1 (by omega), fun i' k' h1 => absurd h1 (by omega)⟩
          rw [h1, ← Hvs.out, getD_at (by omega), getD_at (by omega), hx, hy]
        have l0 : (0 : Int) < (vs.length : Int) := by omega
        have l1 : (1 : Int) < (vs.length : Int) := by omega
        have Hfin := Lib.hid hfin; clear hfin hps hx hy hs h4
        go_wp2_with fail
        go_quiet (fail)
        go_wp2_with fail
        rw [Hfin.out]
        try rw [Exit.noGoto_ret]
        exact bodyPost_ret (v := .tuple #[.int .i64 x, .int .i64 y, .bool true, .int .i64 0]) (by simp [results, Try.results16, go_sem]) rfl ⟨rfl, below_drewN hB2 _⟩
    · have h3 : 3 ≤ vs.length := by omega
      have q0 : ((vs.length : Int) == 2) = false := by simp only [beq_eq_false_iff_ne, ne_eq]; omega
      have q0' : (vs.length == 2) = false := by simpa using hs
      clear hs
      go_wp2_with fail
      refine (neighbours_walk a cap ls av cv vs _ hr2 HR.out Hvs.out hrv hvc).mono ?_
      rintro e w3 ⟨G, rfl, hG, hGsz, hb3⟩
      have hB3 := bl_trans hB2 hb3
      have hrv3 := hrv.below hb3
      clear hB2 hb3 hrv hr2
      go_wp2_with fail
      go_step3
      go_wp2_with fail
      go_loopg [8, 9, 40] vs.length (fun r av' bv' iv wj => ∃ i : Nat, i + r = vs.length ∧ iv = .int .i64 i ∧ av' = .int .i64 (-1) ∧ bv' = .int .i64 (-1) ∧ (∀ i' k', i' < i → i' < k' → k' < vs.length → pairAt ls i' k' = false) ∧ Below w3.heap.size w3 wj)
      case atStart => exact ⟨0, by omega, rfl, rfl, rfl, fun i' k' h => absurd h (by omega), bl_refl _⟩
      case round =>
        obtain ⟨i, hi, rfl, rfl, rfl, hall, hbi⟩ := hrel
        have Hi := Lib.hid hi; have Hall := Lib.hid hall
        clear hall
        by_cases hil : i < vs.length
        · clear hi
          obtain ⟨gO, rfl⟩ : ∃ n : Nat, n = gk := ⟨_, rfl⟩
          obtain ⟨x, hx⟩ : ∃ x, vs[i] = x := ⟨_, rfl⟩
          have hok := HR.out.2.1
          have hsy : ∀ a b, b ∈ nbN vs ls a → a ∈ nbN vs ls b := by rw [Hvs.out]; exact nbN_symm hok
          have hlt2 : ∀ v, v < vs.length → ∀ x ∈ nbN vs ls v, x < vs.length := fun v _ x hx => by
            rw [Hvs.out] at hx ⊢; exact (nbN_lt hok hx).1
          have hlen : ∀ v, v < vs.length → (nbN vs ls v).length ≤ 1000 := fun v _ => by have := nbN_len vs ls v; omega
          have hsum : restS vs.length (nbN vs ls) (fun _ => 0) ≤ 100000000 := by
            have h1 := restS_le hlen
            have h2 : vs.length * 1000 ≤ 2000 * 1000 := Nat.mul_le_mul_right _ hvl
            omega
          have hcuts := cuts_walk G vs.length (nbN vs ls) (i : Int) wr (hG.below hbi) hsy hlt2 (by omega) (fun v hv => by have := hlen v hv; omega) hsum (by omega) (by omega)
          have hli := hlen i hil
          have hlti := hlt2 i hil
          obtain ⟨au, cu, gci, gca⟩ := hG i hil
          have Hlti := Lib.hid hlti
          clear hok hsy hlt2 hlen hsum hlti
          go_wp2_with fail
          refine hcuts.mono ?_
          rintro e w4 ⟨jn, cut, gc, rfl, hrc, hgc, hb4, hspec⟩
          have hask : ∀ u y, vs[u]? = some y → i ≠ u → (cut u || decide (1 < (nbN vs ls i).count u)) = pairAt ls i u := fun u y hu hiu => by
            rw [Hvs.out] at hspec hu ⊢
            have hxi : (vertsL ls)[i]? = some x := by rw [← Hvs.out, List.getElem?_eq_getElem hil, hx]
            have h1 := pair_ask H2.out (by rw [← Hvs.out]; exact h3) hxi hu hiu hspec
            rw [h1]
            unfold pairAt
            have hil' := (List.getElem?_eq_some_iff.1 hxi).1
            have hul' := (List.getElem?_eq_some_iff.1 hu).1
            rw [getD_at hil', getD_at hul', (List.getElem?_eq_some_iff.1 hxi).2, (List.getElem?_eq_some_iff.1 hu).2]
          have Hask := Lib.hid hask
          have hbi4 := bl_trans hbi hb4
          have gci4 := keep_cell hbi4 gci
          have gca4 := gca.below hbi4
          have hgcl := hrc.lt
          clear hask hspec hcuts hgc hb4 hbi gci
          go_upto_region 15 with (fail)
          obtain ⟨cb, hcb⟩ : ∃ x, x = w4.heap.size := ⟨_, rfl⟩
          have hx0 : (w4.alloc (.cells #[.slice (some ⟨gc, 0, none⟩) vs.length vs.length] 42)).cell? ⟨cb, 0, none⟩ = some (.slice (some ⟨gc, 0, none⟩) vs.length vs.length) := cell_new1 hcb
          have hsA : (w4.alloc (.cells #[.slice (some ⟨gc, 0, none⟩) vs.length vs.length] 42)).heap.size = w4.heap.size + 1 := by simp
          have hrow0 : Row ((w4.alloc (.cells #[.slice (some ⟨gc, 0, none⟩) vs.length vs.length] 42)).alloc (.cells (madeCells #[.int .i64 0] vs.length) 3)) (w4.heap.size + 1) 3 1 vs.length (rowN vs.length fun _ => 0) := by
            have := row_made (w4.alloc (.cells #[.slice (some ⟨gc, 0, none⟩) vs.length vs.length] 42)) (.int .i64 0) vs.length 3 (by unfold maxLen; omega)
            rwa [rowN_zero, hsA] at this
          have hbA1 := bl_alloc w4 (.cells #[.slice (some ⟨gc, 0, none⟩) vs.length vs.length] 42)
          generalize w4.alloc (.cells #[.slice (some ⟨gc, 0, none⟩) vs.length vs.length] 42) = w5 at hx0 hsA hrow0 hbA1 ⊢
          have hbA2 := bl_alloc w5 (.cells (madeCells #[.int .i64 0] vs.length) 3)
          have hx1 := keep_cell hbA2 hx0
          have hsB : (w5.alloc (.cells (madeCells #[.int .i64 0] vs.length) 3)).heap.size = w4.heap.size + 1 + 1 := by rw [← hsA]; simp
          generalize w5.alloc (.cells (madeCells #[.int .i64 0] vs.length) 3) = w6 at hx1 hsB hrow0 hbA2 ⊢
          have hbA3 := bl_alloc w6 (.cells #[.slice (some ⟨w4.heap.size + 1, 0, none⟩) vs.length vs.length] 38)
          have hx2 := keep_cell hbA3 hx1
          have hd2 : (w6.alloc (.cells #[.slice (some ⟨w4.heap.size + 1, 0, none⟩) vs.length vs.length] 38)).cell? ⟨w4.heap.size + 1 + 1, 0, none⟩ = some (.slice (some ⟨w4.heap.size + 1, 0, none⟩) vs.length vs.length) := cell_new1 hsB.symm
          have hrow1 := hrow0.below hbA3 hrow0.lt
          have hb6 : Below w4.heap.size w4 (w6.alloc (.cells #[.slice (some ⟨w4.heap.size + 1, 0, none⟩) vs.length vs.length] 38)) := bl_trans (bl_trans hbA1 hbA2) hbA3
          generalize w6.alloc (.cells #[.slice (some ⟨w4.heap.size + 1, 0, none⟩) vs.length vs.length] 38) = w7 at hx2 hd2 hrow1 hb6 ⊢
          clear hx0 hx1 hsA hsB hrow0 hbA1 hbA2 hbA3
          obtain ⟨gd, hgd⟩ : ∃ x, x = w4.heap.size + 1 := ⟨_, rfl⟩
          obtain ⟨db, hdb⟩ : ∃ x, x = w4.heap.size + 1 + 1 := ⟨_, rfl⟩
          rw [← hdb] at hd2 ⊢
          rw [← hgd] at hd2 hrow1 ⊢
          rw [← hcb] at ⊢
          have n1 : cb ≠ gd := by omega
          have n2 : db ≠ gd := by omega
          have n3 : w4.heap.size ≤ gd := by omega
          have n4 : gc ≠ gd := by omega
          have N1 := Lib.hid n1; have N2 := Lib.hid n2; have N4 := Lib.hid n4
          clear hgd hdb hcb n1 n2 n4
          have gci7 := keep_cell hb6 gci4
          have hgN : ∀ (wj : World), Below w4.heap.size w4 wj → CellsAt wj au ((nbN vs ls i).map vN) := fun wj hwj => gca.below (bl_trans hbi4 hwj)
          have HgN := Lib.hid hgN
          clear hgN gca4 gci4 gca
          obtain ⟨L, hL⟩ : ∃ L, L = nbN vs ls i := ⟨_, rfl⟩
          rw [← hL] at gci7 hli HgN Hlti Hask
          clear hL
          go_wp2_with fail
          go_loopg [57] L.length (fun r mv wj => ∃ m : Nat, m + r = L.length ∧ mv = .int .i64 m ∧ Row wj gd 3 1 vs.length (rowN vs.length fun u => (L.take m).count u) ∧ wj.cell? ⟨cb, 0, none⟩ = some (.slice (some ⟨gc, 0, none⟩) vs.length vs.length) ∧ wj.cell? ⟨db, 0, none⟩ = some (.slice (some ⟨gd, 0, none⟩) vs.length vs.length) ∧ Below w4.heap.size w4 wj)
          case atStart => exact ⟨0, by omega, rfl, by simpa using hrow1, hx2, hd2, hb6⟩
          case round =>
            clear hrow1 hx2 hd2 hb6 gci7
            obtain ⟨m, hm, rfl, hrow, hx2, hd2, hb⟩ := hrel
            have Hm := Lib.hid hm
            by_cases hml : m < L.length
            · clear hm
              obtain ⟨bu, ou, eau, cu0⟩ := HgN.out wr hb m (vN L[m]) (by simp [hml])
              subst eau
              have hu := Hlti.out L[m] (List.getElem_mem hml)
              have hcs := count_step L m hml
              obtain ⟨u, hue⟩ : ∃ u, u = L[m] := ⟨_, rfl⟩
              rw [← hue] at cu0 hu hcs
              unfold vN at cu0
              have c1 := hrow.atN hu
              have f1 := hrow.frozen u
              have hgl := hrow.lt
              obtain ⟨d, hd⟩ : ∃ d, d = (L.take m).count u := ⟨_, rfl⟩
              have hdl : d ≤ 1000 := by rw [hd]; have h1 := List.count_le_length (a := u) (l := L.take m); rw [List.length_take] at h1; omega
              rw [← hd] at c1 hcs
              have i1 : IntKind.i64.wrap ((d : Int) + 1) = (d : Int) + 1 := IntWalk.i64_in _ (by omega)
              have hrow2 : Row (wr.setCell ⟨gd, u, none⟩ (.int .i64 ((d : Int) + 1))) gd 3 1 vs.length (rowN vs.length fun u => (L.take (m + 1)).count u) := by
                have := hrow.set u (.int .i64 ((d : Int) + 1))
                rw [show (Value.int .i64 ((d : Int) + 1)) = vN (d + 1) by unfold vN; simp, rowN_set, hcs] at this
                rw [show (Value.int .i64 ((d : Int) + 1)) = vN (d + 1) by unfold vN; simp]
                exact this
              have hx3 : (wr.setCell ⟨gd, u, none⟩ (.int .i64 ((d : Int) + 1))).cell? ⟨cb, 0, none⟩ = some (.slice (some ⟨gc, 0, none⟩) vs.length vs.length) := (World.cell?_setCell_far wr ⟨gd, u, none⟩ ⟨cb, 0, none⟩ _ (fun e => N1.out e.symm)).trans hx2
              have hd3 : (wr.setCell ⟨gd, u, none⟩ (.int .i64 ((d : Int) + 1))).cell? ⟨db, 0, none⟩ = some (.slice (some ⟨gd, 0, none⟩) vs.length vs.length) := (World.cell?_setCell_far wr ⟨gd, u, none⟩ ⟨db, 0, none⟩ _ (fun e => N2.out e.symm)).trans hd2
              have hb3 : Below w4.heap.size w4 (wr.setCell ⟨gd, u, none⟩ (.int .i64 ((d : Int) + 1))) := hb.setCell n3 _
              have Hrow2 := Lib.hid hrow2; have Hx3 := Lib.hid hx3; have Hd3 := Lib.hid hd3
              clear hcs hd hue hrow2 hx3 hd3 hrow hx2
              go_wp2_with fail
              go_roundg (gk - 1)
              case measure => have := Hm.out; omega
              case rel => exact ⟨m + 1, by have := Hm.out; omega, by go_num, Hrow2.out, Hx3.out, Hd3.out, hb3⟩
            · have hmn : m = L.length := by omega
              subst hmn
              rw [List.take_length] at hrow
              clear hm
              have hrcE := hrc.below hb hgcl
              have hrvE := hrv3.below (bl_trans hbi4 hb)
              have hbE := bl_trans hbi4 hb
              have hbW := bl_trans hB3 hbE
              obtain ⟨wE, rfl⟩ : ∃ wo : World, wo = wr := ⟨_, rfl⟩
              have hasks := fun (j : Nat) (t : Bool) (hj : j < vs.length) (ht : (cut j || decide (1 < L.count j)) = t) => asks_walk cb db gc gd vs.length j cut (fun u => L.count u) t wE hx2 hd2 hrcE hrow hj ht
              have Hasks := Lib.hid hasks
              clear hasks hrcE hrow hx2 hd2 hb
              go_wp2_with fail
              go_loopg [8, 9, 17] (vs.length - (i + 1)) (fun r a8 b9 kv wj => ∃ k : Nat, k + r = vs.length ∧ i < k ∧ kv = .int .i64 k ∧ a8 = .int .i64 (-1) ∧ b9 = .int .i64 (-1) ∧ (∀ k', i < k' → k' < k → pairAt ls i k' = false) ∧ wE = wj)
              case atStart => exact ⟨i + 1, by omega, by omega, by go_num, rfl, rfl, fun k' h1 h2 => absurd h2 (by omega), rfl⟩
              case round =>
                obtain ⟨k, hk, hik, rfl, rfl, rfl, hall2, rfl⟩ := hrel
                have Hk := Lib.hid hk; have Hall2 := Lib.hid hall2
                clear hall2
                by_cases hkl : k < vs.length
                · clear hk
                  obtain ⟨b, o, eav, c0⟩ := hrvE.at i hil
                  subst eav
                  obtain ⟨b', o', e', c1⟩ := hrvE.at k hkl
                  cases e'
                  obtain ⟨y, hy⟩ : ∃ y, vs[k] = y := ⟨_, rfl⟩
                  rw [hx] at c0
                  rw [hy] at c1
                  have hak := Hask.out k y (by rw [List.getElem?_eq_getElem hkl, hy]) (by omega)
                  obtain ⟨t, ht⟩ : ∃ t, t = pairAt ls i k := ⟨_, rfl⟩
                  rw [← ht] at hak
                  have hcall := Hasks.out k t hkl hak
                  have Ht := Lib.hid ht; have Hy := Lib.hid hy; have Hcall := Lib.hid hcall; have Hx := Lib.hid hx
                  clear ht hy hak hcall
                  go_wp2_with fail
                  refine Hcall.out.mono ?_
                  rintro e w' ⟨rfl, rfl⟩
                  cases t with
                  | false =>
                    have hnx : ∀ k', i < k' → k' < k + 1 → pairAt ls i k' = false := fun k' h1 h2 => by
                      by_cases e : k' < k
                      · exact Hall2.out k' h1 e
                      · obtain rfl : k' = k := by omega
                        exact Ht.out.symm
                    have Hnx := Lib.hid hnx; clear hnx
                    go_wp2_with fail
                    go_roundg (gk - 1)
                    case measure => have := Hk.out; omega
                    case rel => exact ⟨k + 1, by have := Hk.out; omega, by omega, by go_num, rfl, rfl, Hnx.out, rfl⟩
                  | true =>
                    have hfin : firstL ls = (x, y, true, 0) := by
                      have h1 := first_at H2.out (i := i) (k := k) ⟨hik, by rw [← Hvs.out]; exact hkl, Ht.out.symm, Hall2.out, by rw [← Hvs.out]; exact Hall.out⟩
                      rw [h1, ← Hvs.out, getD_at hil, getD_at hkl, Hx.out, Hy.out]
                    have hx0 : 0 ≤ x := by
                      have hxm : x ∈ vertsL ls := by rw [← Hvs.out, ← Hx.out]; exact List.getElem_mem _
                      obtain ⟨q, hq, e⟩ := (mem_vertsL ls x).1 hxm
                      have ok := HR.out.2.1 q hq
                      unfold OkL at ok
                      rcases e with rfl | rfl <;> omega
                    have q9 : decide (x < 0) = false := by simp; omega
                    have Hfin := Lib.hid hfin; clear hfin hx
                    go_wp2_with fail
                    go_quiet (fail)
                    go_wp2_with fail
                    rw [Hfin.out]
                    try rw [Exit.noGoto_ret]
                    exact bodyPost_ret (v := .tuple #[.int .i64 x, .int .i64 y, .bool true, .int .i64 0]) (by simp [results, Try.results16, go_sem]) rfl ⟨rfl, below_drewN hbW _⟩
                · have hkn : k = vs.length := by omega
                  subst hkn
                  have hnx : ∀ i' k', i' < i + 1 → i' < k' → k' < vs.length → pairAt ls i' k' = false := fun i' k' h1 h2 h3 => by
                    by_cases e : i' < i
                    · exact Hall.out i' k' e h2 h3
                    · obtain rfl : i' = i := by omega
                      exact Hall2.out k' h2 h3
                  have Hnx := Lib.hid hnx; clear hnx hk
                  go_wp2_with fail
                  go_roundg (gO - 1)
                  case measure => have := Hi.out; omega
                  case rel => exact ⟨i + 1, by have := Hi.out; omega, by go_num, rfl, rfl, Hnx.out, hbE⟩
        · have hin : i = vs.length := by omega
          subst hin
          have hfin : firstL ls = (0, 0, false, 0) := first_none H2.out fun i' k' h1 h4 => by
            rw [← Hvs.out] at h4
            exact Hall.out i' k' (by omega) h1 h4
          have Hfin := Lib.hid hfin; clear hfin hi
          go_wp2_with fail
          rw [Hfin.out]
          try rw [Exit.noGoto_ret]
          exact bodyPost_ret (v := .tuple #[.int .i64 0, .int .i64 0, .bool false, .int .i64 0]) (by simp [results, Try.results16, go_sem]) rfl ⟨rfl, bl_trans hB3 hbi⟩
end Go.Proofs.Ytagcbnpahgfgmaa
