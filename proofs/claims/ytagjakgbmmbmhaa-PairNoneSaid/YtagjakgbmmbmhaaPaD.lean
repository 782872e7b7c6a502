/- pair.Parts; the document's may, Classes, Parts. -/
import Derived.Test.YtagjakgbmmbmhaaPaC
import Derived.Test.YtagjakgbmmbmhaaT12
namespace Go.Proofs.Ytagjakgbmmbmhaa
open Go Go.RowKit

theorem take_contains2 (wo : List Int) (i : Nat) (h : i < wo.length) (x : Int) : (wo.take (i + 1)).contains x = ((wo.take i).contains x || wo[i] == x) := by
  rw [take_contains wo i h, show (x == wo[i]) = (wo[i] == x) from BEq.comm]

set_option maxRecDepth 100000 in
set_option maxHeartbeats 4000000 in
theorem may_walk (a : Option Addr) (cap : Nat) (ls : List Lk) (p q : Int) (w : World) (hr : RdL w a ls) (hcap : ls.length ≤ 9223372036854775807) :
    Calls Try.prog 54 #[.slice a ls.length cap, .int .i64 p, .int .i64 q] w fun e w' => e = .returned (.bool (mayB ls p q)) ∧ Below w.heap.size w w' := by
  by_cases hpq : p = q
  · have hm : mayB ls p q = false := by unfold mayB; rw [hpq]; simp
    have e1 : (p == q) = true := by simpa using hpq
    have Hm := Lib.hid hm; clear hm hpq
    go_enter Try.func54, Try.ntmps54
    go_wp2_with fail
    go_ret
    exact ⟨by rw [Hm.out] <;> rfl, bl_refl _⟩
  have e1 : (p == q) = false := by simpa using hpq
  cases h2 : twoL ls with
  | false =>
    have hm : mayB ls p q = false := by unfold mayB; rw [h2]; simp
    have H2 := Lib.hid h2; have Hm := Lib.hid hm; clear h2 hm hpq
    go_enter Try.func54, Try.ntmps54
    go_wp2_with fail
    refine (refTwo12_walk a cap ls _ hr hcap).mono ?_
    rw [H2.out]
    rintro e w1 ⟨rfl, hb1⟩
    go_wp2_with fail
    go_ret
    exact ⟨by rw [Hm.out] <;> rfl, hb1⟩
  | true =>
    obtain ⟨vs, hvs⟩ : ∃ vs, vs = vertsL ls := ⟨_, rfl⟩
    have hn := (two_right h2).1
    have hvl : vs.length ≤ 2000 := by rw [hvs]; have := vertsL_length ls; omega
    have hm : mayB ls p q = (vs.contains p && vs.contains q) := by unfold mayB; rw [h2, e1, ← hvs]; simp
    have Hvs := Lib.hid hvs; have Hm := Lib.hid hm; have H2 := Lib.hid h2
    clear hvs hm h2 hpq
    go_enter Try.func54, Try.ntmps54
    go_wp2_with fail
    refine (refTwo12_walk a cap ls _ hr hcap).mono ?_
    rw [H2.out]
    rintro e w1 ⟨rfl, hb1⟩
    go_wp2_with fail
    refine (refVerts12_walk a cap ls _ (hr.below hb1) (by omega)).mono ?_
    rw [← Hvs.out]
    rintro e w2 ⟨av, cv, rfl, hrv, _, hvc, hvm, hb2⟩
    have hB2 := bl_trans hb1 hb2
    clear hb1 hb2 hr
    go_wp2_with fail
    go_loopg [8, 9, 10] vs.length (fun r xv yv iv wj => ∃ (i : Nat) (c d : Bool), i + r = vs.length ∧ iv = .int .i64 i ∧ xv = .bool c ∧ yv = .bool d ∧ c = (vs.take i).contains p ∧ d = (vs.take i).contains q ∧ w2 = wj)
    case atStart => exact ⟨0, false, false, by omega, rfl, rfl, rfl, by simp, by simp, rfl⟩
    case round =>
      obtain ⟨i, c, d, hi, rfl, rfl, rfl, hc, hd, rfl⟩ := hrel
      have Hi := Lib.hid hi
      by_cases hil : i < vs.length
      · clear hi
        obtain ⟨b, o, rfl, c0⟩ := hrv.at i hil
        have hst1 := take_contains2 vs i hil p
        have hst2 := take_contains2 vs i hil q
        obtain ⟨x, hx⟩ : ∃ x, vs[i] = x := ⟨_, rfl⟩
        rw [hx] at c0 hst1 hst2
        rw [← hc] at hst1; rw [← hd] at hst2
        clear hx hc hd
        obtain ⟨t1, ht1⟩ : ∃ t, (x == p) = t := ⟨_, rfl⟩
        obtain ⟨t2, ht2⟩ : ∃ t, (x == q) = t := ⟨_, rfl⟩
        rw [ht1] at hst1; rw [ht2] at hst2
        cases c with
        | true =>
          rw [Bool.true_or] at hst1
          cases d with
          | true =>
            rw [Bool.true_or] at hst2
            have Hst1 := Lib.hid hst1; have Hst2 := Lib.hid hst2; clear hst1 hst2
            go_wp2_with fail
            go_roundg (gk - 1)
            case measure => have := Hi.out; omega
            case rel => exact ⟨i + 1, _, _, by have := Hi.out; omega, by go_num, rfl, rfl, Hst1.out.symm, Hst2.out.symm, rfl⟩
          | false =>
            rw [Bool.false_or] at hst2
            have Hst1 := Lib.hid hst1; have Hst2 := Lib.hid hst2; clear hst1 hst2
            go_wp2_with fail
            go_roundg (gk - 1)
            case measure => have := Hi.out; omega
            case rel => exact ⟨i + 1, _, _, by have := Hi.out; omega, by go_num, rfl, rfl, Hst1.out.symm, Hst2.out.symm, rfl⟩
        | false =>
          rw [Bool.false_or] at hst1
          cases d with
          | true =>
            rw [Bool.true_or] at hst2
            have Hst1 := Lib.hid hst1; have Hst2 := Lib.hid hst2; clear hst1 hst2
            go_wp2_with fail
            go_roundg (gk - 1)
            case measure => have := Hi.out; omega
            case rel => exact ⟨i + 1, _, _, by have := Hi.out; omega, by go_num, rfl, rfl, Hst1.out.symm, Hst2.out.symm, rfl⟩
          | false =>
            rw [Bool.false_or] at hst2
            have Hst1 := Lib.hid hst1; have Hst2 := Lib.hid hst2; clear hst1 hst2
            go_wp2_with fail
            go_roundg (gk - 1)
            case measure => have := Hi.out; omega
            case rel => exact ⟨i + 1, _, _, by have := Hi.out; omega, by go_num, rfl, rfl, Hst1.out.symm, Hst2.out.symm, rfl⟩
      · have hin : i = vs.length := by omega
        subst hin
        rw [List.take_length] at hc hd
        have hm := Hm.out
        rw [← hc, ← hd] at hm
        have Hm2 := Lib.hid hm
        clear hm hc hd hi
        cases c with
        | true =>
          go_wp2_with fail
          go_ret
          exact ⟨by rw [Hm2.out] <;> rfl, hB2⟩
        | false =>
          go_wp2_with fail
          go_ret
          exact ⟨by rw [Hm2.out] <;> rfl, hB2⟩

set_option maxRecDepth 100000 in
set_option maxHeartbeats 4000000 in
theorem refClasses_walk (a : Option Addr) (cap : Nat) (ls : List Lk) (p q : Int) (w : World) (hr : RdL w a ls) (hcap : ls.length ≤ 9223372036854775807) :
    Calls Try.prog 30 #[.slice a ls.length cap, .int .i64 p, .int .i64 q] w (RetC w (classesL ls p q)) := by
  cases hm : mayB ls p q with
  | false =>
    have hc : classesL ls p q = ([], 130) := by unfold classesL; rw [hm]; rfl
    have Hm := Lib.hid hm; have Hc := Lib.hid hc; clear hm hc
    go_enter Try.func30, Try.ntmps30
    go_wp2_with fail
    refine (may_walk a cap ls p q _ hr hcap).mono ?_
    rw [Hm.out]
    rintro e w1 ⟨rfl, hb1⟩
    go_wp2_with fail
    go_ret2
    rw [Hc.out]
    exact ⟨_, [], rfl, LRows.start _ _, hb1⟩
  | true =>
    have hc : classesL ls p q = (groupsL ls [p, q], 0) := by unfold classesL; rw [hm]; rfl
    have Hm := Lib.hid hm; have Hc := Lib.hid hc; clear hm hc
    go_enter Try.func30, Try.ntmps30
    go_wp2_with fail
    refine (may_walk a cap ls p q _ hr hcap).mono ?_
    rw [Hm.out]
    rintro e w1 ⟨rfl, hb1⟩
    have hbA := bl_trans hb1 (bl_alloc w1 (.cells #[.int .i64 p, .int .i64 q] 3))
    have hpq2 : RdI (w1.alloc (.cells #[.int .i64 p, .int .i64 q] 3)) (some ⟨w1.heap.size, 0, none⟩) [p, q] := by
      intro j v hj
      refine ⟨w1.heap.size, 0, rfl, ?_⟩
      match j with
      | 0 => simp at hj; subst hj; exact (two_cells _ _ _ _ rfl).1
      | 1 => simp at hj; subst hj; exact (two_cells _ _ _ _ rfl).2
      | j + 2 => simp at hj
    have hr3 := hr.below hbA
    go_wp2_with fail
    refine (refGroups12_walk a cap ls _ _ [p, q] _ hr3 hcap hpq2 (by simp)).mono ?_
    rintro e w3 ⟨vo, vals, rfl, hL, hb3⟩
    have hB4 := bl_trans hbA hb3
    have hszB := hbA.size
    go_wp2_with fail
    go_ret2
    rw [Hc.out]
    exact ⟨vo, vals, rfl, { hL with lo := fun g hg => by have := hL.lo g hg; omega, rlo := fun i u g hu hg => by have h1 := hL.rlo i u g hu hg; exact ⟨by omega, h1.2⟩ }, hB4⟩

theorem ones_take (g : List (List Lk)) (i : Nat) (h : i < g.length) : onesN (lensL (g.take (i + 1))) = onesN (lensL (g.take i)) + if g[i].length = 1 then 1 else 0 := by
  rw [List.take_succ_eq_append_getElem h]
  unfold lensL onesN
  rw [List.map_append, List.filter_append, List.length_append]
  congr 1
  by_cases e : g[i].length = 1 <;> simp [e]
set_option maxRecDepth 100000 in
set_option maxHeartbeats 4000000 in
theorem pparts_walk (a : Option Addr) (cap : Nat) (ls : List Lk) (p q : Int) (w : World) (hr : RdL w a ls) (hcap : ls.length ≤ 9223372036854775807) (hp : WfZ p) (hq : WfZ q) :
    Calls Try.prog 31 #[.slice a ls.length cap, .int .i64 p, .int .i64 q] w (RetP w (partsL2 ls p q)) := by
  cases hm : mayB ls p q with
  | false =>
    have hc : classesL ls p q = ([], 130) := by unfold classesL; rw [hm]; rfl
    have hc2 : partsL2 ls p q = (false, 130) := by unfold partsL2; rw [hm]; rfl
    have Hc := Lib.hid hc; have Hc2 := Lib.hid hc2; clear hm hc hc2
    go_enter Try.func31, Try.ntmps31
    go_wp2_with fail
    refine (classes_walk a cap ls p q _ hr hcap hp hq).mono ?_
    rw [Hc.out]
    rintro e w1 ⟨vo, vals, rfl, hL, hb1⟩
    clear hL
    go_wp2_with fail
    go_ret2
    rw [Hc2.out]
    exact ⟨rfl, hb1⟩
  | true =>
    obtain ⟨G, hG⟩ : ∃ G, G = groupsL ls [p, q] := ⟨_, rfl⟩
    have hc : classesL ls p q = (G, 0) := by unfold classesL; rw [hm, hG]; rfl
    have hc2 : partsL2 ls p q = (partsN (lensL G), 0) := by unfold partsL2 pairP; rw [hm, hG]; rfl
    have hGl : G.length ≤ 1000 := by rw [hG]; exact groups_len_le _ _
    have Hc := Lib.hid hc; have Hc2 := Lib.hid hc2; clear hm hc hc2 hG
    go_enter Try.func31, Try.ntmps31
    go_wp2_with fail
    refine (classes_walk a cap ls p q _ hr hcap hp hq).mono ?_
    rw [Hc.out]
    rintro e w1 ⟨vo, vals, rfl, hL, hb1⟩
    obtain ⟨ao, co, rfl, hrG, _, _⟩ := hL.read
    clear hL
    go_wp2_with fail
    go_loopg [10, 25] G.length (fun r sv iv wj => ∃ i : Nat, i + r = G.length ∧ iv = .int .i64 i ∧ sv = .int .i64 (onesN (lensL (G.take i)) : Nat) ∧ w1 = wj)
    case atStart => exact ⟨0, by omega, rfl, rfl, rfl⟩
    case round =>
      obtain ⟨i, hi, rfl, rfl, rfl⟩ := hrel
      have Hi := Lib.hid hi
      by_cases hil : i < G.length
      · clear hi
        have hst := ones_take G i hil
        obtain ⟨R, hR⟩ : ∃ R, G[i] = R := ⟨_, rfl⟩
        have hRi : G[i]? = some R := by rw [List.getElem?_eq_getElem hil, hR]
        obtain ⟨bo, oo, au, cu, rfl, p0, _, _, _⟩ := hrG i R hRi
        rw [hR] at hst
        obtain ⟨s0, hs0⟩ : ∃ s0, s0 = onesN (lensL (G.take i)) := ⟨_, rfl⟩
        have hs0l : s0 ≤ 1000 := by rw [hs0]; have h1 := ones_le (lensL (G.take i)); have h2 : (lensL (G.take i)).length ≤ 1000 := by { unfold lensL; rw [List.length_map, List.length_take]; omega }; omega
        rw [← hs0] at hst ⊢
        clear hs0 hR hRi
        by_cases h1 : R.length = 1
        · have q1 : ((R.length : Int) == 1) = true := by rw [h1]; rfl
          have q2 : (R.length == 1) = true := by rw [h1]; rfl
          rw [if_pos h1] at hst
          have Hst := Lib.hid hst; clear hst h1
          go_wp2_with fail
          go_roundg (gk - 1)
          case measure => have := Hi.out; omega
          case rel => exact ⟨i + 1, by have := Hi.out; omega, by go_num, by rw [Hst.out]; go_num, rfl⟩
        · have q1 : ((R.length : Int) == 1) = false := by simp only [beq_eq_false_iff_ne, ne_eq]; omega
          have q2 : (R.length == 1) = false := by simpa using h1
          rw [if_neg h1] at hst
          have Hst := Lib.hid hst; clear hst h1
          go_wp2_with fail
          go_roundg (gk - 1)
          case measure => have := Hi.out; omega
          case rel => exact ⟨i + 1, by have := Hi.out; omega, by go_num, by rw [Hst.out]; go_num, rfl⟩
      · have hin : i = G.length := by omega
        subst hin
        rw [List.take_length]
        clear hi
        obtain ⟨s0, hs0⟩ : ∃ s0, s0 = onesN (lensL G) := ⟨_, rfl⟩
        have hs0l : s0 ≤ 1000 := by rw [hs0]; have h1 := ones_le (lensL G); have h2 : (lensL G).length ≤ 1000 := by { unfold lensL; rw [List.length_map]; exact hGl }; omega
        have hll : (lensL G).length = G.length := by simp [lensL]
        have hpp : partsN (lensL G) = if G.length ≤ 1 then false else if G.length = 2 then s0 == 0 else if G.length = 3 then decide (s0 < 3) else true := by unfold partsN; rw [hll, ← hs0]
        rw [← hs0]
        clear hs0 hll
        by_cases l0 : G.length = 0
        · rw [if_pos (by omega)] at hpp
          have g0 : ((G.length : Int) == 0) = true := by simp only [beq_iff_eq, beq_eq_false_iff_ne, ne_eq]; omega
          have g1 : ((G.length : Int) == 1) = false := by simp only [beq_iff_eq, beq_eq_false_iff_ne, ne_eq]; omega
          have g2 : ((G.length : Int) == 2) = false := by simp only [beq_iff_eq, beq_eq_false_iff_ne, ne_eq]; omega
          have g3 : ((G.length : Int) == 3) = false := by simp only [beq_iff_eq, beq_eq_false_iff_ne, ne_eq]; omega
          have f0 : (G.length == 0) = true := by simp only [beq_iff_eq, beq_eq_false_iff_ne, ne_eq]; omega
          have f1 : (G.length == 1) = false := by simp only [beq_iff_eq, beq_eq_false_iff_ne, ne_eq]; omega
          have f2 : (G.length == 2) = false := by simp only [beq_iff_eq, beq_eq_false_iff_ne, ne_eq]; omega
          have f3 : (G.length == 3) = false := by simp only [beq_iff_eq, beq_eq_false_iff_ne, ne_eq]; omega
          have Hpp := Lib.hid hpp; clear hpp l0
          go_wp2_with fail
          go_ret2
          rw [Hc2.out, Hpp.out]
          exact ⟨rfl, bl_trans hb1 (bl_refl _)⟩
        by_cases l1 : G.length = 1
        · rw [if_pos (by omega)] at hpp
          have g0 : ((G.length : Int) == 0) = false := by simp only [beq_iff_eq, beq_eq_false_iff_ne, ne_eq]; omega
          have g1 : ((G.length : Int) == 1) = true := by simp only [beq_iff_eq, beq_eq_false_iff_ne, ne_eq]; omega
          have g2 : ((G.length : Int) == 2) = false := by simp only [beq_iff_eq, beq_eq_false_iff_ne, ne_eq]; omega
          have g3 : ((G.length : Int) == 3) = false := by simp only [beq_iff_eq, beq_eq_false_iff_ne, ne_eq]; omega
          have f0 : (G.length == 0) = false := by simp only [beq_iff_eq, beq_eq_false_iff_ne, ne_eq]; omega
          have f1 : (G.length == 1) = true := by simp only [beq_iff_eq, beq_eq_false_iff_ne, ne_eq]; omega
          have f2 : (G.length == 2) = false := by simp only [beq_iff_eq, beq_eq_false_iff_ne, ne_eq]; omega
          have f3 : (G.length == 3) = false := by simp only [beq_iff_eq, beq_eq_false_iff_ne, ne_eq]; omega
          have Hpp := Lib.hid hpp; clear hpp l0 l1
          go_wp2_with fail
          go_ret2
          rw [Hc2.out, Hpp.out]
          exact ⟨rfl, bl_trans hb1 (bl_refl _)⟩
        rw [if_neg (by omega)] at hpp
        by_cases l2 : G.length = 2
        · rw [if_pos l2] at hpp
          cases hz : s0 == 0 with
          | true =>
            have z1 : ((s0 : Int) == 0) = true := by simp at hz ⊢; exact hz
            rw [hz] at hpp
            have g0 : ((G.length : Int) == 0) = false := by simp only [beq_iff_eq, beq_eq_false_iff_ne, ne_eq]; omega
            have g1 : ((G.length : Int) == 1) = false := by simp only [beq_iff_eq, beq_eq_false_iff_ne, ne_eq]; omega
            have g2 : ((G.length : Int) == 2) = true := by simp only [beq_iff_eq, beq_eq_false_iff_ne, ne_eq]; omega
            have g3 : ((G.length : Int) == 3) = false := by simp only [beq_iff_eq, beq_eq_false_iff_ne, ne_eq]; omega
            have f0 : (G.length == 0) = false := by simp only [beq_iff_eq, beq_eq_false_iff_ne, ne_eq]; omega
            have f1 : (G.length == 1) = false := by simp only [beq_iff_eq, beq_eq_false_iff_ne, ne_eq]; omega
            have f2 : (G.length == 2) = true := by simp only [beq_iff_eq, beq_eq_false_iff_ne, ne_eq]; omega
            have f3 : (G.length == 3) = false := by simp only [beq_iff_eq, beq_eq_false_iff_ne, ne_eq]; omega
            have Hpp := Lib.hid hpp; clear hpp l0 l1 l2
            go_wp2_with fail
            go_ret2
            rw [Hc2.out, Hpp.out]
            exact ⟨rfl, bl_trans hb1 (bl_refl _)⟩
          | false =>
            have z1 : ((s0 : Int) == 0) = false := by simp at hz ⊢; exact hz
            rw [hz] at hpp
            have g0 : ((G.length : Int) == 0) = false := by simp only [beq_iff_eq, beq_eq_false_iff_ne, ne_eq]; omega
            have g1 : ((G.length : Int) == 1) = false := by simp only [beq_iff_eq, beq_eq_false_iff_ne, ne_eq]; omega
            have g2 : ((G.length : Int) == 2) = true := by simp only [beq_iff_eq, beq_eq_false_iff_ne, ne_eq]; omega
            have g3 : ((G.length : Int) == 3) = false := by simp only [beq_iff_eq, beq_eq_false_iff_ne, ne_eq]; omega
            have f0 : (G.length == 0) = false := by simp only [beq_iff_eq, beq_eq_false_iff_ne, ne_eq]; omega
            have f1 : (G.length == 1) = false := by simp only [beq_iff_eq, beq_eq_false_iff_ne, ne_eq]; omega
            have f2 : (G.length == 2) = true := by simp only [beq_iff_eq, beq_eq_false_iff_ne, ne_eq]; omega
            have f3 : (G.length == 3) = false := by simp only [beq_iff_eq, beq_eq_false_iff_ne, ne_eq]; omega
            have Hpp := Lib.hid hpp; clear hpp l0 l1 l2
            go_wp2_with fail
            go_ret2
            rw [Hc2.out, Hpp.out]
            exact ⟨rfl, bl_trans hb1 (bl_refl _)⟩
        rw [if_neg l2] at hpp
        by_cases l3 : G.length = 3
        · rw [if_pos l3] at hpp
          by_cases hz : s0 < 3
          · have z1 : decide ((s0 : Int) < 3) = true := by simp; omega
            rw [decide_eq_true hz] at hpp
            have g0 : ((G.length : Int) == 0) = false := by simp only [beq_iff_eq, beq_eq_false_iff_ne, ne_eq]; omega
            have g1 : ((G.length : Int) == 1) = false := by simp only [beq_iff_eq, beq_eq_false_iff_ne, ne_eq]; omega
            have g2 : ((G.length : Int) == 2) = false := by simp only [beq_iff_eq, beq_eq_false_iff_ne, ne_eq]; omega
            have g3 : ((G.length : Int) == 3) = true := by simp only [beq_iff_eq, beq_eq_false_iff_ne, ne_eq]; omega
            have f0 : (G.length == 0) = false := by simp only [beq_iff_eq, beq_eq_false_iff_ne, ne_eq]; omega
            have f1 : (G.length == 1) = false := by simp only [beq_iff_eq, beq_eq_false_iff_ne, ne_eq]; omega
            have f2 : (G.length == 2) = false := by simp only [beq_iff_eq, beq_eq_false_iff_ne, ne_eq]; omega
            have f3 : (G.length == 3) = true := by simp only [beq_iff_eq, beq_eq_false_iff_ne, ne_eq]; omega
            have Hpp := Lib.hid hpp; clear hpp l0 l1 l2 l3
            go_wp2_with fail
            go_ret2
            rw [Hc2.out, Hpp.out]
            exact ⟨rfl, bl_trans hb1 (bl_refl _)⟩
          · have z1 : decide ((s0 : Int) < 3) = false := by simp; omega
            rw [decide_eq_false hz] at hpp
            have g0 : ((G.length : Int) == 0) = false := by simp only [beq_iff_eq, beq_eq_false_iff_ne, ne_eq]; omega
            have g1 : ((G.length : Int) == 1) = false := by simp only [beq_iff_eq, beq_eq_false_iff_ne, ne_eq]; omega
            have g2 : ((G.length : Int) == 2) = false := by simp only [beq_iff_eq, beq_eq_false_iff_ne, ne_eq]; omega
            have g3 : ((G.length : Int) == 3) = true := by simp only [beq_iff_eq, beq_eq_false_iff_ne, ne_eq]; omega
            have f0 : (G.length == 0) = false := by simp only [beq_iff_eq, beq_eq_false_iff_ne, ne_eq]; omega
            have f1 : (G.length == 1) = false := by simp only [beq_iff_eq, beq_eq_false_iff_ne, ne_eq]; omega
            have f2 : (G.length == 2) = false := by simp only [beq_iff_eq, beq_eq_false_iff_ne, ne_eq]; omega
            have f3 : (G.length == 3) = true := by simp only [beq_iff_eq, beq_eq_false_iff_ne, ne_eq]; omega
            have Hpp := Lib.hid hpp; clear hpp l0 l1 l2 l3
            go_wp2_with fail
            go_ret2
            rw [Hc2.out, Hpp.out]
            exact ⟨rfl, bl_trans hb1 (bl_refl _)⟩
        · rw [if_neg l3] at hpp
          have g0 : ((G.length : Int) == 0) = false := by simp only [beq_iff_eq, beq_eq_false_iff_ne, ne_eq]; omega
          have g1 : ((G.length : Int) == 1) = false := by simp only [beq_iff_eq, beq_eq_false_iff_ne, ne_eq]; omega
          have g2 : ((G.length : Int) == 2) = false := by simp only [beq_iff_eq, beq_eq_false_iff_ne, ne_eq]; omega
          have g3 : ((G.length : Int) == 3) = false := by simp only [beq_iff_eq, beq_eq_false_iff_ne, ne_eq]; omega
          have f0 : (G.length == 0) = false := by simp only [beq_iff_eq, beq_eq_false_iff_ne, ne_eq]; omega
          have f1 : (G.length == 1) = false := by simp only [beq_iff_eq, beq_eq_false_iff_ne, ne_eq]; omega
          have f2 : (G.length == 2) = false := by simp only [beq_iff_eq, beq_eq_false_iff_ne, ne_eq]; omega
          have f3 : (G.length == 3) = false := by simp only [beq_iff_eq, beq_eq_false_iff_ne, ne_eq]; omega
          have Hpp := Lib.hid hpp; clear hpp l0 l1 l2 l3
          go_wp2_with fail
          go_ret2
          rw [Hc2.out, Hpp.out]
          exact ⟨rfl, bl_trans hb1 (bl_refl _)⟩
end Go.Proofs.Ytagjakgbmmbmhaa
