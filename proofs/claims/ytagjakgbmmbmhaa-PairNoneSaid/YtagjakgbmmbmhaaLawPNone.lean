/- The law PairNone: whatever links come in (of more than 40, or of links that are not two-connected, only the chapter's examples are asked): no pair parts them just if they are one or two, three side by side, a triangle, or of four vertices or more, no two side by side, and joined whichever two vertices are taken away. It holds of every input. -/
import Derived.Test.YtagjakgbmmbmhaaPaU
import Derived.Test.YtagjakgbmmbmhaaPaH
import Derived.Test.YtagjakgbmmbmhaaRowL
namespace Go.Proofs.Ytagjakgbmmbmhaa
open Go Go.RowKit Go.ChangeShapes Go.WideShapes Go.ChangeAt Go.Joins Go.Deep

theorem any_succ2 (f : Nat → Bool) (k : Nat) : (List.range (k + 1)).any f = ((List.range k).any f || f k) := by
  rw [List.range_succ, List.any_append]; simp
theorem all_succ2 (f : Int → Bool) (vs : List Int) (j : Nat) (h : j < vs.length) : (vs.take (j + 1)).all f = ((vs.take j).all f && f vs[j]) := by
  rw [List.take_succ_eq_append_getElem h, List.all_append]; simp
theorem left_succ (ls : List Lk) (x y : Int) (m : Nat) (h : m < ls.length) : leftL (ls.take (m + 1)) x y = leftL (ls.take m) x y ++ if decide (ls[m].1 ≠ x) && decide (ls[m].1 ≠ y) && decide (ls[m].2.1 ≠ x) && decide (ls[m].2.1 ≠ y) then [ls[m]] else [] := by
  unfold leftL
  rw [List.take_succ_eq_append_getElem h, List.filter_append]
  congr 1
  rw [List.filter_cons]; simp
theorem leftL_len (ls : List Lk) (x y : Int) : (leftL ls x y).length ≤ ls.length := List.length_filter_le _ _

set_option maxRecDepth 100000 in
set_option maxHeartbeats 8000000 in
theorem pairNone_walk (a : Option Addr) (cap : Nat) (ls : List Lk) (w : World) (hr : RdL w a ls) (hl : ls.length ≤ cap) (hm : cap ≤ maxLen) (_hw : ∀ k ∈ ls, WfZ k.1 ∧ WfZ k.2.1 ∧ WfZ k.2.2) :
    Calls Try.prog 10 #[.slice a ls.length cap] w (RetT w true) := by
  have hcap : ls.length ≤ 9223372036854775807 := by unfold maxLen at hm; omega
  clear _hw hm hl
  by_cases h40 : 40 < ls.length
  · have g0 : decide ((40 : Int) < (ls.length : Int)) = true := by simp; omega
    go_enter Try.func10, Try.ntmps10
    go_wp2_with fail
    refine (awake13_walk _).mono ?_
    rintro e wz ⟨rfl, hbz⟩
    go_wp2_with fail
    go_ret
    exact ⟨rfl, bl_trans (bl_refl _) hbz⟩
  have h40' : ls.length ≤ 40 := by omega
  have g0 : decide ((40 : Int) < (ls.length : Int)) = false := by simp; omega
  clear h40
  cases h2 : twoL ls with
  | false =>
    have H2 := Lib.hid h2; clear h2
    go_enter Try.func10, Try.ntmps10
    go_wp2_with fail
    refine (two_walk a cap ls _ hr hcap).mono ?_
    rw [H2.out]
    rintro e w1 ⟨rfl, hb1⟩
    go_wp2_with fail
    refine (awake13_walk _).mono ?_
    rintro e wz ⟨rfl, hbz⟩
    go_wp2_with fail
    go_ret
    exact ⟨rfl, bl_trans hb1 hbz⟩
  | true =>
    obtain ⟨vs, hvs⟩ : ∃ vs, vs = vertsL ls := ⟨_, rfl⟩
    have hvl : vs.length ≤ 80 := by rw [hvs]; have := vertsL_length ls; omega
    have hv2 : 2 ≤ vs.length := by rw [hvs]; exact two_verts h2
    have Hvs := Lib.hid hvs; have H2 := Lib.hid h2
    clear hvs h2
    go_enter Try.func10, Try.ntmps10
    go_wp2_with fail
    refine (two_walk a cap ls _ hr hcap).mono ?_
    rw [H2.out]
    rintro e w1 ⟨rfl, hb1⟩
    go_wp2_with fail
    refine (verts_walk a cap ls _ (hr.below hb1) (by omega)).mono ?_
    rw [← Hvs.out]
    rintro e w2 ⟨av, cv, rfl, hrv, _, hvc, hvm, hb2⟩
    have hB2 := bl_trans hb1 hb2
    have hr2 := hr.below hB2
    clear hb1 hb2
    go_wp2_with fail
    go_loopg [4, 29] ls.length (fun r sv iv wj => ∃ (i : Nat) (s : Bool), i + r = ls.length ∧ iv = .int .i64 i ∧ sv = .bool s ∧ s = ((List.range i).any fun i => (List.range i).any fun k => sameB ls i k) ∧ Below w2.heap.size w2 wj)
    case atStart => exact ⟨0, false, by omega, rfl, rfl, rfl, bl_refl _⟩
    case round =>
      obtain ⟨i, s, hi, rfl, rfl, hs, hb⟩ := hrel
      have Hi := Lib.hid hi; have Hs := Lib.hid hs
      clear hs
      by_cases hil : i < ls.length
      · clear hi
        obtain ⟨gO, rfl⟩ : ∃ n : Nat, n = gk := ⟨_, rfl⟩
        have hns := any_succ2 (fun i => (List.range i).any fun k => sameB ls i k) i
        rw [← Hs.out] at hns
        have Hns := Lib.hid hns; clear hns
        obtain ⟨bl, ol, eal, l0, l1, l2⟩ := hr2.at i hil
        subst eal
        obtain ⟨⟨e1, e2, e3⟩, hE⟩ : ∃ E : Lk, ls[i] = E := ⟨_, rfl⟩
        rw [hE] at l0 l1 l2
        simp only at l0 l1 l2
        have hEi : ls[i]? = some (e1, e2, e3) := by rw [List.getElem?_eq_getElem hil, hE]
        have HEi := Lib.hid hEi
        clear hE hEi l2
        go_wp2_with fail
        go_loopg [4, 33] i (fun r sv kv wj => ∃ (k : Nat) (s2 : Bool), k + r = i ∧ kv = .int .i64 k ∧ sv = .bool s2 ∧ s2 = (s || (List.range k).any fun k => sameB ls i k) ∧ Below w2.heap.size w2 wj)
        case atStart => exact ⟨0, s, by omega, rfl, rfl, by simp, hb⟩
        case round =>
          clear hb
          obtain ⟨k, s2, hk, rfl, rfl, hs2, hbk⟩ := hrel
          have Hk := Lib.hid hk
          by_cases hki : k < i
          · clear hk
            have hst := any_succ2 (fun k => sameB ls i k) k
            have hst : (s || (List.range (k + 1)).any fun k => sameB ls i k) = (s2 || sameB ls i k) := by rw [hst, ← Bool.or_assoc, ← hs2]
            obtain ⟨bl', ol', eal, m0, m1, m2⟩ := (hr2.below hbk).at k (by omega)
            cases eal
            have c0 := keep_cell hbk l0
            have c1 := keep_cell hbk l1
            obtain ⟨⟨f1, f2, f3⟩, hF⟩ : ∃ E : Lk, ls[k]'(by omega) = E := ⟨_, rfl⟩
            rw [hF] at m0 m1 m2
            simp only at m0 m1 m2
            have hsame : sameB ls i k = (e1 == f1 && e2 == f2) := by unfold sameB; rw [HEi.out, List.getElem?_eq_getElem (by omega), hF]
            rw [hsame] at hst
            have ikl : k < ls.length := by omega
            have ii1 : (i : Int) < (ls.length : Int) := by omega
            have ii2 : (k : Int) < (ls.length : Int) := by omega
            clear hs2 hF m2 hsame
            cases s2 with
            | true =>
              rw [Bool.true_or] at hst
              have Hst := Lib.hid hst
              clear hst
              clear m0 m1
              go_wp2_with fail
              go_quiet (fail)
              go_wp2_with fail
              go_roundg (gk - 1)
              case measure => have := Hk.out; omega
              case rel => exact ⟨k + 1, true, by have := Hk.out; omega, by go_num, rfl, Hst.out.symm, below_drewN hbk _⟩
            | false =>
              rw [Bool.false_or] at hst
              cases q1 : (e1 == f1) with
              | false =>
                rw [q1, Bool.false_and] at hst
                have Hst := Lib.hid hst
                clear hst
                clear m1
                go_wp2_with fail
                go_quiet (fail)
                go_wp2_with fail
                go_roundg (gk - 1)
                case measure => have := Hk.out; omega
                case rel => exact ⟨k + 1, false, by have := Hk.out; omega, by go_num, rfl, Hst.out.symm, below_drewN hbk _⟩
              | true =>
                rw [q1, Bool.true_and] at hst
                obtain ⟨t, ht⟩ : ∃ t, (e2 == f2) = t := ⟨_, rfl⟩
                rw [ht] at hst
                have Hst := Lib.hid hst
                clear hst
                skip
                go_wp2_with fail
                go_quiet (fail)
                go_wp2_with fail
                go_roundg (gk - 1)
                case measure => have := Hk.out; omega
                case rel => exact ⟨k + 1, t, by have := Hk.out; omega, by go_num, rfl, Hst.out.symm, below_drewN hbk _⟩
          · have hkn : k = i := by omega
            subst hkn
            have Hs2 := Lib.hid hs2
            clear hk hs2
            go_wp2_with fail
            go_roundg (gO - 1)
            case measure => have := Hi.out; omega
            case rel => exact ⟨k + 1, s2, by have := Hi.out; omega, by go_num, rfl, by rw [Hns.out]; exact Hs2.out, hbk⟩
      · have hin : i = ls.length := by omega
        subst hin
        clear hi
        have hsb : s = sideB ls := Hs.out
        obtain ⟨w3, rfl⟩ : ∃ wo : World, wo = wr := ⟨_, rfl⟩
        have hB3 := bl_trans hB2 hb
        have hr3 := hr2.below hb
        have hrv3 := hrv.below hb
        obtain ⟨base, hbase⟩ : ∃ b, b = (decide (4 ≤ vs.length) && !s) := ⟨_, rfl⟩
        have hrgd : rigidB ls = (base && vs.all fun x => vs.all fun y => decide (y ≤ x) || okP ls x y) := by unfold rigidB; rw [hbase, hsb, Hvs.out]
        have Hrgd := Lib.hid hrgd
        have hw0 : ∃ d4, decide ((4 : Int) ≤ (vs.length : Int)) = d4 ∧ decide (4 ≤ vs.length) = d4 := ⟨decide (4 ≤ vs.length), by rw [Bool.eq_iff_iff]; simp; omega, rfl⟩
        obtain ⟨d4, hd1, hd2⟩ := hw0
        rw [hd2] at hbase
        clear hsb hrgd hb hr2 hrv hB2 Hs
        have hbs : ∃ b0, b0 = base ∧ ((d4 = true ∧ b0 = !s) ∨ (d4 = false ∧ b0 = false)) := ⟨base, rfl, by rw [hbase]; cases d4 <;> simp⟩
        obtain ⟨b0, hb0, hbc⟩ := hbs
        subst hb0
        clear hbase
        go_upto_region 14 with (fail)
        go_cut [7] (fun rv wx => rv = .bool b0 ∧ w3 = wx)
        case first =>
          rcases hbc with ⟨rfl, rfl⟩ | ⟨rfl, rfl⟩
          · cases s with
            | true =>
              go_wp2_with fail
              go_meet
              exact ⟨rfl, rfl⟩
            | false =>
              go_wp2_with fail
              go_meet
              exact ⟨rfl, rfl⟩
          · go_wp2_with fail
            go_meet
            exact ⟨rfl, rfl⟩
        case rest =>
        obtain ⟨rfl, rfl⟩ := hcut
        clear hbc hd1 hd2
        go_wp2_with fail
        go_loopg [7, 74] vs.length (fun r rv iv wj => ∃ (i : Nat) (g : Bool), i + r = vs.length ∧ iv = .int .i64 i ∧ rv = .bool g ∧ g = (b0 && (vs.take i).all fun x => vs.all fun y => decide (y ≤ x) || okP ls x y) ∧ Below w3.heap.size w3 wj)
        case atStart => exact ⟨0, b0, by omega, rfl, rfl, by simp, bl_refl _⟩
        case round =>
          obtain ⟨i, g, hi, rfl, rfl, hg, hbi⟩ := hrel
          have Hi := Lib.hid hi
          by_cases hil : i < vs.length
          · clear hi
            obtain ⟨gO, rfl⟩ : ∃ n : Nat, n = gk := ⟨_, rfl⟩
            have hng := all_succ2 (fun x => vs.all fun y => decide (y ≤ x) || okP ls x y) vs i hil
            obtain ⟨bv, ov, eav, c0⟩ := (hrv3.below hbi).at i hil
            subst eav
            obtain ⟨x, hx⟩ : ∃ x, vs[i] = x := ⟨_, rfl⟩
            rw [hx] at c0 hng
            have hng2 : (b0 && (vs.take (i + 1)).all fun x => vs.all fun y => decide (y ≤ x) || okP ls x y) = (g && vs.all fun y => decide (y ≤ x) || okP ls x y) := by rw [hng, ← Bool.and_assoc, ← hg]
            have Hng := Lib.hid hng2; have Hx := Lib.hid hx
            clear hng hng2 hx hg
            go_wp2_with fail
            go_loopg [7, 80] vs.length (fun r rv jv wj => ∃ (j : Nat) (g2 : Bool), j + r = vs.length ∧ jv = .int .i64 j ∧ rv = .bool g2 ∧ g2 = (g && (vs.take j).all fun y => decide (y ≤ x) || okP ls x y) ∧ Below w3.heap.size w3 wj)
            case atStart => exact ⟨0, g, by omega, rfl, rfl, by simp, hbi⟩
            case round =>
              clear hbi c0
              obtain ⟨j, g2, hj, rfl, rfl, hg2, hbj⟩ := hrel
              have Hj := Lib.hid hj
              by_cases hjl : j < vs.length
              · clear hj
                obtain ⟨gJ, rfl⟩ : ∃ n : Nat, n = gk := ⟨_, rfl⟩
                have hnr := all_succ2 (fun y => decide (y ≤ x) || okP ls x y) vs j hjl
                obtain ⟨bv', ov', eav, c1⟩ := (hrv3.below hbj).at j hjl
                cases eav
                obtain ⟨y, hy⟩ : ∃ x, vs[j] = x := ⟨_, rfl⟩
                rw [hy] at c1 hnr
                have hnr2 : (g && (vs.take (j + 1)).all fun y => decide (y ≤ x) || okP ls x y) = (g2 && (decide (y ≤ x) || okP ls x y)) := by rw [hnr, ← Bool.and_assoc, ← hg2]
                clear hnr hg2
                by_cases hyx : y ≤ x
                · have q1 : decide (y ≤ x) = true := by simpa using hyx
                  rw [q1, Bool.true_or, Bool.and_true] at hnr2
                  have Hnr := Lib.hid hnr2
                  clear hnr2 hy hyx
                  go_wp2_with fail
                  go_roundg (gJ - 1)
                  case measure => have := Hj.out; omega
                  case rel => exact ⟨j + 1, g2, by have := Hj.out; omega, by go_num, rfl, Hnr.out.symm, hbj⟩
                · have q1 : decide (y ≤ x) = false := by simpa using hyx
                  rw [q1, Bool.false_or] at hnr2
                  have hyx2 : x < y := by omega
                  cases g2 with
                  | false =>
                    rw [Bool.false_and] at hnr2
                    have Hnr := Lib.hid hnr2
                    clear hnr2 hy hyx hyx2
                    go_wp2_with fail
                    go_roundg (gJ - 1)
                    case measure => have := Hj.out; omega
                    case rel => exact ⟨j + 1, false, by have := Hj.out; omega, by go_num, rfl, Hnr.out.symm, hbj⟩
                  | true =>
                    rw [Bool.true_and] at hnr2
                    have Hnr1 := Lib.hid hnr2
                    clear hnr2 hy hyx hyx2
                    obtain ⟨wJ, rfl⟩ : ∃ wo : World, wo = wr := ⟨_, rfl⟩
                    go_wp2_with fail
                    go_loopg [12, 93] ls.length (fun r lv mv wj => ∃ (m : Nat) (u : Value), m + r = ls.length ∧ mv = .int .i64 m ∧ u = lv ∧ OwnL wj u (leftL (ls.take m) x y) ∧ (∀ g, u.ownBlock = some g → wJ.heap.size ≤ g) ∧ Below wJ.heap.size wJ wj)
                    case atStart => exact ⟨0, _, by omega, rfl, rfl, own_nil _ _ _, fun g hg => by simp [Value.ownBlock] at hg, bl_refl _⟩
                    case round =>
                      obtain ⟨m, u, hm, rfl, rfl, hu, hub, hbm⟩ := hrel
                      have Hm := Lib.hid hm; have Hu := Lib.hid hu; have Hub := Lib.hid hub
                      clear hu hub
                      by_cases hml : m < ls.length
                      · clear hm
                        have hnx := left_succ ls x y m hml
                        obtain ⟨bl, ol, eal, l0, l1, l2⟩ := (hr3.below (bl_trans hbj hbm)).at m hml
                        subst eal
                        obtain ⟨⟨e1, e2, e3⟩, hE⟩ : ∃ E : Lk, ls[m] = E := ⟨_, rfl⟩
                        rw [hE] at l0 l1 l2 hnx
                        simp only at l0 l1 l2 hnx
                        clear hE
                        by_cases t1 : e1 = x
                        · have q5 : (e1 != x) = false := by simp [t1]
                          rw [if_neg (by simp [t1]), List.append_nil] at hnx
                          have Hnx := Lib.hid hnx
                          clear hnx t1
                          go_wp2_with fail
                          go_roundg (gk - 1)
                          case measure => have := Hm.out; omega
                          case rel => exact ⟨m + 1, u, by have := Hm.out; omega, by go_num, rfl, by rw [Hnx.out]; exact Own.alloc Hu.out _, Hub.out, bl_trans hbm (bl_alloc _ _)⟩
                        · have q5 : (e1 != x) = true := by simpa using t1
                          by_cases t2 : e1 = y
                          · have q6 : (e1 != y) = false := by simp [t2]
                            rw [if_neg (by simp [t2]), List.append_nil] at hnx
                            have Hnx := Lib.hid hnx
                            clear hnx t1 t2
                            go_wp2_with fail
                            go_roundg (gk - 1)
                            case measure => have := Hm.out; omega
                            case rel => exact ⟨m + 1, u, by have := Hm.out; omega, by go_num, rfl, by rw [Hnx.out]; exact Own.alloc Hu.out _, Hub.out, bl_trans hbm (bl_alloc _ _)⟩
                          · have q6 : (e1 != y) = true := by simpa using t2
                            by_cases t3 : e2 = x
                            · have q7 : (e2 != x) = false := by simp [t3]
                              rw [if_neg (by simp [t3]), List.append_nil] at hnx
                              have Hnx := Lib.hid hnx
                              clear hnx t1 t2 t3
                              go_wp2_with fail
                              go_roundg (gk - 1)
                              case measure => have := Hm.out; omega
                              case rel => exact ⟨m + 1, u, by have := Hm.out; omega, by go_num, rfl, by rw [Hnx.out]; exact Own.alloc Hu.out _, Hub.out, bl_trans hbm (bl_alloc _ _)⟩
                            · have q7 : (e2 != x) = true := by simpa using t3
                              by_cases t4 : e2 = y
                              · have q8 : (e2 != y) = false := by simp [t4]
                                rw [if_neg (by simp [t4]), List.append_nil] at hnx
                                have Hnx := Lib.hid hnx
                                clear hnx t1 t2 t3 t4
                                go_wp2_with fail
                                go_roundg (gk - 1)
                                case measure => have := Hm.out; omega
                                case rel => exact ⟨m + 1, u, by have := Hm.out; omega, by go_num, rfl, by rw [Hnx.out]; exact Own.alloc Hu.out _, Hub.out, bl_trans hbm (bl_alloc _ _)⟩
                              · have q8 : (e2 != y) = true := by simpa using t4
                                rw [if_pos (by simp [t1, t2, t3, t4])] at hnx
                                obtain ⟨o, ho⟩ : ∃ o, o = leftL (ls.take m) x y := ⟨_, rfl⟩
                                have hol : o.length ≤ 40 := by rw [ho]; have := leftL_len (ls.take m) x y; rw [List.length_take] at this; omega
                                rw [← ho] at hnx Hu
                                have Hnx := Lib.hid hnx
                                clear hnx t1 t2 t3 t4 ho
                                go_upto_region 27 with (fail)
                                clear l0 l1 l2
                                obtain ⟨P, hP⟩ : ∃ P, P = wr.heap.size := ⟨_, rfl⟩
                                have z0 : (wr.alloc (.cells #[.int .i64 e1, .int .i64 e2, .int .i64 e3] 29)).cell? ⟨wr.heap.size, 0, none⟩ = some (.int .i64 e1) := by simp
                                have z1 : (wr.alloc (.cells #[.int .i64 e1, .int .i64 e2, .int .i64 e3] 29)).cell? ⟨wr.heap.size, 1, none⟩ = some (.int .i64 e2) := by simp
                                have z2 : (wr.alloc (.cells #[.int .i64 e1, .int .i64 e2, .int .i64 e3] 29)).cell? ⟨wr.heap.size, 2, none⟩ = some (.int .i64 e3) := by simp
                                have hbA1 := bl_alloc wr (.cells #[.int .i64 e1, .int .i64 e2, .int .i64 e3] 29)
                                have hu1 := Own.ext Hu.out hbA1
                                rw [← hP] at z0 z1 z2 ⊢
                                generalize wr.alloc (.cells #[.int .i64 e1, .int .i64 e2, .int .i64 e3] 29) = wB at z0 z1 z2 hbA1 hu1 ⊢
                                clear hP
                                have hbB := bl_trans hbm hbA1
                                have hbC := bl_trans hbB (bl_alloc wB (.cells #[.int .i64 e1, .int .i64 e2, .int .i64 e3] 29))
                                have hownA : Own (wB.alloc (.cells #[.int .i64 e1, .int .i64 e2, .int .i64 e3] 29)) u 29 3 o.length (lkCells o) := hu1.alloc _
                                have Hn3 := Lib.hid (news3 wB 29 e1 e2 e3); have Ho3 := Lib.hid (one3 e1 e2 e3)
                                clear hu1
                                go_wp2_with (at_builtin; refine wpList_append_row _ rfl (.tmp 119) (.tmp 121) 22 rfl 29 (.agg #[.int .i64 0, .int .i64 0, .int .i64 0]) 3 24 Try.underlying22 link_info rfl u o.length _ rfl hownA ⟨wB.heap.size, 0, none⟩ 1 1 [.int .i64 e1, .int .i64 e2, .int .i64 e3] rfl rfl Hn3.out Ho3.out (by omega) (by unfold maxLen; omega) (by omega) ?_)
                                intro g5 c5 w5 hr5 hc5 hg5 hor5
                                have hb5 : Below wJ.heap.size wJ w5 := hbC.grown hg5 (by have := hbC.size; exact this) (fun j hj => Hub.out j hj)
                                have hg6 : wJ.heap.size ≤ g5 := by
                                  rcases hor5 with h | h
                                  · exact Hub.out g5 h
                                  · have := hbB.size; first | omega | (simp at h; omega)
                                have hr6 : OwnL w5 (.slice (some ⟨g5, 0, none⟩) (o.length + 1) c5) (leftL (ls.take (m + 1)) x y) := by
                                  rw [Hnx.out]
                                  have h1 : Row w5 g5 29 3 c5 (lkCells (o ++ [((e1, e2, e3) : Lk)])) := by rw [lkCells_append]; exact hr5
                                  have := h1.own (n := o.length + 1) (by rw [lkCells_length]; simp) hc5
                                  unfold OwnL
                                  rw [List.length_append]
                                  exact this
                                have Hr6 := Lib.hid hr6
                                clear hr5 hg5 hor5 hownA hr6 z0 z1 z2 hbB hbC hbA1
                                go_wp2_with fail
                                go_roundg (gk - 1)
                                case measure => have := Hm.out; omega
                                case rel => exact ⟨m + 1, _, by have := Hm.out; omega, by go_num, rfl, Hr6.out, fun g hg => by cases hg; exact hg6, hb5⟩
                      · have hmn : m = ls.length := by omega
                        subst hmn
                        clear hm
                        have hu := Hu.out
                        rw [List.take_length] at hu
                        obtain ⟨L, hL⟩ : ∃ L, L = leftL ls x y := ⟨_, rfl⟩
                        have hLl : L.length ≤ 40 := by rw [hL]; have := leftL_len ls x y; omega
                        have hok : okP ls x y = ((vs.length == 4 && L.length == 1) || (((vertsL L).length == vs.length - 2) && joinedL L)) := by unfold okP; rw [hL, Hvs.out]
                        have hnr := Hnr1.out
                        rw [hok] at hnr
                        rw [← hL] at hu
                        clear hL hok
                        obtain ⟨au, cu, rfl, hru, _, _, _⟩ := OwnL.read hu
                        have hbJ := bl_trans hbj hbm
                        clear hu
                        have hLv := vertsL_length L
                        have i8 : IntKind.i64.wrap ((vs.length : Int) - 2) = (vs.length : Int) - 2 := IntWalk.i64_in _ (by omega)
                        by_cases v4 : vs.length = 4
                        · have q1 : ((vs.length : Int) == 4) = true := by rw [v4]; rfl
                          have q1' : (vs.length == 4) = true := by rw [v4]; rfl
                          by_cases l1 : L.length = 1
                          · have q2 : ((L.length : Int) == 1) = true := by rw [l1]; rfl
                            have q2' : (L.length == 1) = true := by rw [l1]; rfl
                            rw [q1', q2', Bool.true_and, Bool.true_or] at hnr
                            have Hnr := Lib.hid hnr
                            clear hnr v4 l1 hLv
                            go_wp2_with fail
                            go_roundg (gJ - 1)
                            case measure => have := Hj.out; omega
                            case rel => exact ⟨j + 1, true, by have := Hj.out; omega, by go_num, rfl, Hnr.out.symm, hbJ⟩
                          · have q2 : ((L.length : Int) == 1) = false := by simp only [beq_eq_false_iff_ne, ne_eq]; omega
                            have q2' : (L.length == 1) = false := by simpa using l1
                            rw [q2', Bool.and_false, Bool.false_or] at hnr
                            clear v4 l1
                            -- the vertices of what is left are counted; is it joined?
                            go_wp2_with fail
                            refine (verts_walk au cu L _ hru (by omega)).mono ?_
                            rintro e w6 ⟨a6, c6, rfl, hr6, _, _, _, hb6⟩
                            have hbJ6 := bl_trans hbJ hb6
                            have hru6 := hru.below hb6
                            clear hr6 hb6
                            by_cases e9 : (vertsL L).length = vs.length - 2
                            · have z1 : (((vertsL L).length : Int) == (vs.length : Int) - 2) = true := by simp only [beq_iff_eq]; omega
                              have z1' : ((vertsL L).length == vs.length - 2) = true := by simpa using e9
                              rw [z1', Bool.true_and] at hnr
                              have Hnr := Lib.hid hnr
                              clear hnr e9 hLv
                              go_wp2_with fail
                              refine (joined_walk au cu L _ hru6 (by omega)).mono ?_
                              rintro e w8 ⟨rfl, hb8⟩
                              have hbJ8 := bl_trans hbJ6 hb8
                              clear hb8
                              obtain ⟨jv, hjv⟩ : ∃ j, j = joinedL L := ⟨_, rfl⟩
                              rw [← hjv] at Hnr ⊢
                              clear hjv
                              go_wp2_with fail
                              go_roundg (gJ - 1)
                              case measure => have := Hj.out; omega
                              case rel => exact ⟨j + 1, jv, by have := Hj.out; omega, by go_num, rfl, Hnr.out.symm, hbJ8⟩
                            · have z1 : (((vertsL L).length : Int) == (vs.length : Int) - 2) = false := by simp only [beq_eq_false_iff_ne, ne_eq]; omega
                              have z1' : ((vertsL L).length == vs.length - 2) = false := by simpa using e9
                              rw [z1', Bool.false_and] at hnr
                              have Hnr := Lib.hid hnr
                              clear hnr e9 hLv
                              go_wp2_with fail
                              go_roundg (gJ - 1)
                              case measure => have := Hj.out; omega
                              case rel => exact ⟨j + 1, false, by have := Hj.out; omega, by go_num, rfl, Hnr.out.symm, hbJ6⟩
                        · have q1 : ((vs.length : Int) == 4) = false := by simp only [beq_eq_false_iff_ne, ne_eq]; omega
                          have q1' : (vs.length == 4) = false := by simpa using v4
                          rw [q1', Bool.false_and, Bool.false_or] at hnr
                          clear v4
                          -- the vertices of what is left are counted; is it joined?
                          go_wp2_with fail
                          refine (verts_walk au cu L _ hru (by omega)).mono ?_
                          rintro e w6 ⟨a6, c6, rfl, hr6, _, _, _, hb6⟩
                          have hbJ6 := bl_trans hbJ hb6
                          have hru6 := hru.below hb6
                          clear hr6 hb6
                          by_cases e9 : (vertsL L).length = vs.length - 2
                          · have z1 : (((vertsL L).length : Int) == (vs.length : Int) - 2) = true := by simp only [beq_iff_eq]; omega
                            have z1' : ((vertsL L).length == vs.length - 2) = true := by simpa using e9
                            rw [z1', Bool.true_and] at hnr
                            have Hnr := Lib.hid hnr
                            clear hnr e9 hLv
                            go_wp2_with fail
                            refine (joined_walk au cu L _ hru6 (by omega)).mono ?_
                            rintro e w8 ⟨rfl, hb8⟩
                            have hbJ8 := bl_trans hbJ6 hb8
                            clear hb8
                            obtain ⟨jv, hjv⟩ : ∃ j, j = joinedL L := ⟨_, rfl⟩
                            rw [← hjv] at Hnr ⊢
                            clear hjv
                            go_wp2_with fail
                            go_roundg (gJ - 1)
                            case measure => have := Hj.out; omega
                            case rel => exact ⟨j + 1, jv, by have := Hj.out; omega, by go_num, rfl, Hnr.out.symm, hbJ8⟩
                          · have z1 : (((vertsL L).length : Int) == (vs.length : Int) - 2) = false := by simp only [beq_eq_false_iff_ne, ne_eq]; omega
                            have z1' : ((vertsL L).length == vs.length - 2) = false := by simpa using e9
                            rw [z1', Bool.false_and] at hnr
                            have Hnr := Lib.hid hnr
                            clear hnr e9 hLv
                            go_wp2_with fail
                            go_roundg (gJ - 1)
                            case measure => have := Hj.out; omega
                            case rel => exact ⟨j + 1, false, by have := Hj.out; omega, by go_num, rfl, Hnr.out.symm, hbJ6⟩
              · have hjn : j = vs.length := by omega
                subst hjn
                rw [List.take_length] at hg2
                have Hg2 := Lib.hid hg2
                clear hj hg2
                go_wp2_with fail
                go_roundg (gO - 1)
                case measure => have := Hi.out; omega
                case rel => exact ⟨i + 1, g2, by have := Hi.out; omega, by go_num, rfl, by rw [Hng.out]; exact Hg2.out, hbj⟩
          · have hin : i = vs.length := by omega
            subst hin
            rw [List.take_length] at hg
            have hrg : g = rigidB ls := by rw [Hrgd.out]; exact hg
            have Hrg := Lib.hid hrg
            have hB9 := bl_trans hB3 hbi
            clear hi hg hrg
            by_cases l2 : ls.length ≤ 2
            · have q2 : decide ((ls.length : Int) ≤ 2) = true := by simp; omega
              -- the law's answer is V
              have hwv : noneL ls = true := by
                rw [show noneL ls = noneP ls from rfl, want_none H2.out]
                unfold wantN
                rw [← Hvs.out, ← Hrg.out]
                simp [l2]
              have Hwv := Lib.hid hwv
              have hvv : ((true) == (true)) = true := by simp
              clear hwv l2
              go_wp2_with fail
              refine (none_walk a cap ls _ (hr.below hB9) hcap).mono ?_
              rw [Hwv.out]
              rintro e w7 ⟨rfl, hb7⟩
              have hB10 := bl_trans hB9 hb7
              clear hb7
              go_wp2_with fail
              refine (awake13_walk _).mono ?_
              rintro e wz ⟨rfl, hbz⟩
              go_wp2_with fail
              go_ret
              exact ⟨rfl, bl_trans hB10 hbz⟩
            · have q2 : decide ((ls.length : Int) ≤ 2) = false := by simp; omega
              by_cases n2 : vs.length = 2
              · have q3 : ((vs.length : Int) == 2) = true := by rw [n2]; rfl
                have q3' : (vs.length == 2) = true := by rw [n2]; rfl
                have q4 : ((vs.length : Int) == 3) = false := by rw [n2]; rfl
                have q4' : (vs.length == 3) = false := by rw [n2]; rfl
                by_cases l3 : ls.length = 3
                · have q5 : ((ls.length : Int) == 3) = true := by rw [l3]; rfl
                  have q5' : (ls.length == 3) = true := by rw [l3]; rfl
                  -- the law's answer is V
                  have hwv : noneL ls = true := by
                    rw [show noneL ls = noneP ls from rfl, want_none H2.out]
                    unfold wantN
                    rw [← Hvs.out, ← Hrg.out]
                    simp [l2, n2, l3]
                  have Hwv := Lib.hid hwv
                  have hvv : ((true) == (true)) = true := by simp
                  clear hwv l2 n2 l3
                  go_wp2_with fail
                  refine (none_walk a cap ls _ (hr.below hB9) hcap).mono ?_
                  rw [Hwv.out]
                  rintro e w7 ⟨rfl, hb7⟩
                  have hB10 := bl_trans hB9 hb7
                  clear hb7
                  go_wp2_with fail
                  refine (awake13_walk _).mono ?_
                  rintro e wz ⟨rfl, hbz⟩
                  go_wp2_with fail
                  go_ret
                  exact ⟨rfl, bl_trans hB10 hbz⟩
                · have q5 : ((ls.length : Int) == 3) = false := by simp only [beq_eq_false_iff_ne, ne_eq]; omega
                  have q5' : (ls.length == 3) = false := by simpa using l3
                  -- the law's answer is V
                  have hwv : noneL ls = g := by
                    rw [show noneL ls = noneP ls from rfl, want_none H2.out]
                    unfold wantN
                    rw [← Hvs.out, ← Hrg.out]
                    simp [l2, n2, l3]
                  have Hwv := Lib.hid hwv
                  have hvv : ((g) == (g)) = true := by simp
                  clear hwv l2 n2 l3
                  go_wp2_with fail
                  refine (none_walk a cap ls _ (hr.below hB9) hcap).mono ?_
                  rw [Hwv.out]
                  rintro e w7 ⟨rfl, hb7⟩
                  have hB10 := bl_trans hB9 hb7
                  clear hb7
                  go_wp2_with fail
                  refine (awake13_walk _).mono ?_
                  rintro e wz ⟨rfl, hbz⟩
                  go_wp2_with fail
                  go_ret
                  exact ⟨rfl, bl_trans hB10 hbz⟩
              · have q3 : ((vs.length : Int) == 2) = false := by simp only [beq_eq_false_iff_ne, ne_eq]; omega
                have q3' : (vs.length == 2) = false := by simpa using n2
                by_cases n3 : vs.length = 3
                · have q4 : ((vs.length : Int) == 3) = true := by rw [n3]; rfl
                  have q4' : (vs.length == 3) = true := by rw [n3]; rfl
                  by_cases l3 : ls.length = 3
                  · have q5 : ((ls.length : Int) == 3) = true := by rw [l3]; rfl
                    have q5' : (ls.length == 3) = true := by rw [l3]; rfl
                    -- the law's answer is V
                    have hwv : noneL ls = true := by
                      rw [show noneL ls = noneP ls from rfl, want_none H2.out]
                      unfold wantN
                      rw [← Hvs.out, ← Hrg.out]
                      simp [l2, n2, n3, l3]
                    have Hwv := Lib.hid hwv
                    have hvv : ((true) == (true)) = true := by simp
                    clear hwv l2 n2 n3 l3
                    go_wp2_with fail
                    refine (none_walk a cap ls _ (hr.below hB9) hcap).mono ?_
                    rw [Hwv.out]
                    rintro e w7 ⟨rfl, hb7⟩
                    have hB10 := bl_trans hB9 hb7
                    clear hb7
                    go_wp2_with fail
                    refine (awake13_walk _).mono ?_
                    rintro e wz ⟨rfl, hbz⟩
                    go_wp2_with fail
                    go_ret
                    exact ⟨rfl, bl_trans hB10 hbz⟩
                  · have q5 : ((ls.length : Int) == 3) = false := by simp only [beq_eq_false_iff_ne, ne_eq]; omega
                    have q5' : (ls.length == 3) = false := by simpa using l3
                    -- the law's answer is V
                    have hwv : noneL ls = g := by
                      rw [show noneL ls = noneP ls from rfl, want_none H2.out]
                      unfold wantN
                      rw [← Hvs.out, ← Hrg.out]
                      simp [l2, n2, n3, l3]
                    have Hwv := Lib.hid hwv
                    have hvv : ((g) == (g)) = true := by simp
                    clear hwv l2 n2 n3 l3
                    go_wp2_with fail
                    refine (none_walk a cap ls _ (hr.below hB9) hcap).mono ?_
                    rw [Hwv.out]
                    rintro e w7 ⟨rfl, hb7⟩
                    have hB10 := bl_trans hB9 hb7
                    clear hb7
                    go_wp2_with fail
                    refine (awake13_walk _).mono ?_
                    rintro e wz ⟨rfl, hbz⟩
                    go_wp2_with fail
                    go_ret
                    exact ⟨rfl, bl_trans hB10 hbz⟩
                · have q4 : ((vs.length : Int) == 3) = false := by simp only [beq_eq_false_iff_ne, ne_eq]; omega
                  have q4' : (vs.length == 3) = false := by simpa using n3
                  -- the law's answer is V
                  have hwv : noneL ls = g := by
                    rw [show noneL ls = noneP ls from rfl, want_none H2.out]
                    unfold wantN
                    rw [← Hvs.out, ← Hrg.out]
                    simp [l2, n2, n3]
                  have Hwv := Lib.hid hwv
                  have hvv : ((g) == (g)) = true := by simp
                  clear hwv l2 n2 n3
                  go_wp2_with fail
                  refine (none_walk a cap ls _ (hr.below hB9) hcap).mono ?_
                  rw [Hwv.out]
                  rintro e w7 ⟨rfl, hb7⟩
                  have hB10 := bl_trans hB9 hb7
                  clear hb7
                  go_wp2_with fail
                  refine (awake13_walk _).mono ?_
                  rintro e wz ⟨rfl, hbz⟩
                  go_wp2_with fail
                  go_ret
                  exact ⟨rfl, bl_trans hB10 hbz⟩
namespace pairNone
open Go Go.RowKit Go.ChangeShapes Go.WideShapes Go.ChangeAt
set_option maxRecDepth 100000 in
theorem lifted (os : Os) (started : os.Started) (H : Type) (enc : TypeId × Value → H) :
    ReturnsInHanded {} Try.checked os 10 .any (Rows.pairNoneSpec.pre6 enc Try.prog Try.f10 Rows.pairNoneRow.domain false) (Rows.pairNoneSpec.post enc Try.prog Try.f10 false true false false) := by
  refine returnsInHanded_of_change (C := Try.checked) rowOwn started (by kernel_rfl) Try.func10
    (ChangeSpec.witness6 (enc := enc) (C := Try.checked) false ⟨#[], #[.slice none 0 0], []⟩ 8 (by kernel_rfl) (by kernel_rfl) (by kernel_rfl) (by kernel_rfl)) ?_
  intro W base args ds gs before hval0 hW hcnd _
  have hval : ∀ (j : Nat) t v, Try.f10.params[j]? = some t → args[j]? = some v → Value.okWide Try.prog W .any base t v := hval0
  have hW' := hW
  obtain ⟨p, q, hA0, hV, rfl, hfz, hnd⟩ := hW
  have hA : DataW.TrodAll enc Try.prog W 0 (fun _ => true) true Try.f10.params.toList args.toList ds p := hA0
  rw [Try.params10] at hA hval
  obtain ⟨v0, vs0, d0, ds0, p0, q0, hargs, rfl, rfl, h0, r0⟩ := trodAll_cons hA
  obtain ⟨rfl, rfl, rfl⟩ := trodAll_nil r0
  obtain rfl : args = #[v0] := by cases args; simp_all
  obtain ⟨rfl, rfl⟩ := trodVars_none hV
  have k0 := h0
  have lt0 : ∀ x ∈ p0, x.block < W.heap.size := by obtain ⟨m, hm⟩ := k0; exact DataW.trod_lt m _ _ _ hm
  obtain ⟨a0, cap0, es0, rfl, rd0, hl0, hm0, wn0⟩ := open_links (hval 0 22 v0 rfl rfl) h0
  clear hA0 hval0
  refine (pairNone_walk a0 cap0 es0 W rd0 hl0 hm0 wn0).mono fun e W' ⟨he, bel⟩ => ?_
  subst he
  exact ⟨_, rfl, _, _, _, [], _, [], hW', trodAll_mk1 (shut_bool Try.underlying4 _), (trodAll_cons_mk (Below.trod rowLaid (by kernel_rfl) (of_decide_eq_true (by kernel_rfl)) k0 bel lt0) trodAll_mk0), rfl, bel.frame _, fun h => by cases h⟩
theorem over : Rows.pairNoneRow.holds Try.pinned (OpenSpec.ofChange Rows.pairNoneSpec) :=
  OpenClaim.holds_of_wide 10 Try.f10 rfl rfl rfl rfl rfl rfl rfl ⟨rfl, rfl, rfl, rfl, rfl⟩ rfl rfl rfl rfl rfl (by kernel_rfl) Try.func10 (by kernel_rfl)
    (of_decide_eq_true (by kernel_rfl)) (by unfold Func.isWrapper; first | (rw [if_pos (by decide +kernel)]; kernel_rfl) | (rw [if_neg (by decide +kernel)]; exact ⟨rfl, rfl⟩))
    (fun os started H enc _ => lifted os started H enc)
/-- The statement. -/
theorem proved : Rows.PairNoneSaid := over
#print axioms proved
end pairNone
end Go.Proofs.Ytagjakgbmmbmhaa
