/- The law LinksGroups: whatever links and vertices come in (of more than 60 links only the chapter's examples are asked; links that are not right have no groups): the groups are right lists, no two of them touch, each is come to from its first link step by step, and all of them in order are the links. It holds of every input. -/
import Derived.Test.YtagjakgbmmbmhaaLawTell
import Derived.Test.YtagjakgbmmbmhaaT12
import Derived.Test.YtagjakgbmmbmhaaLGP
import Derived.Test.YtagjakgbmmbmhaaCutsM
namespace Go.Proofs.Ytagjakgbmmbmhaa
open Go Go.RowKit Go.ChangeShapes Go.WideShapes Go.ChangeAt Go.Joins Go.Deep

theorem touch_law12_walkN (k : Nat) (a1 a2 a3 b1 b2 b3 : Int) (g : Option Addr) (cap : Nat) (wo : List Int) (w : World) (hr : RdI w g wo) (hk : wo.length = k) (hk2 : k ≤ 10) :
    Calls Try.prog 27 #[.agg #[.int .i64 a1, .int .i64 a2, .int .i64 a3], .agg #[.int .i64 b1, .int .i64 b2, .int .i64 b3], .slice g k cap] w
      fun e w' => e = .returned (.bool (touchB wo (a1, a2, a3) (b1, b2, b3))) ∧ Below w.heap.size w w' := by
  subst hk; exact touch_law12_walk a1 a2 a3 b1 b2 b3 g cap wo w hr (by omega)
theorem flat_take_len {ls : List Lk} {wo : List Int} (hR : RightL ls) (i : Nat) : ((groupsL ls wo).take i).flatten.length ≤ ls.length := by
  rw [← (grp_perm (wo := wo) hR).length_eq]
  have h := congrArg (fun l => (List.flatten l).length) (List.take_append_drop i (groupsL ls wo))
  simp only [List.flatten_append, List.length_append] at h
  omega
theorem addr_add (b o j : Nat) : (⟨b, o, none⟩ : Addr).add j = ⟨b, o + j, none⟩ := by
  unfold Addr.add
  split <;> simp_all
theorem flat_take_succ {α : Type} (g : List (List α)) (i : Nat) (h : i < g.length) : (g.take (i + 1)).flatten = (g.take i).flatten ++ g[i] := by
  rw [List.take_succ_eq_append_getElem h, List.flatten_append]; simp

set_option maxRecDepth 100000 in
set_option maxHeartbeats 8000000 in
theorem linksGroups_walk (a : Option Addr) (cap : Nat) (ls : List Lk) (aw : Option Addr) (capw : Nat) (zs : List Int) (w : World) (hr : RdL w a ls) (hl : ls.length ≤ cap) (hm : cap ≤ maxLen) (_hw : ∀ k ∈ ls, WfZ k.1 ∧ WfZ k.2.1 ∧ WfZ k.2.2)
    (hz : RdI w aw zs) (hzl : zs.length ≤ capw) (hzm : capw ≤ maxLen) (hzw : ∀ z ∈ zs, WfZ z) :
    Calls Try.prog 5 #[.slice a ls.length cap, .slice aw zs.length capw] w (RetT w true) := by
  have hcap : ls.length ≤ 9223372036854775807 := by unfold maxLen at hm; omega
  unfold maxLen at hzm
  clear _hw hm hl
  by_cases h60 : 60 < ls.length
  · have g0 : decide ((60 : Int) < (ls.length : Int)) = true := by simp; omega
    go_enter Try.func5, Try.ntmps5
    go_wp2_with fail
    refine (awake_walk _).mono ?_
    rintro e w1 ⟨rfl, hb1⟩
    go_wp2_with fail
    go_ret
    exact ⟨rfl, hb1⟩
  have h60' : ls.length ≤ 60 := by omega
  have g0 : decide ((60 : Int) < (ls.length : Int)) = false := by simp; omega
  have g0' : decide ((ls.length : Int) ≤ 60) = true := by simp; omega
  clear h60
  cases hrt : rightL ls with
  | false =>
    have hg : groupsL ls [] = [] := by unfold groupsL; rw [hrt]; rfl
    have Hrt := Lib.hid hrt; have Hg := Lib.hid hg; clear hrt hg
    go_enter Try.func5, Try.ntmps5
    go_wp2_with fail
    refine (lright_walk a cap ls _ hr hcap).mono ?_
    rw [Hrt.out]
    rintro e w1 ⟨rfl, hb1⟩
    go_wp2_with fail
    refine (groups_walk a cap ls none 0 [] _ (hr.below hb1) hcap (by intro i u hu; simp at hu) (by simp) (fun z hz => by simp at hz)).mono ?_
    rintro e w2 ⟨v2, vals2, rfl, hL, hb2⟩
    rw [Hg.out] at hL
    obtain ⟨ao, co, rfl, _⟩ := hL.read
    have hB2 := bl_trans hb1 hb2
    clear hL hb1 hb2
    go_wp2_with fail
    refine (awake_walk _).mono ?_
    rintro e w3 ⟨rfl, hb3⟩
    go_wp2_with fail
    go_ret
    exact ⟨rfl, bl_trans hB2 hb3⟩
  | true =>
  have hR := (rightL_iff ls).1 hrt
  have Hrt := Lib.hid hrt; have HR := Lib.hid hR
  clear hrt hR
  by_cases h10 : zs.length ≤ 10
  · have m1 : min (zs.length : Int) 10 = (zs.length : Int) := by omega
    have hW := hz
    have HWf := Lib.hid hzw; clear hzw
    go_enter Try.func5, Try.ntmps5
    go_wp2_with fail
    -- behind the cut; W: what is left out, as a list of K
    refine (lright_walk a cap ls _ hr hcap).mono ?_
    rw [Hrt.out]
    rintro e w1 ⟨rfl, hb1⟩
    go_wp2_with fail
    refine (groups_walkN zs.length a cap ls aw _ zs _ (hr.below hb1) hcap (hW.below hb1) rfl h10 HWf.out).mono ?_
    rintro e wG ⟨vG, valsG, rfl, hLG, hbG⟩
    have hBG := bl_trans hb1 hbG
    have hWG := hW.below hBG
    obtain ⟨aG, cG, rfl, hrG, hgc, _⟩ := hLG.read
    obtain ⟨gl, hgE⟩ : ∃ gl, gl = groupsL ls zs := ⟨_, rfl⟩
    have hgl : gl.length ≤ 1000 := by rw [hgE]; exact groups_len_le _ _
    rw [← hgE] at hrG hgc ⊢
    have HgE := Lib.hid hgE
    clear hgE hLG hbG hb1
    go_wp2_with fail
    go_loopg [7, 59] gl.length (fun r vo iv wj => ∃ (i : Nat) (u : Value), u = vo ∧ i + r = gl.length ∧ iv = .int .i64 i ∧ OwnL wj u (gl.take i).flatten ∧ (∀ g, u.ownBlock = some g → wG.heap.size ≤ g) ∧ Below wG.heap.size wG wj)
    case atStart => exact ⟨0, _, rfl, by omega, rfl, own_nil _ _ _, fun g hg => by simp [Value.ownBlock] at hg, bl_refl _⟩
    case round =>
      obtain ⟨i, u, rfl, hi, rfl, hu, hub, hb⟩ := hrel
      have Hub := Lib.hid hub; have Hi := Lib.hid hi
      obtain ⟨fl, hfl⟩ : ∃ fl, fl = (gl.take i).flatten := ⟨_, rfl⟩
      have hfll : fl.length ≤ 60 := by rw [hfl, HgE.out]; exact Nat.le_trans (flat_take_len HR.out i) h60'
      rw [← hfl] at hu
      have Hu := Lib.hid hu; have Hfl := Lib.hid hfl
      clear hu hub hfl
      by_cases hil : i < gl.length
      · clear hi
        obtain ⟨gO, rfl⟩ : ∃ n : Nat, n = gk := ⟨_, rfl⟩
        obtain ⟨R, hR0⟩ : ∃ R, gl[i] = R := ⟨_, rfl⟩
        have hRi : gl[i]? = some R := by rw [List.getElem?_eq_getElem hil, hR0]
        have hnx : (gl.take (i + 1)).flatten = fl ++ R := by rw [flat_take_succ gl i hil, ← Hfl.out, hR0]
        obtain ⟨bo, oo, au, cu, rfl, p0G, hrR, hRc, hcm⟩ := hrG i R hRi
        have p0 := keep_cell hb p0G
        obtain ⟨i0, hf0, G⟩ := grp_at Hrt.out (wo := zs) (by rw [← HgE.out]; exact hRi)
        have hRR : rightL R = true := (rightL_iff R).2 (right_sub HR.out G.sub)
        have hR0l : 0 < R.length := List.length_pos_of_mem G.self
        have hRl : R.length ≤ 60 := Nat.le_trans G.sub.length_le h60'
        have q0 : ((R.length : Int) == 0) = false := by simp only [beq_eq_false_iff_ne, ne_eq]; omega
        have q0' : (R.length == 0) = false := by simp only [beq_eq_false_iff_ne, ne_eq]; omega
        obtain ⟨b1, o1, rfl, _⟩ := hrR.at 0 hR0l
        have HG := Lib.hid G; have HRR := Lib.hid hRR; have Hf0 := Lib.hid hf0; have Hnx := Lib.hid hnx; have HRi := Lib.hid hRi
        clear G hRR hf0 hnx hRi hR0
        go_wp2_with fail
        refine (lright_walk (some ⟨b1, o1, none⟩) cu R _ (hrR.below hb) (by omega)).mono ?_
        rw [HRR.out]
        rintro e w2 ⟨rfl, hb2⟩
        have hb2' := bl_trans hb hb2
        have hrR2 := hrR.below hb2'
        have hown : Own w2 u 29 3 fl.length (lkCells fl) := Own.ext Hu.out hb2
        have hnews : ∀ (j : Nat) v, (lkCells R)[j]? = some v → w2.cell? ((⟨b1, o1, none⟩ : Addr).add j) = some v := fun j v hj => by
          obtain ⟨b', o', e1, e2⟩ := hrR2 j v hj
          cases e1
          rw [addr_add]; exact e2
        have Hone := Lib.hid (lkCells_one R); have Hnews := Lib.hid hnews; have Hlen := Lib.hid (lkCells_length R)
        clear hnews hb2 p0
        go_wp2_with (at_builtin; refine wpList_append_row _ rfl (.tmp 72) (.tmp 73) 22 rfl 29 (.agg #[.int .i64 0, .int .i64 0, .int .i64 0]) 3 24 Try.underlying22 link_info rfl u fl.length _ rfl hown ⟨b1, o1, none⟩ R.length cu (lkCells R) rfl Hlen.out Hnews.out Hone.out (by omega) (by unfold maxLen; omega) (by omega) ?_)
        intro g5 c5 w5 hr5 hc5 hg5 hor5
        have hb5 : Below wG.heap.size wG w5 := hb2'.grown hg5 hb2'.size (fun j hj => Hub.out j hj)
        have hg6 : wG.heap.size ≤ g5 := by
          rcases hor5 with h | h
          · exact Hub.out g5 h
          · have := hb2'.size; omega
        have hown5 : OwnL w5 (.slice (some ⟨g5, 0, none⟩) (fl.length + R.length) c5) (gl.take (i + 1)).flatten := by
          rw [Hnx.out]
          have h1 : Row w5 g5 29 3 c5 (lkCells (fl ++ R)) := by rw [lkCells_append]; exact hr5
          have := h1.own (n := fl.length + R.length) (by rw [lkCells_length]; simp) hc5
          unfold OwnL
          rw [List.length_append]
          exact this
        have Hown5 := Lib.hid hown5
        clear hr5 hg5 hor5 hown hown5 hb2' hrR2 hb Hnews Hone Hlen Hu Hub
        go_wp2_with fail
        go_loopg [77] gl.length (fun r kv wj => ∃ k : Nat, k + r = gl.length ∧ kv = .int .i64 k ∧ Below w5.heap.size w5 wj)
        case atStart => exact ⟨0, by omega, rfl, bl_refl _⟩
        case round =>
          obtain ⟨k, hk, rfl, hbk⟩ := hrel
          have Hk := Lib.hid hk
          by_cases hkl : k < gl.length
          · clear hk
            obtain ⟨gK, rfl⟩ : ∃ n : Nat, n = gk := ⟨_, rfl⟩
            obtain ⟨S, hS0⟩ : ∃ S, gl[k] = S := ⟨_, rfl⟩
            have hSk : gl[k]? = some S := by rw [List.getElem?_eq_getElem hkl, hS0]
            obtain ⟨bo', oo', au2, cu2, eG, p1G, hrS, hSc, hcm2⟩ := hrG k S hSk
            cases eG
            have p1 := keep_cell (bl_trans hb5 hbk) p1G
            have hSl : S.length ≤ 60 := by
              obtain ⟨i1, _, G1⟩ := grp_at Hrt.out (wo := zs) (by rw [← HgE.out]; exact hSk)
              exact Nat.le_trans G1.sub.length_le h60'
            have HSk := Lib.hid hSk
            obtain ⟨wK, rfl⟩ : ∃ wo : World, wo = wr := ⟨_, rfl⟩
            have hbWK := bl_trans hb5 hbk
            clear hSk hS0
            go_wp2_with fail
            go_loopg [84] R.length (fun r mv wj => ∃ m : Nat, m + r = R.length ∧ mv = .int .i64 m ∧ Below wK.heap.size wK wj)
            case atStart => exact ⟨0, by omega, rfl, bl_refl _⟩
            case round =>
              obtain ⟨m, hm, rfl, hbm⟩ := hrel
              have Hm := Lib.hid hm
              by_cases hml : m < R.length
              · clear hm
                obtain ⟨gM, rfl⟩ : ∃ n : Nat, n = gk := ⟨_, rfl⟩
                have hbWM := bl_trans hbWK hbm
                obtain ⟨bx, ox, ex, x0, x1, x2⟩ := (hrR.below hbWM).at m hml
                cases ex
                obtain ⟨⟨e1, e2, e3⟩, hE⟩ : ∃ E : Lk, R[m] = E := ⟨_, rfl⟩
                have hEm : (e1, e2, e3) ∈ R := by rw [← hE]; exact List.getElem_mem _
                rw [hE] at x0 x1 x2
                simp only at x0 x1 x2
                have HEm := Lib.hid hEm
                have hbX : Below wK.heap.size wK (wr.alloc (.cells #[.int .i64 e1, .int .i64 e2, .int .i64 e3] 29)) := bl_trans hbm (bl_alloc _ _)
                have z0 : (wr.alloc (.cells #[.int .i64 e1, .int .i64 e2, .int .i64 e3] 29)).cell? ⟨wr.heap.size, 0, none⟩ = some (.int .i64 e1) := by simp
                have z1 : (wr.alloc (.cells #[.int .i64 e1, .int .i64 e2, .int .i64 e3] 29)).cell? ⟨wr.heap.size, 1, none⟩ = some (.int .i64 e2) := by simp
                have z2 : (wr.alloc (.cells #[.int .i64 e1, .int .i64 e2, .int .i64 e3] 29)).cell? ⟨wr.heap.size, 2, none⟩ = some (.int .i64 e3) := by simp
                clear hEm hE hbm
                go_upto_region 18 with (fail)
                clear x0 x1 x2
                generalize wr.alloc (.cells #[.int .i64 e1, .int .i64 e2, .int .i64 e3] 29) = wX at hbX z0 z1 z2 ⊢
                have hbWX := bl_trans hbWK hbX
                obtain ⟨P, hP⟩ : ∃ P, P = wr.heap.size := ⟨_, rfl⟩
                rw [← hP] at z0 z1 z2 ⊢
                clear hP
                go_wp2_with fail
                go_loopg [90] S.length (fun r nv wj => ∃ n : Nat, n + r = S.length ∧ nv = .int .i64 n ∧ Below wX.heap.size wX wj)
                case atStart => exact ⟨0, by omega, rfl, bl_refl _⟩
                case round =>
                  obtain ⟨n, hn, rfl, hbn⟩ := hrel
                  have Hn := Lib.hid hn
                  by_cases hnl : n < S.length
                  · clear hn
                    have hbWN := bl_trans hbWX hbn
                    obtain ⟨by_, oy, ey, y0, y1, y2⟩ := (hrS.below hbWN).at n hnl
                    cases ey
                    obtain ⟨⟨f1, f2, f3⟩, hF⟩ : ∃ E : Lk, S[n] = E := ⟨_, rfl⟩
                    have hFm : (f1, f2, f3) ∈ S := by rw [← hF]; exact List.getElem_mem _
                    rw [hF] at y0 y1 y2
                    simp only at y0 y1 y2
                    have HFm := Lib.hid hFm
                    have hbA := bl_alloc wr (.cells #[.int .i64 f1, .int .i64 f2, .int .i64 f3] 29)
                    have hbn2 := bl_trans hbn hbA
                    have z0' := keep_cell hbn2 z0
                    have z1' := keep_cell hbn2 z1
                    have z2' := keep_cell hbn2 z2
                    clear hFm hF
                    by_cases hik : i = k
                    · have q1 : ((i : Int) != (k : Int)) = false := by simp [hik]
                      have q1' : (i != k) = false := by simp [hik]
                      clear hik
                      go_wp2_with fail
                      go_roundg (gk - 1)
                      case measure => have := Hn.out; omega
                      case rel => exact ⟨n + 1, by have := Hn.out; omega, by go_num, hbn2⟩
                    · have q1 : ((i : Int) != (k : Int)) = true := by simp only [bne_iff_ne, ne_eq]; omega
                      have q1' : (i != k) = true := by simpa using hik
                      have hno : touchB zs (e1, e2, e3) (f1, f2, f3) = false := by
                        obtain ⟨i1, hf1, G1⟩ := grp_at Hrt.out (wo := zs) (by rw [← HgE.out]; exact HSk.out)
                        exact grp_touch HR.out HG.out G1 (grp_differ Hf0.out hf1 hik) HEm.out HFm.out
                      have Hno := Lib.hid hno
                      have hWn := hWG.below (bl_trans hbWX hbn2)
                      clear hno hik
                      go_wp2_with fail
                      refine (touch_law12_walkN zs.length e1 e2 e3 f1 f2 f3 aw _ zs _ hWn rfl h10).mono ?_
                      rw [Hno.out]
                      rintro e w7 ⟨rfl, hb7⟩
                      go_wp2_with fail
                      go_roundg (gk - 1)
                      case measure => have := Hn.out; omega
                      case rel => exact ⟨n + 1, by have := Hn.out; omega, by go_num, bl_trans hbn2 hb7⟩
                  · have hnn : n = S.length := by omega
                    subst hnn
                    clear hn
                    go_wp2_with fail
                    go_roundg (gM - 1)
                    case measure => have := Hm.out; omega
                    case rel => exact ⟨m + 1, by have := Hm.out; omega, by go_num, bl_trans hbX hbn⟩
              · have hmn : m = R.length := by omega
                subst hmn
                clear hm
                go_wp2_with fail
                go_roundg (gK - 1)
                case measure => have := Hk.out; omega
                case rel => exact ⟨k + 1, by have := Hk.out; omega, by go_num, bl_trans hbk hbm⟩
          · have hkn : k = gl.length := by omega
            subst hkn
            clear hk
            have hmb := run_make_row' (P := Try.prog) 38 4 (.bool false) 1 Try.underlying38 bool_info rfl .i64 .i64 R.length (by omega) (by omega)
            have hrc0 : Row (wr.alloc (.cells (madeCells #[.bool false] R.length) 4)) wr.heap.size 4 1 R.length (rowB R.length fun _ => false) := by
              have := row_made wr (.bool false) R.length 4 (by unfold maxLen; omega)
              rwa [rowB_zero] at this
            have hbA := bl_trans hbk (bl_alloc wr (.cells (madeCells #[.bool false] R.length) 4))
            go_upto_region 27 with (fail)
            clear hmb
            obtain ⟨gC, hgC⟩ : ∃ g, g = wr.heap.size := ⟨_, rfl⟩
            have hgCl : w5.heap.size ≤ gC := by rw [hgC]; exact hbk.size
            rw [← hgC] at hrc0 ⊢
            clear hgC
            generalize wr.alloc (.cells (madeCells #[.bool false] R.length) 4) = wM at hrc0 hbA ⊢
            have f0 := hrc0.frozen 0
            have c0 := hrc0.atB hR0l
            have hgM := hrc0.lt
            have hs1 : Row (wM.setCell ⟨gC, 0, none⟩ (.bool true)) gC 4 1 R.length (rowB R.length (upd (fun _ => false) 0 true)) := by
              have := hrc0.set 0 (.bool true)
              rwa [rowB_set] at this
            have hbs1 : Below w5.heap.size w5 (wM.setCell ⟨gC, 0, none⟩ (.bool true)) := hbA.setCell hgCl _
            go_upto_region 28 with (fail)
            clear f0 c0 hrc0 hbA hgM
            generalize wM.setCell ⟨gC, 0, none⟩ (.bool true) = wN at hs1 hbs1 ⊢
            have hcs := ComeOk.start (wo := zs) hR0l
            have Hcs := Lib.hid hcs; clear hcs
            go_wp2_with fail
            go_loopg [113] R.length (fun r pv wj => ∃ (p : Nat) (c : Nat → Bool), p + r = R.length ∧ pv = .int .i64 p ∧ Row wj gC 4 1 R.length (rowB R.length c) ∧ ComeOk R zs c p ∧ Below w5.heap.size w5 wj)
            case atStart => exact ⟨0, _, by omega, rfl, hs1, Hcs.out, hbs1⟩
            case round =>
              clear hs1 hbs1
              obtain ⟨p, cS, hp, rfl, hrow, hcome, hbp⟩ := hrel
              have Hp := Lib.hid hp; have Hcome := Lib.hid hcome
              clear hcome
              by_cases hpl : p < R.length
              · clear hp
                obtain ⟨gP, rfl⟩ : ∃ n : Nat, n = gk := ⟨_, rfl⟩
                have hps : PassC R zs cS cS 0 0 := PassC.start
                have Hps := Lib.hid hps; clear hps
                go_wp2_with fail
                go_loopg [117] R.length (fun r xv wj => ∃ (x : Nat) (c : Nat → Bool), x + r = R.length ∧ xv = .int .i64 x ∧ Row wj gC 4 1 R.length (rowB R.length c) ∧ PassC R zs cS c x 0 ∧ Below w5.heap.size w5 wj)
                case atStart => exact ⟨0, _, by omega, rfl, hrow, Hps.out, hbp⟩
                case round =>
                  clear hrow hbp
                  obtain ⟨x, c, hx, rfl, hrow, hpass, hbp⟩ := hrel
                  have Hx := Lib.hid hx; have Hpass := Lib.hid hpass
                  clear hpass
                  by_cases hxl : x < R.length
                  · clear hx
                    obtain ⟨gX, rfl⟩ : ∃ n : Nat, n = gk := ⟨_, rfl⟩
                    go_wp2_with fail
                    go_loopg [122] R.length (fun r yv wj => ∃ (y : Nat) (c : Nat → Bool), y + r = R.length ∧ yv = .int .i64 y ∧ Row wj gC 4 1 R.length (rowB R.length c) ∧ PassC R zs cS c x y ∧ Below w5.heap.size w5 wj)
                    case atStart => exact ⟨0, _, by omega, rfl, hrow, Hpass.out, hbp⟩
                    case round =>
                      clear hrow hbp Hpass c
                      obtain ⟨y, c, hy, rfl, hrow, hpass, hbp⟩ := hrel
                      have Hy := Lib.hid hy
                      by_cases hyl : y < R.length
                      · clear hy
                        have hbWY := bl_trans hb5 hbp
                        obtain ⟨bx, ox, ex, x0, x1, x2⟩ := (hrR.below hbWY).at x hxl
                        cases ex
                        obtain ⟨by_, oy, ey, y0, y1, y2⟩ := (hrR.below hbWY).at y hyl
                        cases ey
                        obtain ⟨⟨e1, e2, e3⟩, hE⟩ : ∃ E : Lk, R[x] = E := ⟨_, rfl⟩
                        obtain ⟨⟨f1, f2, f3⟩, hF⟩ : ∃ E : Lk, R[y] = E := ⟨_, rfl⟩
                        have hst := hpass.step (e := (e1, e2, e3)) (f := (f1, f2, f3)) (by rw [List.getElem?_eq_getElem hxl, hE]) (by rw [List.getElem?_eq_getElem hyl, hF])
                        rw [hE] at x0 x1 x2
                        rw [hF] at y0 y1 y2
                        simp only at x0 x1 x2 y0 y1 y2
                        have cx := hrow.atB hxl
                        have cy := hrow.atB hyl
                        have fy := hrow.frozen y
                        have hgl2 := hrow.lt
                        clear hpass hE hF
                        cases hcy : c y with
                        | true =>
                          rw [hcy] at cy hst
                          rw [Bool.true_or] at hst
                          have Hst := Lib.hid hst; clear hst hcy cx x0 x1 x2 y0 y1 y2
                          go_wp2_with fail
                          refine regionT (fun w' => w'.cell? ⟨gC, y, none⟩ = some (.bool true)) 25 (by kernel_rfl) ?_
                          have hS : wr.drew.cell? ⟨gC, y, none⟩ = some (.bool true) := cy
                          refine takeT (i := 0) (v := ?_) rfl (by kernel_rfl) (fun _ _ _ h => h) (Or.inl ⟨rfl, ?_⟩) hS ?_
                          rotate_left
                          · (intro wS hSw; (try dsimp only at hSw); go_simp; try (with_reducible rfl))
                          simp only [Act.put, List.setIfInBounds_toArray, List.set_cons_zero, List.set_cons_succ]
                          refine takeT (i := 1) (v := ?_) rfl (by kernel_rfl) (fun _ _ _ h => h) (Or.inl ⟨rfl, ?_⟩) hS ?_
                          rotate_left
                          · (intro wS hSw; (try dsimp only at hSw); go_simp; try (with_reducible rfl))
                          simp only [Act.put, List.setIfInBounds_toArray, List.set_cons_zero, List.set_cons_succ]
                          refine takeT (i := 2) (v := ?_) rfl (by kernel_rfl) (fun _ _ _ h => h) (Or.inl ⟨rfl, ?_⟩) hS ?_
                          rotate_left
                          · (intro wS hSw; (try dsimp only at hSw); go_simp; try (with_reducible rfl))
                          simp only [Act.put, List.setIfInBounds_toArray, List.set_cons_zero, List.set_cons_succ]
                          refine takeT (i := 3) (v := ?_) rfl (by kernel_rfl) (fun _ _ _ h => h) (Or.inl ⟨rfl, ?_⟩) hS ?_
                          rotate_left
                          · (intro wS hSw; (try dsimp only at hSw); go_simp; try (with_reducible rfl))
                          simp only [Act.put, List.setIfInBounds_toArray, List.set_cons_zero, List.set_cons_succ]
                          refine takeT (i := 4) (v := ?_) rfl (by kernel_rfl) (fun _ _ _ h => h) (Or.inl ⟨rfl, ?_⟩) hS ?_
                          rotate_left
                          · (intro wS hSw; (try dsimp only at hSw); go_simp; try (with_reducible rfl))
                          simp only [Act.put, List.setIfInBounds_toArray, List.set_cons_zero, List.set_cons_succ]
                          refine takeT (i := 5) (v := ?_) rfl (by kernel_rfl) (fun _ _ _ h => h) (Or.inl ⟨rfl, ?_⟩) hS ?_
                          rotate_left
                          · (intro wS hSw; (try dsimp only at hSw); go_simp; try (with_reducible rfl))
                          simp only [Act.put, List.setIfInBounds_toArray, List.set_cons_zero, List.set_cons_succ]
                          refine takeT (i := 6) (v := ?_) rfl (by kernel_rfl) (fun _ _ _ h => h) (Or.inl ⟨rfl, ?_⟩) hS ?_
                          rotate_left
                          · (intro wS hSw; (try dsimp only at hSw); go_simp; try (with_reducible rfl))
                          simp only [Act.put, List.setIfInBounds_toArray, List.set_cons_zero, List.set_cons_succ]
                          refine takeT (i := 7) (v := undef) rfl (by kernel_rfl) (fun _ _ _ h => h) (Or.inr ⟨rfl, rfl⟩) hS ?_
                          simp only [Act.put, List.setIfInBounds_toArray, List.set_cons_zero, List.set_cons_succ]
                          refine takeT (i := 8) (v := undef) rfl (by kernel_rfl) (fun _ _ _ h => h) (Or.inr ⟨rfl, rfl⟩) hS ?_
                          simp only [Act.put, List.setIfInBounds_toArray, List.set_cons_zero, List.set_cons_succ]
                          refine takeT (i := 9) (v := undef) rfl (by kernel_rfl) (fun _ _ _ h => h) (Or.inr ⟨rfl, rfl⟩) hS ?_
                          simp only [Act.put, List.setIfInBounds_toArray, List.set_cons_zero, List.set_cons_succ]
                          refine takeT (i := 10) (v := undef) rfl (by kernel_rfl) (fun _ _ _ h => h) (Or.inr ⟨rfl, rfl⟩) hS ?_
                          simp only [Act.put, List.setIfInBounds_toArray, List.set_cons_zero, List.set_cons_succ]
                          refine takeT (i := 11) (v := undef) rfl (by kernel_rfl) (fun _ _ _ h => h) (Or.inr ⟨rfl, rfl⟩) hS ?_
                          simp only [Act.put, List.setIfInBounds_toArray, List.set_cons_zero, List.set_cons_succ]
                          refine takeT (i := 12) (v := undef) rfl (by kernel_rfl) (fun _ _ _ h => h) (Or.inr ⟨rfl, rfl⟩) hS ?_
                          simp only [Act.put, List.setIfInBounds_toArray, List.set_cons_zero, List.set_cons_succ]
                          refine takeT (i := 13) (v := undef) rfl (by kernel_rfl) (fun _ _ _ h => h) (Or.inr ⟨rfl, rfl⟩) hS ?_
                          simp only [Act.put, List.setIfInBounds_toArray, List.set_cons_zero, List.set_cons_succ]
                          refine takeT (i := 14) (v := undef) rfl (by kernel_rfl) (fun _ _ _ h => h) (Or.inr ⟨rfl, rfl⟩) hS ?_
                          simp only [Act.put, List.setIfInBounds_toArray, List.set_cons_zero, List.set_cons_succ]
                          refine takeT (i := 15) (v := undef) rfl (by kernel_rfl) (fun _ _ _ h => h) (Or.inr ⟨rfl, rfl⟩) hS ?_
                          simp only [Act.put, List.setIfInBounds_toArray, List.set_cons_zero, List.set_cons_succ]
                          refine takeT (i := 16) (v := undef) rfl (by kernel_rfl) (fun _ _ _ h => h) (Or.inr ⟨rfl, rfl⟩) hS ?_
                          simp only [Act.put, List.setIfInBounds_toArray, List.set_cons_zero, List.set_cons_succ]
                          refine takeT (i := 17) (v := undef) rfl (by kernel_rfl) (fun _ _ _ h => h) (Or.inr ⟨rfl, rfl⟩) hS ?_
                          simp only [Act.put, List.setIfInBounds_toArray, List.set_cons_zero, List.set_cons_succ]
                          refine takeT (i := 18) (v := undef) rfl (by kernel_rfl) (fun _ _ _ h => h) (Or.inr ⟨rfl, rfl⟩) hS ?_
                          simp only [Act.put, List.setIfInBounds_toArray, List.set_cons_zero, List.set_cons_succ]
                          refine takeT (i := 19) (v := undef) rfl (by kernel_rfl) (fun _ _ _ h => h) (Or.inr ⟨rfl, rfl⟩) hS ?_
                          simp only [Act.put, List.setIfInBounds_toArray, List.set_cons_zero, List.set_cons_succ]
                          refine takeT (i := 20) (v := undef) rfl (by kernel_rfl) (fun _ _ _ h => h) (Or.inr ⟨rfl, rfl⟩) hS ?_
                          simp only [Act.put, List.setIfInBounds_toArray, List.set_cons_zero, List.set_cons_succ]
                          refine takeT (i := 21) (v := undef) rfl (by kernel_rfl) (fun _ _ _ h => h) (Or.inr ⟨rfl, rfl⟩) hS ?_
                          simp only [Act.put, List.setIfInBounds_toArray, List.set_cons_zero, List.set_cons_succ]
                          refine takeT (i := 22) (v := undef) rfl (by kernel_rfl) (fun _ _ _ h => h) (Or.inr ⟨rfl, rfl⟩) hS ?_
                          simp only [Act.put, List.setIfInBounds_toArray, List.set_cons_zero, List.set_cons_succ]
                          refine takeT (i := 23) (v := ?_) rfl (by kernel_rfl) (fun _ _ _ h => h) (Or.inl ⟨rfl, ?_⟩) hS ?_
                          rotate_left
                          · (intro wS hSw; (try dsimp only at hSw); go_simp; try (with_reducible rfl))
                          simp only [Act.put, List.setIfInBounds_toArray, List.set_cons_zero, List.set_cons_succ]
                          refine takeT (i := 24) (v := ?_) rfl (by kernel_rfl) (fun _ _ _ h => h) (Or.inl ⟨rfl, ?_⟩) hS ?_
                          rotate_left
                          · (intro wS hSw; (try dsimp only at hSw); go_simp; try (with_reducible rfl))
                          simp only [Act.put, List.setIfInBounds_toArray, List.set_cons_zero, List.set_cons_succ]
                          refine oneT (i := 25) rfl (by kernel_rfl) (fun K hK => ?_)
                          go_simp
                          -- the last store of the region, in the world WW; the value V
                          refine hK _ _ (fun h => absurd h (by omega)) ?_
                          clear hK K hS
                          refine doneT (by kernel_rfl) ?_ _
                          go_wp2_with fail
                          go_roundg (gk - 1)
                          case measure => have := Hy.out; omega
                          case rel =>
                            have h1 := (hrow.drew).set y (.bool true)
                            rw [rowB_set] at h1
                            exact ⟨y + 1, _, by have := Hy.out; omega, by go_num, h1, Hst.out, (hbp.drew).setCell hgCl _⟩
                        | false =>
                          rw [hcy] at cy hst
                          rw [Bool.false_or] at hst
                          cases hcx : c x with
                          | false =>
                            rw [hcx] at cx hst
                            rw [Bool.false_and] at hst
                            have Hst := Lib.hid hst; clear hst hcy hcx x0 x1 x2 y0 y1 y2
                            go_wp2_with fail
                            refine regionT (fun w' => w'.cell? ⟨gC, y, none⟩ = some (.bool false) ∧ w'.cell? ⟨gC, x, none⟩ = some (.bool false)) 25 (by kernel_rfl) ?_
                            have hS : wr.drew.cell? ⟨gC, y, none⟩ = some (.bool false) ∧ wr.drew.cell? ⟨gC, x, none⟩ = some (.bool false) := ⟨cy, cx⟩
                            refine takeT (i := 0) (v := ?_) rfl (by kernel_rfl) (fun _ _ _ h => h) (Or.inl ⟨rfl, ?_⟩) hS ?_
                            rotate_left
                            · (intro wS hSw; (try dsimp only at hSw); go_simp; try (with_reducible rfl))
                            simp only [Act.put, List.setIfInBounds_toArray, List.set_cons_zero, List.set_cons_succ]
                            refine takeT (i := 1) (v := ?_) rfl (by kernel_rfl) (fun _ _ _ h => h) (Or.inl ⟨rfl, ?_⟩) hS ?_
                            rotate_left
                            · (intro wS hSw; (try dsimp only at hSw); go_simp; try (with_reducible rfl))
                            simp only [Act.put, List.setIfInBounds_toArray, List.set_cons_zero, List.set_cons_succ]
                            refine takeT (i := 2) (v := ?_) rfl (by kernel_rfl) (fun _ _ _ h => h) (Or.inl ⟨rfl, ?_⟩) hS ?_
                            rotate_left
                            · (intro wS hSw; (try dsimp only at hSw); go_simp; try (with_reducible rfl))
                            simp only [Act.put, List.setIfInBounds_toArray, List.set_cons_zero, List.set_cons_succ]
                            refine takeT (i := 3) (v := ?_) rfl (by kernel_rfl) (fun _ _ _ h => h) (Or.inl ⟨rfl, ?_⟩) hS ?_
                            rotate_left
                            · (intro wS hSw; (try dsimp only at hSw); go_simp; try (with_reducible rfl))
                            simp only [Act.put, List.setIfInBounds_toArray, List.set_cons_zero, List.set_cons_succ]
                            refine takeT (i := 4) (v := ?_) rfl (by kernel_rfl) (fun _ _ _ h => h) (Or.inl ⟨rfl, ?_⟩) hS ?_
                            rotate_left
                            · (intro wS hSw; (try dsimp only at hSw); go_simp; try (with_reducible rfl))
                            simp only [Act.put, List.setIfInBounds_toArray, List.set_cons_zero, List.set_cons_succ]
                            refine takeT (i := 5) (v := ?_) rfl (by kernel_rfl) (fun _ _ _ h => h) (Or.inl ⟨rfl, ?_⟩) hS ?_
                            rotate_left
                            · (intro wS hSw; (try dsimp only at hSw); go_simp; try (with_reducible rfl))
                            simp only [Act.put, List.setIfInBounds_toArray, List.set_cons_zero, List.set_cons_succ]
                            refine takeT (i := 6) (v := ?_) rfl (by kernel_rfl) (fun _ _ _ h => h) (Or.inl ⟨rfl, ?_⟩) hS ?_
                            rotate_left
                            · (intro wS hSw; (try dsimp only at hSw); go_simp; try (with_reducible rfl))
                            simp only [Act.put, List.setIfInBounds_toArray, List.set_cons_zero, List.set_cons_succ]
                            refine takeT (i := 7) (v := ?_) rfl (by kernel_rfl) (fun _ _ _ h => h) (Or.inl ⟨rfl, ?_⟩) hS ?_
                            rotate_left
                            · (intro wS hSw; (try dsimp only at hSw); go_simp; try (with_reducible rfl))
                            simp only [Act.put, List.setIfInBounds_toArray, List.set_cons_zero, List.set_cons_succ]
                            refine takeT (i := 8) (v := ?_) rfl (by kernel_rfl) (fun _ _ _ h => h) (Or.inl ⟨rfl, ?_⟩) hS ?_
                            rotate_left
                            · (intro wS hSw; (try dsimp only at hSw); go_simp; try (with_reducible rfl))
                            simp only [Act.put, List.setIfInBounds_toArray, List.set_cons_zero, List.set_cons_succ]
                            refine takeT (i := 9) (v := ?_) rfl (by kernel_rfl) (fun _ _ _ h => h) (Or.inl ⟨rfl, ?_⟩) hS ?_
                            rotate_left
                            · (intro wS hSw; (try dsimp only at hSw); go_simp; try (with_reducible rfl))
                            simp only [Act.put, List.setIfInBounds_toArray, List.set_cons_zero, List.set_cons_succ]
                            refine takeT (i := 10) (v := ?_) rfl (by kernel_rfl) (fun _ _ _ h => h) (Or.inl ⟨rfl, ?_⟩) hS ?_
                            rotate_left
                            · (intro wS hSw; (try dsimp only at hSw); go_simp; try (with_reducible rfl))
                            simp only [Act.put, List.setIfInBounds_toArray, List.set_cons_zero, List.set_cons_succ]
                            refine takeT (i := 11) (v := ?_) rfl (by kernel_rfl) (fun _ _ _ h => h) (Or.inl ⟨rfl, ?_⟩) hS ?_
                            rotate_left
                            · (intro wS hSw; (try dsimp only at hSw); go_simp; try (with_reducible rfl))
                            simp only [Act.put, List.setIfInBounds_toArray, List.set_cons_zero, List.set_cons_succ]
                            refine takeT (i := 12) (v := undef) rfl (by kernel_rfl) (fun _ _ _ h => h) (Or.inr ⟨rfl, rfl⟩) hS ?_
                            simp only [Act.put, List.setIfInBounds_toArray, List.set_cons_zero, List.set_cons_succ]
                            refine takeT (i := 13) (v := undef) rfl (by kernel_rfl) (fun _ _ _ h => h) (Or.inr ⟨rfl, rfl⟩) hS ?_
                            simp only [Act.put, List.setIfInBounds_toArray, List.set_cons_zero, List.set_cons_succ]
                            refine takeT (i := 14) (v := undef) rfl (by kernel_rfl) (fun _ _ _ h => h) (Or.inr ⟨rfl, rfl⟩) hS ?_
                            simp only [Act.put, List.setIfInBounds_toArray, List.set_cons_zero, List.set_cons_succ]
                            refine takeT (i := 15) (v := undef) rfl (by kernel_rfl) (fun _ _ _ h => h) (Or.inr ⟨rfl, rfl⟩) hS ?_
                            simp only [Act.put, List.setIfInBounds_toArray, List.set_cons_zero, List.set_cons_succ]
                            refine takeT (i := 16) (v := undef) rfl (by kernel_rfl) (fun _ _ _ h => h) (Or.inr ⟨rfl, rfl⟩) hS ?_
                            simp only [Act.put, List.setIfInBounds_toArray, List.set_cons_zero, List.set_cons_succ]
                            refine takeT (i := 17) (v := undef) rfl (by kernel_rfl) (fun _ _ _ h => h) (Or.inr ⟨rfl, rfl⟩) hS ?_
                            simp only [Act.put, List.setIfInBounds_toArray, List.set_cons_zero, List.set_cons_succ]
                            refine takeT (i := 18) (v := undef) rfl (by kernel_rfl) (fun _ _ _ h => h) (Or.inr ⟨rfl, rfl⟩) hS ?_
                            simp only [Act.put, List.setIfInBounds_toArray, List.set_cons_zero, List.set_cons_succ]
                            refine takeT (i := 19) (v := undef) rfl (by kernel_rfl) (fun _ _ _ h => h) (Or.inr ⟨rfl, rfl⟩) hS ?_
                            simp only [Act.put, List.setIfInBounds_toArray, List.set_cons_zero, List.set_cons_succ]
                            refine takeT (i := 20) (v := undef) rfl (by kernel_rfl) (fun _ _ _ h => h) (Or.inr ⟨rfl, rfl⟩) hS ?_
                            simp only [Act.put, List.setIfInBounds_toArray, List.set_cons_zero, List.set_cons_succ]
                            refine takeT (i := 21) (v := undef) rfl (by kernel_rfl) (fun _ _ _ h => h) (Or.inr ⟨rfl, rfl⟩) hS ?_
                            simp only [Act.put, List.setIfInBounds_toArray, List.set_cons_zero, List.set_cons_succ]
                            refine takeT (i := 22) (v := ?_) rfl (by kernel_rfl) (fun _ _ _ h => h) (Or.inl ⟨rfl, ?_⟩) hS ?_
                            rotate_left
                            · (intro wS hSw; (try dsimp only at hSw); go_simp; try (with_reducible rfl))
                            simp only [Act.put, List.setIfInBounds_toArray, List.set_cons_zero, List.set_cons_succ]
                            refine takeT (i := 23) (v := ?_) rfl (by kernel_rfl) (fun _ _ _ h => h) (Or.inl ⟨rfl, ?_⟩) hS ?_
                            rotate_left
                            · (intro wS hSw; (try dsimp only at hSw); go_simp; try (with_reducible rfl))
                            simp only [Act.put, List.setIfInBounds_toArray, List.set_cons_zero, List.set_cons_succ]
                            refine takeT (i := 24) (v := ?_) rfl (by kernel_rfl) (fun _ _ _ h => h) (Or.inl ⟨rfl, ?_⟩) hS ?_
                            rotate_left
                            · (intro wS hSw; (try dsimp only at hSw); go_simp; try (with_reducible rfl))
                            simp only [Act.put, List.setIfInBounds_toArray, List.set_cons_zero, List.set_cons_succ]
                            refine oneT (i := 25) rfl (by kernel_rfl) (fun K hK => ?_)
                            go_simp
                            -- the last store of the region, in the world WW; the value V
                            refine hK _ _ (fun h => absurd h (by omega)) ?_
                            clear hK K hS
                            refine doneT (by kernel_rfl) ?_ _
                            go_wp2_with fail
                            go_roundg (gk - 1)
                            case measure => have := Hy.out; omega
                            case rel =>
                              have h1 := (hrow.drew).set y (.bool false)
                              rw [rowB_set] at h1
                              exact ⟨y + 1, _, by have := Hy.out; omega, by go_num, h1, Hst.out, (hbp.drew).setCell hgCl _⟩
                          | true =>
                            rw [hcx] at cx hst
                            rw [Bool.true_and] at hst
                            obtain ⟨tv, htv⟩ : ∃ tv, tv = touchB zs (e1, e2, e3) (f1, f2, f3) := ⟨_, rfl⟩
                            rw [← htv] at hst
                            have hWy := hWG.below hbWY
                            have Hst := Lib.hid hst; have Htv := Lib.hid htv; clear hst hcy hcx htv
                            go_wp2_with fail
                            refine regionT (fun w' => w'.cell? ⟨gC, y, none⟩ = some (.bool false) ∧ w'.cell? ⟨gC, x, none⟩ = some (.bool true) ∧ w'.cell? ⟨b1, o1 + x * 3, none⟩ = some (.int .i64 e1) ∧ w'.cell? ⟨b1, o1 + x * 3 + 1, none⟩ = some (.int .i64 e2) ∧ w'.cell? ⟨b1, o1 + x * 3 + 2, none⟩ = some (.int .i64 e3) ∧
                              w'.cell? ⟨b1, o1 + y * 3, none⟩ = some (.int .i64 f1) ∧ w'.cell? ⟨b1, o1 + y * 3 + 1, none⟩ = some (.int .i64 f2) ∧ w'.cell? ⟨b1, o1 + y * 3 + 2, none⟩ = some (.int .i64 f3)) 25 (by kernel_rfl) ?_
                            have hS : (fun w' : World => w'.cell? ⟨gC, y, none⟩ = some (.bool false) ∧ w'.cell? ⟨gC, x, none⟩ = some (.bool true) ∧ w'.cell? ⟨b1, o1 + x * 3, none⟩ = some (.int .i64 e1) ∧ w'.cell? ⟨b1, o1 + x * 3 + 1, none⟩ = some (.int .i64 e2) ∧ w'.cell? ⟨b1, o1 + x * 3 + 2, none⟩ = some (.int .i64 e3) ∧
                              w'.cell? ⟨b1, o1 + y * 3, none⟩ = some (.int .i64 f1) ∧ w'.cell? ⟨b1, o1 + y * 3 + 1, none⟩ = some (.int .i64 f2) ∧ w'.cell? ⟨b1, o1 + y * 3 + 2, none⟩ = some (.int .i64 f3)) wr.drew := ⟨cy, cx, x0, x1, x2, y0, y1, y2⟩
                            replace hS := hS
                            refine takeT (i := 0) (v := ?_) rfl (by kernel_rfl) (fun _ _ _ h => h) (Or.inl ⟨rfl, ?_⟩) hS ?_
                            rotate_left
                            · (intro wS hSw; (try dsimp only at hSw); go_simp; try (with_reducible rfl))
                            simp only [Act.put, List.setIfInBounds_toArray, List.set_cons_zero, List.set_cons_succ]
                            refine takeT (i := 1) (v := ?_) rfl (by kernel_rfl) (fun _ _ _ h => h) (Or.inl ⟨rfl, ?_⟩) hS ?_
                            rotate_left
                            · (intro wS hSw; (try dsimp only at hSw); go_simp; try (with_reducible rfl))
                            simp only [Act.put, List.setIfInBounds_toArray, List.set_cons_zero, List.set_cons_succ]
                            refine takeT (i := 2) (v := ?_) rfl (by kernel_rfl) (fun _ _ _ h => h) (Or.inl ⟨rfl, ?_⟩) hS ?_
                            rotate_left
                            · (intro wS hSw; (try dsimp only at hSw); go_simp; try (with_reducible rfl))
                            simp only [Act.put, List.setIfInBounds_toArray, List.set_cons_zero, List.set_cons_succ]
                            refine takeT (i := 3) (v := ?_) rfl (by kernel_rfl) (fun _ _ _ h => h) (Or.inl ⟨rfl, ?_⟩) hS ?_
                            rotate_left
                            · (intro wS hSw; (try dsimp only at hSw); go_simp; try (with_reducible rfl))
                            simp only [Act.put, List.setIfInBounds_toArray, List.set_cons_zero, List.set_cons_succ]
                            refine takeT (i := 4) (v := ?_) rfl (by kernel_rfl) (fun _ _ _ h => h) (Or.inl ⟨rfl, ?_⟩) hS ?_
                            rotate_left
                            · (intro wS hSw; (try dsimp only at hSw); go_simp; try (with_reducible rfl))
                            simp only [Act.put, List.setIfInBounds_toArray, List.set_cons_zero, List.set_cons_succ]
                            refine takeT (i := 5) (v := ?_) rfl (by kernel_rfl) (fun _ _ _ h => h) (Or.inl ⟨rfl, ?_⟩) hS ?_
                            rotate_left
                            · (intro wS hSw; (try dsimp only at hSw); go_simp; try (with_reducible rfl))
                            simp only [Act.put, List.setIfInBounds_toArray, List.set_cons_zero, List.set_cons_succ]
                            refine takeT (i := 6) (v := ?_) rfl (by kernel_rfl) (fun _ _ _ h => h) (Or.inl ⟨rfl, ?_⟩) hS ?_
                            rotate_left
                            · (intro wS hSw; (try dsimp only at hSw); go_simp; try (with_reducible rfl))
                            simp only [Act.put, List.setIfInBounds_toArray, List.set_cons_zero, List.set_cons_succ]
                            refine takeT (i := 7) (v := ?_) rfl (by kernel_rfl) (fun _ _ _ h => h) (Or.inl ⟨rfl, ?_⟩) hS ?_
                            rotate_left
                            · (intro wS hSw; (try dsimp only at hSw); go_simp; try (with_reducible rfl))
                            simp only [Act.put, List.setIfInBounds_toArray, List.set_cons_zero, List.set_cons_succ]
                            refine takeT (i := 8) (v := ?_) rfl (by kernel_rfl) (fun _ _ _ h => h) (Or.inl ⟨rfl, ?_⟩) hS ?_
                            rotate_left
                            · (intro wS hSw; (try dsimp only at hSw); go_simp; try (with_reducible rfl))
                            simp only [Act.put, List.setIfInBounds_toArray, List.set_cons_zero, List.set_cons_succ]
                            refine takeT (i := 9) (v := ?_) rfl (by kernel_rfl) (fun _ _ _ h => h) (Or.inl ⟨rfl, ?_⟩) hS ?_
                            rotate_left
                            · (intro wS hSw; (try dsimp only at hSw); go_simp; try (with_reducible rfl))
                            simp only [Act.put, List.setIfInBounds_toArray, List.set_cons_zero, List.set_cons_succ]
                            refine takeT (i := 10) (v := ?_) rfl (by kernel_rfl) (fun _ _ _ h => h) (Or.inl ⟨rfl, ?_⟩) hS ?_
                            rotate_left
                            · (intro wS hSw; (try dsimp only at hSw); go_simp; try (with_reducible rfl))
                            simp only [Act.put, List.setIfInBounds_toArray, List.set_cons_zero, List.set_cons_succ]
                            refine takeT (i := 11) (v := ?_) rfl (by kernel_rfl) (fun _ _ _ h => h) (Or.inl ⟨rfl, ?_⟩) hS ?_
                            rotate_left
                            · (intro wS hSw; (try dsimp only at hSw); go_simp; try (with_reducible rfl))
                            simp only [Act.put, List.setIfInBounds_toArray, List.set_cons_zero, List.set_cons_succ]
                            refine takeT (i := 12) (v := ?_) rfl (by kernel_rfl) (fun _ _ _ h => h) (Or.inl ⟨rfl, ?_⟩) hS ?_
                            rotate_left
                            · (intro wS hSw; (try dsimp only at hSw); go_simp; try (with_reducible rfl))
                            simp only [Act.put, List.setIfInBounds_toArray, List.set_cons_zero, List.set_cons_succ]
                            refine takeT (i := 13) (v := ?_) rfl (by kernel_rfl) (fun _ _ _ h => h) (Or.inl ⟨rfl, ?_⟩) hS ?_
                            rotate_left
                            · (intro wS hSw; (try dsimp only at hSw); go_simp; try (with_reducible rfl))
                            simp only [Act.put, List.setIfInBounds_toArray, List.set_cons_zero, List.set_cons_succ]
                            refine takeT (i := 14) (v := ?_) rfl (by kernel_rfl) (fun _ _ _ h => h) (Or.inl ⟨rfl, ?_⟩) hS ?_
                            rotate_left
                            · (intro wS hSw; (try dsimp only at hSw); go_simp; try (with_reducible rfl))
                            simp only [Act.put, List.setIfInBounds_toArray, List.set_cons_zero, List.set_cons_succ]
                            refine takeT (i := 15) (v := ?_) rfl (by kernel_rfl) (fun _ _ _ h => h) (Or.inl ⟨rfl, ?_⟩) hS ?_
                            rotate_left
                            · (intro wS hSw; (try dsimp only at hSw); go_simp; try (with_reducible rfl))
                            simp only [Act.put, List.setIfInBounds_toArray, List.set_cons_zero, List.set_cons_succ]
                            refine takeT (i := 16) (v := ?_) rfl (by kernel_rfl) (fun _ _ _ h => h) (Or.inl ⟨rfl, ?_⟩) hS ?_
                            rotate_left
                            · (intro wS hSw; (try dsimp only at hSw); go_simp; try (with_reducible rfl))
                            simp only [Act.put, List.setIfInBounds_toArray, List.set_cons_zero, List.set_cons_succ]
                            refine takeT (i := 17) (v := ?_) rfl (by kernel_rfl) (fun _ _ _ h => h) (Or.inl ⟨rfl, ?_⟩) hS ?_
                            rotate_left
                            · (intro wS hSw; (try dsimp only at hSw); go_simp; try (with_reducible rfl))
                            simp only [Act.put, List.setIfInBounds_toArray, List.set_cons_zero, List.set_cons_succ]
                            refine takeT (i := 18) (v := ?_) rfl (by kernel_rfl) (fun _ _ _ h => h) (Or.inl ⟨rfl, ?_⟩) hS ?_
                            rotate_left
                            · (intro wS hSw; (try dsimp only at hSw); go_simp; try (with_reducible rfl))
                            simp only [Act.put, List.setIfInBounds_toArray, List.set_cons_zero, List.set_cons_succ]
                            refine takeT (i := 19) (v := ?_) rfl (by kernel_rfl) (fun _ _ _ h => h) (Or.inl ⟨rfl, ?_⟩) hS ?_
                            rotate_left
                            · (intro wS hSw; (try dsimp only at hSw); go_simp; try (with_reducible rfl))
                            simp only [Act.put, List.setIfInBounds_toArray, List.set_cons_zero, List.set_cons_succ]
                            refine takeT (i := 20) (v := ?_) rfl (by kernel_rfl) (fun _ _ _ h => h) (Or.inl ⟨rfl, ?_⟩) hS ?_
                            rotate_left
                            · (intro wS hSw; (try dsimp only at hSw); go_simp; try (with_reducible rfl))
                            simp only [Act.put, List.setIfInBounds_toArray, List.set_cons_zero, List.set_cons_succ]
                            refine oneT (i := 21) rfl (by kernel_rfl) (fun K hK => ?_)
                            go_simp
                            go_at_call 27
                            refine (touch_law12_walkN zs.length e1 e2 e3 f1 f2 f3 aw _ zs _ ?_ rfl h10).mono ?_
                            exact hWy
                            rw [← Htv.out]
                            rintro e w7 ⟨rfl, hb7⟩
                            go_simp
                            have hb7' : Below wr.heap.size wr w7 := bl_trans ((bl_refl wr).drew) hb7
                            refine hK _ _ (fun _ => ⟨keep_cell hb7' cy, keep_cell hb7' cx, keep_cell hb7' x0, keep_cell hb7' x1, keep_cell hb7' x2, keep_cell hb7' y0, keep_cell hb7' y1, keep_cell hb7' y2⟩) ?_
                            have hrow7 := hrow.below hb7' hgl2
                            have fy7 := hrow7.frozen y
                            have hgl7 := hrow7.lt
                            have cy7 := keep_cell hb7' cy
                            have hbp7 := bl_trans hbp hb7'
                            clear hK K hS
                            have hS : w7.cell? ⟨gC, y, none⟩ = some (.bool false) ∧ w7.cell? ⟨gC, x, none⟩ = some (.bool true) ∧ w7.cell? ⟨b1, o1 + x * 3, none⟩ = some (.int .i64 e1) ∧ w7.cell? ⟨b1, o1 + x * 3 + 1, none⟩ = some (.int .i64 e2) ∧ w7.cell? ⟨b1, o1 + x * 3 + 2, none⟩ = some (.int .i64 e3) ∧
                              w7.cell? ⟨b1, o1 + y * 3, none⟩ = some (.int .i64 f1) ∧ w7.cell? ⟨b1, o1 + y * 3 + 1, none⟩ = some (.int .i64 f2) ∧ w7.cell? ⟨b1, o1 + y * 3 + 2, none⟩ = some (.int .i64 f3) := ⟨keep_cell hb7' cy, keep_cell hb7' cx, keep_cell hb7' x0, keep_cell hb7' x1, keep_cell hb7' x2, keep_cell hb7' y0, keep_cell hb7' y1, keep_cell hb7' y2⟩
                            refine takeT (i := 22) (v := ?_) rfl (by kernel_rfl) (fun _ _ _ h => h) (Or.inl ⟨rfl, ?_⟩) hS ?_
                            rotate_left
                            · (intro wS hSw; (try dsimp only at hSw); go_simp; try (with_reducible rfl))
                            simp only [Act.put, List.setIfInBounds_toArray, List.set_cons_zero, List.set_cons_succ]
                            refine takeT (i := 23) (v := ?_) rfl (by kernel_rfl) (fun _ _ _ h => h) (Or.inl ⟨rfl, ?_⟩) hS ?_
                            rotate_left
                            · (intro wS hSw; (try dsimp only at hSw); go_simp; try (with_reducible rfl))
                            simp only [Act.put, List.setIfInBounds_toArray, List.set_cons_zero, List.set_cons_succ]
                            refine takeT (i := 24) (v := ?_) rfl (by kernel_rfl) (fun _ _ _ h => h) (Or.inl ⟨rfl, ?_⟩) hS ?_
                            rotate_left
                            · (intro wS hSw; (try dsimp only at hSw); go_simp; try (with_reducible rfl))
                            simp only [Act.put, List.setIfInBounds_toArray, List.set_cons_zero, List.set_cons_succ]
                            refine oneT (i := 25) rfl (by kernel_rfl) (fun K hK => ?_)
                            go_simp
                            -- the last store of the region, in the world WW; the value V
                            refine hK _ _ (fun h => absurd h (by omega)) ?_
                            clear hK K hS
                            refine doneT (by kernel_rfl) ?_ _
                            go_wp2_with fail
                            go_roundg (gk - 1)
                            case measure => have := Hy.out; omega
                            case rel =>
                              have h1 := (hrow7).set y (.bool tv)
                              rw [rowB_set] at h1
                              exact ⟨y + 1, _, by have := Hy.out; omega, by go_num, h1, Hst.out, (hbp7).setCell hgCl _⟩
                      · have hyn : y = R.length := by omega
                        subst hyn
                        have hr2 := hpass.row
                        have Hr2 := Lib.hid hr2
                        clear hy hpass hr2
                        go_wp2_with fail
                        go_roundg (gX - 1)
                        case measure => have := Hx.out; omega
                        case rel => exact ⟨x + 1, c, by have := Hx.out; omega, by go_num, hrow, Hr2.out, hbp⟩
                  · have hxn : x = R.length := by omega
                    subst hxn
                    have hcm3 := Hcome.out.pass Hpass.out
                    have Hcm3 := Lib.hid hcm3
                    clear hx hcm3
                    go_wp2_with fail
                    go_roundg (gP - 1)
                    case measure => have := Hp.out; omega
                    case rel => exact ⟨p + 1, c, by have := Hp.out; omega, by go_num, hrow, Hcm3.out, hbp⟩
              · have hpn : p = R.length := by omega
                subst hpn
                have hall := ComeOk.all HR.out HG.out Hcome.out
                have Hall := Lib.hid hall
                clear hp hall
                obtain ⟨wE, rfl⟩ : ∃ wo : World, wo = wr := ⟨_, rfl⟩
                go_wp2_with fail
                go_loopg [155] R.length (fun r jv wj => ∃ j : Nat, j + r = R.length ∧ jv = .int .i64 j ∧ wE = wj)
                case atStart => exact ⟨0, by omega, rfl, rfl⟩
                case round =>
                  obtain ⟨j, hj, rfl, rfl⟩ := hrel
                  have Hj := Lib.hid hj
                  by_cases hjl : j < R.length
                  · have cj := hrow.atB hjl
                    rw [Hall.out j hjl] at cj
                    clear hj
                    go_wp2_with fail
                    go_roundg (gk - 1)
                    case measure => have := Hj.out; omega
                    case rel => exact ⟨j + 1, by have := Hj.out; omega, by go_num, rfl⟩
                  · have hjn : j = R.length := by omega
                    subst hjn
                    clear hj
                    go_wp2_with fail
                    go_roundg (gO - 1)
                    case measure => have := Hi.out; omega
                    case rel => exact ⟨i + 1, _, rfl, by have := Hi.out; omega, by go_num, Own.ext Hown5.out hbp, fun g hg => by cases hg; exact hg6, bl_trans hb5 hbp⟩
      · have hin : i = gl.length := by omega
        subst hin
        have hso : sortL fl = ls := by
          rw [Hfl.out, List.take_length, HgE.out]
          have h1 := sortL_congr ((grp_perm (wo := zs) HR.out).map swapL)
          rw [h1, sortL_right HR.out]
        obtain ⟨av, cv, rfl, hrd, _, _, _⟩ := OwnL.read Hu.out
        have Hso := Lib.hid hso
        have hB9 := bl_trans hBG hb
        clear hi hso
        go_wp2_with fail
        refine (sorted_walk av cv fl _ hrd (by omega)).mono ?_
        rintro e w2 ⟨v2, rfl, ho2, _, hb2⟩
        rw [Hso.out] at ho2
        obtain ⟨a2, c2, rfl, hr2, _, _, _⟩ := ho2.read
        have hB10 := bl_trans hB9 hb2
        clear ho2 hb2 hB9
        go_wp2_with fail
        refine (same_walk a2 a c2 cap ls ls _ hr2 (hr.below hB10) hcap hcap).mono ?_
        rintro e w3 hq
        obtain ⟨rfl, hb3⟩ := hq.below
        have hB11 := bl_trans hB10 hb3
        have e2 : decide (ls = ls) = true := by simp
        rw [e2]
        clear hq hb3 hB10 e2
        go_wp2_with fail
        refine (awake_walk _).mono ?_
        rintro e w4 ⟨rfl, hb4⟩
        go_wp2_with fail
        go_ret
        exact ⟨rfl, bl_trans hB11 hb4⟩
  · have m1 : min (zs.length : Int) 10 = 10 := by omega
    have hW := hz.take 10
    have hWf : ∀ z ∈ zs.take 10, WfZ z := fun z h => hzw z (List.mem_of_mem_take h)
    have hWk : (zs.take 10).length = 10 := by rw [List.length_take]; omega
    have hc10 : 10 ≤ capw := by omega
    have HWf := Lib.hid hWf; have HWk := Lib.hid hWk; clear hWf hzw hWk
    have h10 : 10 ≤ 10 := Nat.le_refl _
    obtain ⟨WL, hWL⟩ : ∃ WL, WL = zs.take 10 := ⟨_, rfl⟩
    rw [← hWL] at hW HWf HWk
    clear hWL
    go_enter Try.func5, Try.ntmps5
    go_wp2_with fail
    -- behind the cut; W: what is left out, as a list of K
    refine (lright_walk a cap ls _ hr hcap).mono ?_
    rw [Hrt.out]
    rintro e w1 ⟨rfl, hb1⟩
    go_wp2_with fail
    refine (groups_walkN 10 a cap ls aw _ WL _ (hr.below hb1) hcap (hW.below hb1) HWk.out h10 HWf.out).mono ?_
    rintro e wG ⟨vG, valsG, rfl, hLG, hbG⟩
    have hBG := bl_trans hb1 hbG
    have hWG := hW.below hBG
    obtain ⟨aG, cG, rfl, hrG, hgc, _⟩ := hLG.read
    obtain ⟨gl, hgE⟩ : ∃ gl, gl = groupsL ls WL := ⟨_, rfl⟩
    have hgl : gl.length ≤ 1000 := by rw [hgE]; exact groups_len_le _ _
    rw [← hgE] at hrG hgc ⊢
    have HgE := Lib.hid hgE
    clear hgE hLG hbG hb1
    go_wp2_with fail
    go_loopg [7, 59] gl.length (fun r vo iv wj => ∃ (i : Nat) (u : Value), u = vo ∧ i + r = gl.length ∧ iv = .int .i64 i ∧ OwnL wj u (gl.take i).flatten ∧ (∀ g, u.ownBlock = some g → wG.heap.size ≤ g) ∧ Below wG.heap.size wG wj)
    case atStart => exact ⟨0, _, rfl, by omega, rfl, own_nil _ _ _, fun g hg => by simp [Value.ownBlock] at hg, bl_refl _⟩
    case round =>
      obtain ⟨i, u, rfl, hi, rfl, hu, hub, hb⟩ := hrel
      have Hub := Lib.hid hub; have Hi := Lib.hid hi
      obtain ⟨fl, hfl⟩ : ∃ fl, fl = (gl.take i).flatten := ⟨_, rfl⟩
      have hfll : fl.length ≤ 60 := by rw [hfl, HgE.out]; exact Nat.le_trans (flat_take_len HR.out i) h60'
      rw [← hfl] at hu
      have Hu := Lib.hid hu; have Hfl := Lib.hid hfl
      clear hu hub hfl
      by_cases hil : i < gl.length
      · clear hi
        obtain ⟨gO, rfl⟩ : ∃ n : Nat, n = gk := ⟨_, rfl⟩
        obtain ⟨R, hR0⟩ : ∃ R, gl[i] = R := ⟨_, rfl⟩
        have hRi : gl[i]? = some R := by rw [List.getElem?_eq_getElem hil, hR0]
        have hnx : (gl.take (i + 1)).flatten = fl ++ R := by rw [flat_take_succ gl i hil, ← Hfl.out, hR0]
        obtain ⟨bo, oo, au, cu, rfl, p0G, hrR, hRc, hcm⟩ := hrG i R hRi
        have p0 := keep_cell hb p0G
        obtain ⟨i0, hf0, G⟩ := grp_at Hrt.out (wo := WL) (by rw [← HgE.out]; exact hRi)
        have hRR : rightL R = true := (rightL_iff R).2 (right_sub HR.out G.sub)
        have hR0l : 0 < R.length := List.length_pos_of_mem G.self
        have hRl : R.length ≤ 60 := Nat.le_trans G.sub.length_le h60'
        have q0 : ((R.length : Int) == 0) = false := by simp only [beq_eq_false_iff_ne, ne_eq]; omega
        have q0' : (R.length == 0) = false := by simp only [beq_eq_false_iff_ne, ne_eq]; omega
        obtain ⟨b1, o1, rfl, _⟩ := hrR.at 0 hR0l
        have HG := Lib.hid G; have HRR := Lib.hid hRR; have Hf0 := Lib.hid hf0; have Hnx := Lib.hid hnx; have HRi := Lib.hid hRi
        clear G hRR hf0 hnx hRi hR0
        go_wp2_with fail
        refine (lright_walk (some ⟨b1, o1, none⟩) cu R _ (hrR.below hb) (by omega)).mono ?_
        rw [HRR.out]
        rintro e w2 ⟨rfl, hb2⟩
        have hb2' := bl_trans hb hb2
        have hrR2 := hrR.below hb2'
        have hown : Own w2 u 29 3 fl.length (lkCells fl) := Own.ext Hu.out hb2
        have hnews : ∀ (j : Nat) v, (lkCells R)[j]? = some v → w2.cell? ((⟨b1, o1, none⟩ : Addr).add j) = some v := fun j v hj => by
          obtain ⟨b', o', e1, e2⟩ := hrR2 j v hj
          cases e1
          rw [addr_add]; exact e2
        have Hone := Lib.hid (lkCells_one R); have Hnews := Lib.hid hnews; have Hlen := Lib.hid (lkCells_length R)
        clear hnews hb2 p0
        go_wp2_with (at_builtin; refine wpList_append_row _ rfl (.tmp 72) (.tmp 73) 22 rfl 29 (.agg #[.int .i64 0, .int .i64 0, .int .i64 0]) 3 24 Try.underlying22 link_info rfl u fl.length _ rfl hown ⟨b1, o1, none⟩ R.length cu (lkCells R) rfl Hlen.out Hnews.out Hone.out (by omega) (by unfold maxLen; omega) (by omega) ?_)
        intro g5 c5 w5 hr5 hc5 hg5 hor5
        have hb5 : Below wG.heap.size wG w5 := hb2'.grown hg5 hb2'.size (fun j hj => Hub.out j hj)
        have hg6 : wG.heap.size ≤ g5 := by
          rcases hor5 with h | h
          · exact Hub.out g5 h
          · have := hb2'.size; omega
        have hown5 : OwnL w5 (.slice (some ⟨g5, 0, none⟩) (fl.length + R.length) c5) (gl.take (i + 1)).flatten := by
          rw [Hnx.out]
          have h1 : Row w5 g5 29 3 c5 (lkCells (fl ++ R)) := by rw [lkCells_append]; exact hr5
          have := h1.own (n := fl.length + R.length) (by rw [lkCells_length]; simp) hc5
          unfold OwnL
          rw [List.length_append]
          exact this
        have Hown5 := Lib.hid hown5
        clear hr5 hg5 hor5 hown hown5 hb2' hrR2 hb Hnews Hone Hlen Hu Hub
        go_wp2_with fail
        go_loopg [77] gl.length (fun r kv wj => ∃ k : Nat, k + r = gl.length ∧ kv = .int .i64 k ∧ Below w5.heap.size w5 wj)
        case atStart => exact ⟨0, by omega, rfl, bl_refl _⟩
        case round =>
          obtain ⟨k, hk, rfl, hbk⟩ := hrel
          have Hk := Lib.hid hk
          by_cases hkl : k < gl.length
          · clear hk
            obtain ⟨gK, rfl⟩ : ∃ n : Nat, n = gk := ⟨_, rfl⟩
            obtain ⟨S, hS0⟩ : ∃ S, gl[k] = S := ⟨_, rfl⟩
            have hSk : gl[k]? = some S := by rw [List.getElem?_eq_getElem hkl, hS0]
            obtain ⟨bo', oo', au2, cu2, eG, p1G, hrS, hSc, hcm2⟩ := hrG k S hSk
            cases eG
            have p1 := keep_cell (bl_trans hb5 hbk) p1G
            have hSl : S.length ≤ 60 := by
              obtain ⟨i1, _, G1⟩ := grp_at Hrt.out (wo := WL) (by rw [← HgE.out]; exact hSk)
              exact Nat.le_trans G1.sub.length_le h60'
            have HSk := Lib.hid hSk
            obtain ⟨wK, rfl⟩ : ∃ wo : World, wo = wr := ⟨_, rfl⟩
            have hbWK := bl_trans hb5 hbk
            clear hSk hS0
            go_wp2_with fail
            go_loopg [84] R.length (fun r mv wj => ∃ m : Nat, m + r = R.length ∧ mv = .int .i64 m ∧ Below wK.heap.size wK wj)
            case atStart => exact ⟨0, by omega, rfl, bl_refl _⟩
            case round =>
              obtain ⟨m, hm, rfl, hbm⟩ := hrel
              have Hm := Lib.hid hm
              by_cases hml : m < R.length
              · clear hm
                obtain ⟨gM, rfl⟩ : ∃ n : Nat, n = gk := ⟨_, rfl⟩
                have hbWM := bl_trans hbWK hbm
                obtain ⟨bx, ox, ex, x0, x1, x2⟩ := (hrR.below hbWM).at m hml
                cases ex
                obtain ⟨⟨e1, e2, e3⟩, hE⟩ : ∃ E : Lk, R[m] = E := ⟨_, rfl⟩
                have hEm : (e1, e2, e3) ∈ R := by rw [← hE]; exact List.getElem_mem _
                rw [hE] at x0 x1 x2
                simp only at x0 x1 x2
                have HEm := Lib.hid hEm
                have hbX : Below wK.heap.size wK (wr.alloc (.cells #[.int .i64 e1, .int .i64 e2, .int .i64 e3] 29)) := bl_trans hbm (bl_alloc _ _)
                have z0 : (wr.alloc (.cells #[.int .i64 e1, .int .i64 e2, .int .i64 e3] 29)).cell? ⟨wr.heap.size, 0, none⟩ = some (.int .i64 e1) := by simp
                have z1 : (wr.alloc (.cells #[.int .i64 e1, .int .i64 e2, .int .i64 e3] 29)).cell? ⟨wr.heap.size, 1, none⟩ = some (.int .i64 e2) := by simp
                have z2 : (wr.alloc (.cells #[.int .i64 e1, .int .i64 e2, .int .i64 e3] 29)).cell? ⟨wr.heap.size, 2, none⟩ = some (.int .i64 e3) := by simp
                clear hEm hE hbm
                go_upto_region 18 with (fail)
                clear x0 x1 x2
                generalize wr.alloc (.cells #[.int .i64 e1, .int .i64 e2, .int .i64 e3] 29) = wX at hbX z0 z1 z2 ⊢
                have hbWX := bl_trans hbWK hbX
                obtain ⟨P, hP⟩ : ∃ P, P = wr.heap.size := ⟨_, rfl⟩
                rw [← hP] at z0 z1 z2 ⊢
                clear hP
                go_wp2_with fail
                go_loopg [90] S.length (fun r nv wj => ∃ n : Nat, n + r = S.length ∧ nv = .int .i64 n ∧ Below wX.heap.size wX wj)
                case atStart => exact ⟨0, by omega, rfl, bl_refl _⟩
                case round =>
                  obtain ⟨n, hn, rfl, hbn⟩ := hrel
                  have Hn := Lib.hid hn
                  by_cases hnl : n < S.length
                  · clear hn
                    have hbWN := bl_trans hbWX hbn
                    obtain ⟨by_, oy, ey, y0, y1, y2⟩ := (hrS.below hbWN).at n hnl
                    cases ey
                    obtain ⟨⟨f1, f2, f3⟩, hF⟩ : ∃ E : Lk, S[n] = E := ⟨_, rfl⟩
                    have hFm : (f1, f2, f3) ∈ S := by rw [← hF]; exact List.getElem_mem _
                    rw [hF] at y0 y1 y2
                    simp only at y0 y1 y2
                    have HFm := Lib.hid hFm
                    have hbA := bl_alloc wr (.cells #[.int .i64 f1, .int .i64 f2, .int .i64 f3] 29)
                    have hbn2 := bl_trans hbn hbA
                    have z0' := keep_cell hbn2 z0
                    have z1' := keep_cell hbn2 z1
                    have z2' := keep_cell hbn2 z2
                    clear hFm hF
                    by_cases hik : i = k
                    · have q1 : ((i : Int) != (k : Int)) = false := by simp [hik]
                      have q1' : (i != k) = false := by simp [hik]
                      clear hik
                      go_wp2_with fail
                      go_roundg (gk - 1)
                      case measure => have := Hn.out; omega
                      case rel => exact ⟨n + 1, by have := Hn.out; omega, by go_num, hbn2⟩
                    · have q1 : ((i : Int) != (k : Int)) = true := by simp only [bne_iff_ne, ne_eq]; omega
                      have q1' : (i != k) = true := by simpa using hik
                      have hno : touchB WL (e1, e2, e3) (f1, f2, f3) = false := by
                        obtain ⟨i1, hf1, G1⟩ := grp_at Hrt.out (wo := WL) (by rw [← HgE.out]; exact HSk.out)
                        exact grp_touch HR.out HG.out G1 (grp_differ Hf0.out hf1 hik) HEm.out HFm.out
                      have Hno := Lib.hid hno
                      have hWn := hWG.below (bl_trans hbWX hbn2)
                      clear hno hik
                      go_wp2_with fail
                      refine (touch_law12_walkN 10 e1 e2 e3 f1 f2 f3 aw _ WL _ hWn HWk.out h10).mono ?_
                      rw [Hno.out]
                      rintro e w7 ⟨rfl, hb7⟩
                      go_wp2_with fail
                      go_roundg (gk - 1)
                      case measure => have := Hn.out; omega
                      case rel => exact ⟨n + 1, by have := Hn.out; omega, by go_num, bl_trans hbn2 hb7⟩
                  · have hnn : n = S.length := by omega
                    subst hnn
                    clear hn
                    go_wp2_with fail
                    go_roundg (gM - 1)
                    case measure => have := Hm.out; omega
                    case rel => exact ⟨m + 1, by have := Hm.out; omega, by go_num, bl_trans hbX hbn⟩
              · have hmn : m = R.length := by omega
                subst hmn
                clear hm
                go_wp2_with fail
                go_roundg (gK - 1)
                case measure => have := Hk.out; omega
                case rel => exact ⟨k + 1, by have := Hk.out; omega, by go_num, bl_trans hbk hbm⟩
          · have hkn : k = gl.length := by omega
            subst hkn
            clear hk
            have hmb := run_make_row' (P := Try.prog) 38 4 (.bool false) 1 Try.underlying38 bool_info rfl .i64 .i64 R.length (by omega) (by omega)
            have hrc0 : Row (wr.alloc (.cells (madeCells #[.bool false] R.length) 4)) wr.heap.size 4 1 R.length (rowB R.length fun _ => false) := by
              have := row_made wr (.bool false) R.length 4 (by unfold maxLen; omega)
              rwa [rowB_zero] at this
            have hbA := bl_trans hbk (bl_alloc wr (.cells (madeCells #[.bool false] R.length) 4))
            go_upto_region 27 with (fail)
            clear hmb
            obtain ⟨gC, hgC⟩ : ∃ g, g = wr.heap.size := ⟨_, rfl⟩
            have hgCl : w5.heap.size ≤ gC := by rw [hgC]; exact hbk.size
            rw [← hgC] at hrc0 ⊢
            clear hgC
            generalize wr.alloc (.cells (madeCells #[.bool false] R.length) 4) = wM at hrc0 hbA ⊢
            have f0 := hrc0.frozen 0
            have c0 := hrc0.atB hR0l
            have hgM := hrc0.lt
            have hs1 : Row (wM.setCell ⟨gC, 0, none⟩ (.bool true)) gC 4 1 R.length (rowB R.length (upd (fun _ => false) 0 true)) := by
              have := hrc0.set 0 (.bool true)
              rwa [rowB_set] at this
            have hbs1 : Below w5.heap.size w5 (wM.setCell ⟨gC, 0, none⟩ (.bool true)) := hbA.setCell hgCl _
            go_upto_region 28 with (fail)
            clear f0 c0 hrc0 hbA hgM
            generalize wM.setCell ⟨gC, 0, none⟩ (.bool true) = wN at hs1 hbs1 ⊢
            have hcs := ComeOk.start (wo := WL) hR0l
            have Hcs := Lib.hid hcs; clear hcs
            go_wp2_with fail
            go_loopg [113] R.length (fun r pv wj => ∃ (p : Nat) (c : Nat → Bool), p + r = R.length ∧ pv = .int .i64 p ∧ Row wj gC 4 1 R.length (rowB R.length c) ∧ ComeOk R WL c p ∧ Below w5.heap.size w5 wj)
            case atStart => exact ⟨0, _, by omega, rfl, hs1, Hcs.out, hbs1⟩
            case round =>
              clear hs1 hbs1
              obtain ⟨p, cS, hp, rfl, hrow, hcome, hbp⟩ := hrel
              have Hp := Lib.hid hp; have Hcome := Lib.hid hcome
              clear hcome
              by_cases hpl : p < R.length
              · clear hp
                obtain ⟨gP, rfl⟩ : ∃ n : Nat, n = gk := ⟨_, rfl⟩
                have hps : PassC R WL cS cS 0 0 := PassC.start
                have Hps := Lib.hid hps; clear hps
                go_wp2_with fail
                go_loopg [117] R.length (fun r xv wj => ∃ (x : Nat) (c : Nat → Bool), x + r = R.length ∧ xv = .int .i64 x ∧ Row wj gC 4 1 R.length (rowB R.length c) ∧ PassC R WL cS c x 0 ∧ Below w5.heap.size w5 wj)
                case atStart => exact ⟨0, _, by omega, rfl, hrow, Hps.out, hbp⟩
                case round =>
                  clear hrow hbp
                  obtain ⟨x, c, hx, rfl, hrow, hpass, hbp⟩ := hrel
                  have Hx := Lib.hid hx; have Hpass := Lib.hid hpass
                  clear hpass
                  by_cases hxl : x < R.length
                  · clear hx
                    obtain ⟨gX, rfl⟩ : ∃ n : Nat, n = gk := ⟨_, rfl⟩
                    go_wp2_with fail
                    go_loopg [122] R.length (fun r yv wj => ∃ (y : Nat) (c : Nat → Bool), y + r = R.length ∧ yv = .int .i64 y ∧ Row wj gC 4 1 R.length (rowB R.length c) ∧ PassC R WL cS c x y ∧ Below w5.heap.size w5 wj)
                    case atStart => exact ⟨0, _, by omega, rfl, hrow, Hpass.out, hbp⟩
                    case round =>
                      clear hrow hbp Hpass c
                      obtain ⟨y, c, hy, rfl, hrow, hpass, hbp⟩ := hrel
                      have Hy := Lib.hid hy
                      by_cases hyl : y < R.length
                      · clear hy
                        have hbWY := bl_trans hb5 hbp
                        obtain ⟨bx, ox, ex, x0, x1, x2⟩ := (hrR.below hbWY).at x hxl
                        cases ex
                        obtain ⟨by_, oy, ey, y0, y1, y2⟩ := (hrR.below hbWY).at y hyl
                        cases ey
                        obtain ⟨⟨e1, e2, e3⟩, hE⟩ : ∃ E : Lk, R[x] = E := ⟨_, rfl⟩
                        obtain ⟨⟨f1, f2, f3⟩, hF⟩ : ∃ E : Lk, R[y] = E := ⟨_, rfl⟩
                        have hst := hpass.step (e := (e1, e2, e3)) (f := (f1, f2, f3)) (by rw [List.getElem?_eq_getElem hxl, hE]) (by rw [List.getElem?_eq_getElem hyl, hF])
                        rw [hE] at x0 x1 x2
                        rw [hF] at y0 y1 y2
                        simp only at x0 x1 x2 y0 y1 y2
                        have cx := hrow.atB hxl
                        have cy := hrow.atB hyl
                        have fy := hrow.frozen y
                        have hgl2 := hrow.lt
                        clear hpass hE hF
                        cases hcy : c y with
                        | true =>
                          rw [hcy] at cy hst
                          rw [Bool.true_or] at hst
                          have Hst := Lib.hid hst; clear hst hcy cx x0 x1 x2 y0 y1 y2
                          go_wp2_with fail
                          refine regionT (fun w' => w'.cell? ⟨gC, y, none⟩ = some (.bool true)) 25 (by kernel_rfl) ?_
                          have hS : wr.drew.cell? ⟨gC, y, none⟩ = some (.bool true) := cy
                          refine takeT (i := 0) (v := ?_) rfl (by kernel_rfl) (fun _ _ _ h => h) (Or.inl ⟨rfl, ?_⟩) hS ?_
                          rotate_left
                          · (intro wS hSw; (try dsimp only at hSw); go_simp; try (with_reducible rfl))
                          simp only [Act.put, List.setIfInBounds_toArray, List.set_cons_zero, List.set_cons_succ]
                          refine takeT (i := 1) (v := ?_) rfl (by kernel_rfl) (fun _ _ _ h => h) (Or.inl ⟨rfl, ?_⟩) hS ?_
                          rotate_left
                          · (intro wS hSw; (try dsimp only at hSw); go_simp; try (with_reducible rfl))
                          simp only [Act.put, List.setIfInBounds_toArray, List.set_cons_zero, List.set_cons_succ]
                          refine takeT (i := 2) (v := ?_) rfl (by kernel_rfl) (fun _ _ _ h => h) (Or.inl ⟨rfl, ?_⟩) hS ?_
                          rotate_left
                          · (intro wS hSw; (try dsimp only at hSw); go_simp; try (with_reducible rfl))
                          simp only [Act.put, List.setIfInBounds_toArray, List.set_cons_zero, List.set_cons_succ]
                          refine takeT (i := 3) (v := ?_) rfl (by kernel_rfl) (fun _ _ _ h => h) (Or.inl ⟨rfl, ?_⟩) hS ?_
                          rotate_left
                          · (intro wS hSw; (try dsimp only at hSw); go_simp; try (with_reducible rfl))
                          simp only [Act.put, List.setIfInBounds_toArray, List.set_cons_zero, List.set_cons_succ]
                          refine takeT (i := 4) (v := ?_) rfl (by kernel_rfl) (fun _ _ _ h => h) (Or.inl ⟨rfl, ?_⟩) hS ?_
                          rotate_left
                          · (intro wS hSw; (try dsimp only at hSw); go_simp; try (with_reducible rfl))
                          simp only [Act.put, List.setIfInBounds_toArray, List.set_cons_zero, List.set_cons_succ]
                          refine takeT (i := 5) (v := ?_) rfl (by kernel_rfl) (fun _ _ _ h => h) (Or.inl ⟨rfl, ?_⟩) hS ?_
                          rotate_left
                          · (intro wS hSw; (try dsimp only at hSw); go_simp; try (with_reducible rfl))
                          simp only [Act.put, List.setIfInBounds_toArray, List.set_cons_zero, List.set_cons_succ]
                          refine takeT (i := 6) (v := ?_) rfl (by kernel_rfl) (fun _ _ _ h => h) (Or.inl ⟨rfl, ?_⟩) hS ?_
                          rotate_left
                          · (intro wS hSw; (try dsimp only at hSw); go_simp; try (with_reducible rfl))
                          simp only [Act.put, List.setIfInBounds_toArray, List.set_cons_zero, List.set_cons_succ]
                          refine takeT (i := 7) (v := undef) rfl (by kernel_rfl) (fun _ _ _ h => h) (Or.inr ⟨rfl, rfl⟩) hS ?_
                          simp only [Act.put, List.setIfInBounds_toArray, List.set_cons_zero, List.set_cons_succ]
                          refine takeT (i := 8) (v := undef) rfl (by kernel_rfl) (fun _ _ _ h => h) (Or.inr ⟨rfl, rfl⟩) hS ?_
                          simp only [Act.put, List.setIfInBounds_toArray, List.set_cons_zero, List.set_cons_succ]
                          refine takeT (i := 9) (v := undef) rfl (by kernel_rfl) (fun _ _ _ h => h) (Or.inr ⟨rfl, rfl⟩) hS ?_
                          simp only [Act.put, List.setIfInBounds_toArray, List.set_cons_zero, List.set_cons_succ]
                          refine takeT (i := 10) (v := undef) rfl (by kernel_rfl) (fun _ _ _ h => h) (Or.inr ⟨rfl, rfl⟩) hS ?_
                          simp only [Act.put, List.setIfInBounds_toArray, List.set_cons_zero, List.set_cons_succ]
                          refine takeT (i := 11) (v := undef) rfl (by kernel_rfl) (fun _ _ _ h => h) (Or.inr ⟨rfl, rfl⟩) hS ?_
                          simp only [Act.put, List.setIfInBounds_toArray, List.set_cons_zero, List.set_cons_succ]
                          refine takeT (i := 12) (v := undef) rfl (by kernel_rfl) (fun _ _ _ h => h) (Or.inr ⟨rfl, rfl⟩) hS ?_
                          simp only [Act.put, List.setIfInBounds_toArray, List.set_cons_zero, List.set_cons_succ]
                          refine takeT (i := 13) (v := undef) rfl (by kernel_rfl) (fun _ _ _ h => h) (Or.inr ⟨rfl, rfl⟩) hS ?_
                          simp only [Act.put, List.setIfInBounds_toArray, List.set_cons_zero, List.set_cons_succ]
                          refine takeT (i := 14) (v := undef) rfl (by kernel_rfl) (fun _ _ _ h => h) (Or.inr ⟨rfl, rfl⟩) hS ?_
                          simp only [Act.put, List.setIfInBounds_toArray, List.set_cons_zero, List.set_cons_succ]
                          refine takeT (i := 15) (v := undef) rfl (by kernel_rfl) (fun _ _ _ h => h) (Or.inr ⟨rfl, rfl⟩) hS ?_
                          simp only [Act.put, List.setIfInBounds_toArray, List.set_cons_zero, List.set_cons_succ]
                          refine takeT (i := 16) (v := undef) rfl (by kernel_rfl) (fun _ _ _ h => h) (Or.inr ⟨rfl, rfl⟩) hS ?_
                          simp only [Act.put, List.setIfInBounds_toArray, List.set_cons_zero, List.set_cons_succ]
                          refine takeT (i := 17) (v := undef) rfl (by kernel_rfl) (fun _ _ _ h => h) (Or.inr ⟨rfl, rfl⟩) hS ?_
                          simp only [Act.put, List.setIfInBounds_toArray, List.set_cons_zero, List.set_cons_succ]
                          refine takeT (i := 18) (v := undef) rfl (by kernel_rfl) (fun _ _ _ h => h) (Or.inr ⟨rfl, rfl⟩) hS ?_
                          simp only [Act.put, List.setIfInBounds_toArray, List.set_cons_zero, List.set_cons_succ]
                          refine takeT (i := 19) (v := undef) rfl (by kernel_rfl) (fun _ _ _ h => h) (Or.inr ⟨rfl, rfl⟩) hS ?_
                          simp only [Act.put, List.setIfInBounds_toArray, List.set_cons_zero, List.set_cons_succ]
                          refine takeT (i := 20) (v := undef) rfl (by kernel_rfl) (fun _ _ _ h => h) (Or.inr ⟨rfl, rfl⟩) hS ?_
                          simp only [Act.put, List.setIfInBounds_toArray, List.set_cons_zero, List.set_cons_succ]
                          refine takeT (i := 21) (v := undef) rfl (by kernel_rfl) (fun _ _ _ h => h) (Or.inr ⟨rfl, rfl⟩) hS ?_
                          simp only [Act.put, List.setIfInBounds_toArray, List.set_cons_zero, List.set_cons_succ]
                          refine takeT (i := 22) (v := undef) rfl (by kernel_rfl) (fun _ _ _ h => h) (Or.inr ⟨rfl, rfl⟩) hS ?_
                          simp only [Act.put, List.setIfInBounds_toArray, List.set_cons_zero, List.set_cons_succ]
                          refine takeT (i := 23) (v := ?_) rfl (by kernel_rfl) (fun _ _ _ h => h) (Or.inl ⟨rfl, ?_⟩) hS ?_
                          rotate_left
                          · (intro wS hSw; (try dsimp only at hSw); go_simp; try (with_reducible rfl))
                          simp only [Act.put, List.setIfInBounds_toArray, List.set_cons_zero, List.set_cons_succ]
                          refine takeT (i := 24) (v := ?_) rfl (by kernel_rfl) (fun _ _ _ h => h) (Or.inl ⟨rfl, ?_⟩) hS ?_
                          rotate_left
                          · (intro wS hSw; (try dsimp only at hSw); go_simp; try (with_reducible rfl))
                          simp only [Act.put, List.setIfInBounds_toArray, List.set_cons_zero, List.set_cons_succ]
                          refine oneT (i := 25) rfl (by kernel_rfl) (fun K hK => ?_)
                          go_simp
                          -- the last store of the region, in the world WW; the value V
                          refine hK _ _ (fun h => absurd h (by omega)) ?_
                          clear hK K hS
                          refine doneT (by kernel_rfl) ?_ _
                          go_wp2_with fail
                          go_roundg (gk - 1)
                          case measure => have := Hy.out; omega
                          case rel =>
                            have h1 := (hrow.drew).set y (.bool true)
                            rw [rowB_set] at h1
                            exact ⟨y + 1, _, by have := Hy.out; omega, by go_num, h1, Hst.out, (hbp.drew).setCell hgCl _⟩
                        | false =>
                          rw [hcy] at cy hst
                          rw [Bool.false_or] at hst
                          cases hcx : c x with
                          | false =>
                            rw [hcx] at cx hst
                            rw [Bool.false_and] at hst
                            have Hst := Lib.hid hst; clear hst hcy hcx x0 x1 x2 y0 y1 y2
                            go_wp2_with fail
                            refine regionT (fun w' => w'.cell? ⟨gC, y, none⟩ = some (.bool false) ∧ w'.cell? ⟨gC, x, none⟩ = some (.bool false)) 25 (by kernel_rfl) ?_
                            have hS : wr.drew.cell? ⟨gC, y, none⟩ = some (.bool false) ∧ wr.drew.cell? ⟨gC, x, none⟩ = some (.bool false) := ⟨cy, cx⟩
                            refine takeT (i := 0) (v := ?_) rfl (by kernel_rfl) (fun _ _ _ h => h) (Or.inl ⟨rfl, ?_⟩) hS ?_
                            rotate_left
                            · (intro wS hSw; (try dsimp only at hSw); go_simp; try (with_reducible rfl))
                            simp only [Act.put, List.setIfInBounds_toArray, List.set_cons_zero, List.set_cons_succ]
                            refine takeT (i := 1) (v := ?_) rfl (by kernel_rfl) (fun _ _ _ h => h) (Or.inl ⟨rfl, ?_⟩) hS ?_
                            rotate_left
                            · (intro wS hSw; (try dsimp only at hSw); go_simp; try (with_reducible rfl))
                            simp only [Act.put, List.setIfInBounds_toArray, List.set_cons_zero, List.set_cons_succ]
                            refine takeT (i := 2) (v := ?_) rfl (by kernel_rfl) (fun _ _ _ h => h) (Or.inl ⟨rfl, ?_⟩) hS ?_
                            rotate_left
                            · (intro wS hSw; (try dsimp only at hSw); go_simp; try (with_reducible rfl))
                            simp only [Act.put, List.setIfInBounds_toArray, List.set_cons_zero, List.set_cons_succ]
                            refine takeT (i := 3) (v := ?_) rfl (by kernel_rfl) (fun _ _ _ h => h) (Or.inl ⟨rfl, ?_⟩) hS ?_
                            rotate_left
                            · (intro wS hSw; (try dsimp only at hSw); go_simp; try (with_reducible rfl))
                            simp only [Act.put, List.setIfInBounds_toArray, List.set_cons_zero, List.set_cons_succ]
                            refine takeT (i := 4) (v := ?_) rfl (by kernel_rfl) (fun _ _ _ h => h) (Or.inl ⟨rfl, ?_⟩) hS ?_
                            rotate_left
                            · (intro wS hSw; (try dsimp only at hSw); go_simp; try (with_reducible rfl))
                            simp only [Act.put, List.setIfInBounds_toArray, List.set_cons_zero, List.set_cons_succ]
                            refine takeT (i := 5) (v := ?_) rfl (by kernel_rfl) (fun _ _ _ h => h) (Or.inl ⟨rfl, ?_⟩) hS ?_
                            rotate_left
                            · (intro wS hSw; (try dsimp only at hSw); go_simp; try (with_reducible rfl))
                            simp only [Act.put, List.setIfInBounds_toArray, List.set_cons_zero, List.set_cons_succ]
                            refine takeT (i := 6) (v := ?_) rfl (by kernel_rfl) (fun _ _ _ h => h) (Or.inl ⟨rfl, ?_⟩) hS ?_
                            rotate_left
                            · (intro wS hSw; (try dsimp only at hSw); go_simp; try (with_reducible rfl))
                            simp only [Act.put, List.setIfInBounds_toArray, List.set_cons_zero, List.set_cons_succ]
                            refine takeT (i := 7) (v := ?_) rfl (by kernel_rfl) (fun _ _ _ h => h) (Or.inl ⟨rfl, ?_⟩) hS ?_
                            rotate_left
                            · (intro wS hSw; (try dsimp only at hSw); go_simp; try (with_reducible rfl))
                            simp only [Act.put, List.setIfInBounds_toArray, List.set_cons_zero, List.set_cons_succ]
                            refine takeT (i := 8) (v := ?_) rfl (by kernel_rfl) (fun _ _ _ h => h) (Or.inl ⟨rfl, ?_⟩) hS ?_
                            rotate_left
                            · (intro wS hSw; (try dsimp only at hSw); go_simp; try (with_reducible rfl))
                            simp only [Act.put, List.setIfInBounds_toArray, List.set_cons_zero, List.set_cons_succ]
                            refine takeT (i := 9) (v := ?_) rfl (by kernel_rfl) (fun _ _ _ h => h) (Or.inl ⟨rfl, ?_⟩) hS ?_
                            rotate_left
                            · (intro wS hSw; (try dsimp only at hSw); go_simp; try (with_reducible rfl))
                            simp only [Act.put, List.setIfInBounds_toArray, List.set_cons_zero, List.set_cons_succ]
                            refine takeT (i := 10) (v := ?_) rfl (by kernel_rfl) (fun _ _ _ h => h) (Or.inl ⟨rfl, ?_⟩) hS ?_
                            rotate_left
                            · (intro wS hSw; (try dsimp only at hSw); go_simp; try (with_reducible rfl))
                            simp only [Act.put, List.setIfInBounds_toArray, List.set_cons_zero, List.set_cons_succ]
                            refine takeT (i := 11) (v := ?_) rfl (by kernel_rfl) (fun _ _ _ h => h) (Or.inl ⟨rfl, ?_⟩) hS ?_
                            rotate_left
                            · (intro wS hSw; (try dsimp only at hSw); go_simp; try (with_reducible rfl))
                            simp only [Act.put, List.setIfInBounds_toArray, List.set_cons_zero, List.set_cons_succ]
                            refine takeT (i := 12) (v := undef) rfl (by kernel_rfl) (fun _ _ _ h => h) (Or.inr ⟨rfl, rfl⟩) hS ?_
                            simp only [Act.put, List.setIfInBounds_toArray, List.set_cons_zero, List.set_cons_succ]
                            refine takeT (i := 13) (v := undef) rfl (by kernel_rfl) (fun _ _ _ h => h) (Or.inr ⟨rfl, rfl⟩) hS ?_
                            simp only [Act.put, List.setIfInBounds_toArray, List.set_cons_zero, List.set_cons_succ]
                            refine takeT (i := 14) (v := undef) rfl (by kernel_rfl) (fun _ _ _ h => h) (Or.inr ⟨rfl, rfl⟩) hS ?_
                            simp only [Act.put, List.setIfInBounds_toArray, List.set_cons_zero, List.set_cons_succ]
                            refine takeT (i := 15) (v := undef) rfl (by kernel_rfl) (fun _ _ _ h => h) (Or.inr ⟨rfl, rfl⟩) hS ?_
                            simp only [Act.put, List.setIfInBounds_toArray, List.set_cons_zero, List.set_cons_succ]
                            refine takeT (i := 16) (v := undef) rfl (by kernel_rfl) (fun _ _ _ h => h) (Or.inr ⟨rfl, rfl⟩) hS ?_
                            simp only [Act.put, List.setIfInBounds_toArray, List.set_cons_zero, List.set_cons_succ]
                            refine takeT (i := 17) (v := undef) rfl (by kernel_rfl) (fun _ _ _ h => h) (Or.inr ⟨rfl, rfl⟩) hS ?_
                            simp only [Act.put, List.setIfInBounds_toArray, List.set_cons_zero, List.set_cons_succ]
                            refine takeT (i := 18) (v := undef) rfl (by kernel_rfl) (fun _ _ _ h => h) (Or.inr ⟨rfl, rfl⟩) hS ?_
                            simp only [Act.put, List.setIfInBounds_toArray, List.set_cons_zero, List.set_cons_succ]
                            refine takeT (i := 19) (v := undef) rfl (by kernel_rfl) (fun _ _ _ h => h) (Or.inr ⟨rfl, rfl⟩) hS ?_
                            simp only [Act.put, List.setIfInBounds_toArray, List.set_cons_zero, List.set_cons_succ]
                            refine takeT (i := 20) (v := undef) rfl (by kernel_rfl) (fun _ _ _ h => h) (Or.inr ⟨rfl, rfl⟩) hS ?_
                            simp only [Act.put, List.setIfInBounds_toArray, List.set_cons_zero, List.set_cons_succ]
                            refine takeT (i := 21) (v := undef) rfl (by kernel_rfl) (fun _ _ _ h => h) (Or.inr ⟨rfl, rfl⟩) hS ?_
                            simp only [Act.put, List.setIfInBounds_toArray, List.set_cons_zero, List.set_cons_succ]
                            refine takeT (i := 22) (v := ?_) rfl (by kernel_rfl) (fun _ _ _ h => h) (Or.inl ⟨rfl, ?_⟩) hS ?_
                            rotate_left
                            · (intro wS hSw; (try dsimp only at hSw); go_simp; try (with_reducible rfl))
                            simp only [Act.put, List.setIfInBounds_toArray, List.set_cons_zero, List.set_cons_succ]
                            refine takeT (i := 23) (v := ?_) rfl (by kernel_rfl) (fun _ _ _ h => h) (Or.inl ⟨rfl, ?_⟩) hS ?_
                            rotate_left
                            · (intro wS hSw; (try dsimp only at hSw); go_simp; try (with_reducible rfl))
                            simp only [Act.put, List.setIfInBounds_toArray, List.set_cons_zero, List.set_cons_succ]
                            refine takeT (i := 24) (v := ?_) rfl (by kernel_rfl) (fun _ _ _ h => h) (Or.inl ⟨rfl, ?_⟩) hS ?_
                            rotate_left
                            · (intro wS hSw; (try dsimp only at hSw); go_simp; try (with_reducible rfl))
                            simp only [Act.put, List.setIfInBounds_toArray, List.set_cons_zero, List.set_cons_succ]
                            refine oneT (i := 25) rfl (by kernel_rfl) (fun K hK => ?_)
                            go_simp
                            -- the last store of the region, in the world WW; the value V
                            refine hK _ _ (fun h => absurd h (by omega)) ?_
                            clear hK K hS
                            refine doneT (by kernel_rfl) ?_ _
                            go_wp2_with fail
                            go_roundg (gk - 1)
                            case measure => have := Hy.out; omega
                            case rel =>
                              have h1 := (hrow.drew).set y (.bool false)
                              rw [rowB_set] at h1
                              exact ⟨y + 1, _, by have := Hy.out; omega, by go_num, h1, Hst.out, (hbp.drew).setCell hgCl _⟩
                          | true =>
                            rw [hcx] at cx hst
                            rw [Bool.true_and] at hst
                            obtain ⟨tv, htv⟩ : ∃ tv, tv = touchB WL (e1, e2, e3) (f1, f2, f3) := ⟨_, rfl⟩
                            rw [← htv] at hst
                            have hWy := hWG.below hbWY
                            have Hst := Lib.hid hst; have Htv := Lib.hid htv; clear hst hcy hcx htv
                            go_wp2_with fail
                            refine regionT (fun w' => w'.cell? ⟨gC, y, none⟩ = some (.bool false) ∧ w'.cell? ⟨gC, x, none⟩ = some (.bool true) ∧ w'.cell? ⟨b1, o1 + x * 3, none⟩ = some (.int .i64 e1) ∧ w'.cell? ⟨b1, o1 + x * 3 + 1, none⟩ = some (.int .i64 e2) ∧ w'.cell? ⟨b1, o1 + x * 3 + 2, none⟩ = some (.int .i64 e3) ∧
                              w'.cell? ⟨b1, o1 + y * 3, none⟩ = some (.int .i64 f1) ∧ w'.cell? ⟨b1, o1 + y * 3 + 1, none⟩ = some (.int .i64 f2) ∧ w'.cell? ⟨b1, o1 + y * 3 + 2, none⟩ = some (.int .i64 f3)) 25 (by kernel_rfl) ?_
                            have hS : (fun w' : World => w'.cell? ⟨gC, y, none⟩ = some (.bool false) ∧ w'.cell? ⟨gC, x, none⟩ = some (.bool true) ∧ w'.cell? ⟨b1, o1 + x * 3, none⟩ = some (.int .i64 e1) ∧ w'.cell? ⟨b1, o1 + x * 3 + 1, none⟩ = some (.int .i64 e2) ∧ w'.cell? ⟨b1, o1 + x * 3 + 2, none⟩ = some (.int .i64 e3) ∧
                              w'.cell? ⟨b1, o1 + y * 3, none⟩ = some (.int .i64 f1) ∧ w'.cell? ⟨b1, o1 + y * 3 + 1, none⟩ = some (.int .i64 f2) ∧ w'.cell? ⟨b1, o1 + y * 3 + 2, none⟩ = some (.int .i64 f3)) wr.drew := ⟨cy, cx, x0, x1, x2, y0, y1, y2⟩
                            replace hS := hS
                            refine takeT (i := 0) (v := ?_) rfl (by kernel_rfl) (fun _ _ _ h => h) (Or.inl ⟨rfl, ?_⟩) hS ?_
                            rotate_left
                            · (intro wS hSw; (try dsimp only at hSw); go_simp; try (with_reducible rfl))
                            simp only [Act.put, List.setIfInBounds_toArray, List.set_cons_zero, List.set_cons_succ]
                            refine takeT (i := 1) (v := ?_) rfl (by kernel_rfl) (fun _ _ _ h => h) (Or.inl ⟨rfl, ?_⟩) hS ?_
                            rotate_left
                            · (intro wS hSw; (try dsimp only at hSw); go_simp; try (with_reducible rfl))
                            simp only [Act.put, List.setIfInBounds_toArray, List.set_cons_zero, List.set_cons_succ]
                            refine takeT (i := 2) (v := ?_) rfl (by kernel_rfl) (fun _ _ _ h => h) (Or.inl ⟨rfl, ?_⟩) hS ?_
                            rotate_left
                            · (intro wS hSw; (try dsimp only at hSw); go_simp; try (with_reducible rfl))
                            simp only [Act.put, List.setIfInBounds_toArray, List.set_cons_zero, List.set_cons_succ]
                            refine takeT (i := 3) (v := ?_) rfl (by kernel_rfl) (fun _ _ _ h => h) (Or.inl ⟨rfl, ?_⟩) hS ?_
                            rotate_left
                            · (intro wS hSw; (try dsimp only at hSw); go_simp; try (with_reducible rfl))
                            simp only [Act.put, List.setIfInBounds_toArray, List.set_cons_zero, List.set_cons_succ]
                            refine takeT (i := 4) (v := ?_) rfl (by kernel_rfl) (fun _ _ _ h => h) (Or.inl ⟨rfl, ?_⟩) hS ?_
                            rotate_left
                            · (intro wS hSw; (try dsimp only at hSw); go_simp; try (with_reducible rfl))
                            simp only [Act.put, List.setIfInBounds_toArray, List.set_cons_zero, List.set_cons_succ]
                            refine takeT (i := 5) (v := ?_) rfl (by kernel_rfl) (fun _ _ _ h => h) (Or.inl ⟨rfl, ?_⟩) hS ?_
                            rotate_left
                            · (intro wS hSw; (try dsimp only at hSw); go_simp; try (with_reducible rfl))
                            simp only [Act.put, List.setIfInBounds_toArray, List.set_cons_zero, List.set_cons_succ]
                            refine takeT (i := 6) (v := ?_) rfl (by kernel_rfl) (fun _ _ _ h => h) (Or.inl ⟨rfl, ?_⟩) hS ?_
                            rotate_left
                            · (intro wS hSw; (try dsimp only at hSw); go_simp; try (with_reducible rfl))
                            simp only [Act.put, List.setIfInBounds_toArray, List.set_cons_zero, List.set_cons_succ]
                            refine takeT (i := 7) (v := ?_) rfl (by kernel_rfl) (fun _ _ _ h => h) (Or.inl ⟨rfl, ?_⟩) hS ?_
                            rotate_left
                            · (intro wS hSw; (try dsimp only at hSw); go_simp; try (with_reducible rfl))
                            simp only [Act.put, List.setIfInBounds_toArray, List.set_cons_zero, List.set_cons_succ]
                            refine takeT (i := 8) (v := ?_) rfl (by kernel_rfl) (fun _ _ _ h => h) (Or.inl ⟨rfl, ?_⟩) hS ?_
                            rotate_left
                            · (intro wS hSw; (try dsimp only at hSw); go_simp; try (with_reducible rfl))
                            simp only [Act.put, List.setIfInBounds_toArray, List.set_cons_zero, List.set_cons_succ]
                            refine takeT (i := 9) (v := ?_) rfl (by kernel_rfl) (fun _ _ _ h => h) (Or.inl ⟨rfl, ?_⟩) hS ?_
                            rotate_left
                            · (intro wS hSw; (try dsimp only at hSw); go_simp; try (with_reducible rfl))
                            simp only [Act.put, List.setIfInBounds_toArray, List.set_cons_zero, List.set_cons_succ]
                            refine takeT (i := 10) (v := ?_) rfl (by kernel_rfl) (fun _ _ _ h => h) (Or.inl ⟨rfl, ?_⟩) hS ?_
                            rotate_left
                            · (intro wS hSw; (try dsimp only at hSw); go_simp; try (with_reducible rfl))
                            simp only [Act.put, List.setIfInBounds_toArray, List.set_cons_zero, List.set_cons_succ]
                            refine takeT (i := 11) (v := ?_) rfl (by kernel_rfl) (fun _ _ _ h => h) (Or.inl ⟨rfl, ?_⟩) hS ?_
                            rotate_left
                            · (intro wS hSw; (try dsimp only at hSw); go_simp; try (with_reducible rfl))
                            simp only [Act.put, List.setIfInBounds_toArray, List.set_cons_zero, List.set_cons_succ]
                            refine takeT (i := 12) (v := ?_) rfl (by kernel_rfl) (fun _ _ _ h => h) (Or.inl ⟨rfl, ?_⟩) hS ?_
                            rotate_left
                            · (intro wS hSw; (try dsimp only at hSw); go_simp; try (with_reducible rfl))
                            simp only [Act.put, List.setIfInBounds_toArray, List.set_cons_zero, List.set_cons_succ]
                            refine takeT (i := 13) (v := ?_) rfl (by kernel_rfl) (fun _ _ _ h => h) (Or.inl ⟨rfl, ?_⟩) hS ?_
                            rotate_left
                            · (intro wS hSw; (try dsimp only at hSw); go_simp; try (with_reducible rfl))
                            simp only [Act.put, List.setIfInBounds_toArray, List.set_cons_zero, List.set_cons_succ]
                            refine takeT (i := 14) (v := ?_) rfl (by kernel_rfl) (fun _ _ _ h => h) (Or.inl ⟨rfl, ?_⟩) hS ?_
                            rotate_left
                            · (intro wS hSw; (try dsimp only at hSw); go_simp; try (with_reducible rfl))
                            simp only [Act.put, List.setIfInBounds_toArray, List.set_cons_zero, List.set_cons_succ]
                            refine takeT (i := 15) (v := ?_) rfl (by kernel_rfl) (fun _ _ _ h => h) (Or.inl ⟨rfl, ?_⟩) hS ?_
                            rotate_left
                            · (intro wS hSw; (try dsimp only at hSw); go_simp; try (with_reducible rfl))
                            simp only [Act.put, List.setIfInBounds_toArray, List.set_cons_zero, List.set_cons_succ]
                            refine takeT (i := 16) (v := ?_) rfl (by kernel_rfl) (fun _ _ _ h => h) (Or.inl ⟨rfl, ?_⟩) hS ?_
                            rotate_left
                            · (intro wS hSw; (try dsimp only at hSw); go_simp; try (with_reducible rfl))
                            simp only [Act.put, List.setIfInBounds_toArray, List.set_cons_zero, List.set_cons_succ]
                            refine takeT (i := 17) (v := ?_) rfl (by kernel_rfl) (fun _ _ _ h => h) (Or.inl ⟨rfl, ?_⟩) hS ?_
                            rotate_left
                            · (intro wS hSw; (try dsimp only at hSw); go_simp; try (with_reducible rfl))
                            simp only [Act.put, List.setIfInBounds_toArray, List.set_cons_zero, List.set_cons_succ]
                            refine takeT (i := 18) (v := ?_) rfl (by kernel_rfl) (fun _ _ _ h => h) (Or.inl ⟨rfl, ?_⟩) hS ?_
                            rotate_left
                            · (intro wS hSw; (try dsimp only at hSw); go_simp; try (with_reducible rfl))
                            simp only [Act.put, List.setIfInBounds_toArray, List.set_cons_zero, List.set_cons_succ]
                            refine takeT (i := 19) (v := ?_) rfl (by kernel_rfl) (fun _ _ _ h => h) (Or.inl ⟨rfl, ?_⟩) hS ?_
                            rotate_left
                            · (intro wS hSw; (try dsimp only at hSw); go_simp; try (with_reducible rfl))
                            simp only [Act.put, List.setIfInBounds_toArray, List.set_cons_zero, List.set_cons_succ]
                            refine takeT (i := 20) (v := ?_) rfl (by kernel_rfl) (fun _ _ _ h => h) (Or.inl ⟨rfl, ?_⟩) hS ?_
                            rotate_left
                            · (intro wS hSw; (try dsimp only at hSw); go_simp; try (with_reducible rfl))
                            simp only [Act.put, List.setIfInBounds_toArray, List.set_cons_zero, List.set_cons_succ]
                            refine oneT (i := 21) rfl (by kernel_rfl) (fun K hK => ?_)
                            go_simp
                            go_at_call 27
                            refine (touch_law12_walkN 10 e1 e2 e3 f1 f2 f3 aw _ WL _ ?_ HWk.out h10).mono ?_
                            exact hWy
                            rw [← Htv.out]
                            rintro e w7 ⟨rfl, hb7⟩
                            go_simp
                            have hb7' : Below wr.heap.size wr w7 := bl_trans ((bl_refl wr).drew) hb7
                            refine hK _ _ (fun _ => ⟨keep_cell hb7' cy, keep_cell hb7' cx, keep_cell hb7' x0, keep_cell hb7' x1, keep_cell hb7' x2, keep_cell hb7' y0, keep_cell hb7' y1, keep_cell hb7' y2⟩) ?_
                            have hrow7 := hrow.below hb7' hgl2
                            have fy7 := hrow7.frozen y
                            have hgl7 := hrow7.lt
                            have cy7 := keep_cell hb7' cy
                            have hbp7 := bl_trans hbp hb7'
                            clear hK K hS
                            have hS : w7.cell? ⟨gC, y, none⟩ = some (.bool false) ∧ w7.cell? ⟨gC, x, none⟩ = some (.bool true) ∧ w7.cell? ⟨b1, o1 + x * 3, none⟩ = some (.int .i64 e1) ∧ w7.cell? ⟨b1, o1 + x * 3 + 1, none⟩ = some (.int .i64 e2) ∧ w7.cell? ⟨b1, o1 + x * 3 + 2, none⟩ = some (.int .i64 e3) ∧
                              w7.cell? ⟨b1, o1 + y * 3, none⟩ = some (.int .i64 f1) ∧ w7.cell? ⟨b1, o1 + y * 3 + 1, none⟩ = some (.int .i64 f2) ∧ w7.cell? ⟨b1, o1 + y * 3 + 2, none⟩ = some (.int .i64 f3) := ⟨keep_cell hb7' cy, keep_cell hb7' cx, keep_cell hb7' x0, keep_cell hb7' x1, keep_cell hb7' x2, keep_cell hb7' y0, keep_cell hb7' y1, keep_cell hb7' y2⟩
                            refine takeT (i := 22) (v := ?_) rfl (by kernel_rfl) (fun _ _ _ h => h) (Or.inl ⟨rfl, ?_⟩) hS ?_
                            rotate_left
                            · (intro wS hSw; (try dsimp only at hSw); go_simp; try (with_reducible rfl))
                            simp only [Act.put, List.setIfInBounds_toArray, List.set_cons_zero, List.set_cons_succ]
                            refine takeT (i := 23) (v := ?_) rfl (by kernel_rfl) (fun _ _ _ h => h) (Or.inl ⟨rfl, ?_⟩) hS ?_
                            rotate_left
                            · (intro wS hSw; (try dsimp only at hSw); go_simp; try (with_reducible rfl))
                            simp only [Act.put, List.setIfInBounds_toArray, List.set_cons_zero, List.set_cons_succ]
                            refine takeT (i := 24) (v := ?_) rfl (by kernel_rfl) (fun _ _ _ h => h) (Or.inl ⟨rfl, ?_⟩) hS ?_
                            rotate_left
                            · (intro wS hSw; (try dsimp only at hSw); go_simp; try (with_reducible rfl))
                            simp only [Act.put, List.setIfInBounds_toArray, List.set_cons_zero, List.set_cons_succ]
                            refine oneT (i := 25) rfl (by kernel_rfl) (fun K hK => ?_)
                            go_simp
                            -- the last store of the region, in the world WW; the value V
                            refine hK _ _ (fun h => absurd h (by omega)) ?_
                            clear hK K hS
                            refine doneT (by kernel_rfl) ?_ _
                            go_wp2_with fail
                            go_roundg (gk - 1)
                            case measure => have := Hy.out; omega
                            case rel =>
                              have h1 := (hrow7).set y (.bool tv)
                              rw [rowB_set] at h1
                              exact ⟨y + 1, _, by have := Hy.out; omega, by go_num, h1, Hst.out, (hbp7).setCell hgCl _⟩
                      · have hyn : y = R.length := by omega
                        subst hyn
                        have hr2 := hpass.row
                        have Hr2 := Lib.hid hr2
                        clear hy hpass hr2
                        go_wp2_with fail
                        go_roundg (gX - 1)
                        case measure => have := Hx.out; omega
                        case rel => exact ⟨x + 1, c, by have := Hx.out; omega, by go_num, hrow, Hr2.out, hbp⟩
                  · have hxn : x = R.length := by omega
                    subst hxn
                    have hcm3 := Hcome.out.pass Hpass.out
                    have Hcm3 := Lib.hid hcm3
                    clear hx hcm3
                    go_wp2_with fail
                    go_roundg (gP - 1)
                    case measure => have := Hp.out; omega
                    case rel => exact ⟨p + 1, c, by have := Hp.out; omega, by go_num, hrow, Hcm3.out, hbp⟩
              · have hpn : p = R.length := by omega
                subst hpn
                have hall := ComeOk.all HR.out HG.out Hcome.out
                have Hall := Lib.hid hall
                clear hp hall
                obtain ⟨wE, rfl⟩ : ∃ wo : World, wo = wr := ⟨_, rfl⟩
                go_wp2_with fail
                go_loopg [155] R.length (fun r jv wj => ∃ j : Nat, j + r = R.length ∧ jv = .int .i64 j ∧ wE = wj)
                case atStart => exact ⟨0, by omega, rfl, rfl⟩
                case round =>
                  obtain ⟨j, hj, rfl, rfl⟩ := hrel
                  have Hj := Lib.hid hj
                  by_cases hjl : j < R.length
                  · have cj := hrow.atB hjl
                    rw [Hall.out j hjl] at cj
                    clear hj
                    go_wp2_with fail
                    go_roundg (gk - 1)
                    case measure => have := Hj.out; omega
                    case rel => exact ⟨j + 1, by have := Hj.out; omega, by go_num, rfl⟩
                  · have hjn : j = R.length := by omega
                    subst hjn
                    clear hj
                    go_wp2_with fail
                    go_roundg (gO - 1)
                    case measure => have := Hi.out; omega
                    case rel => exact ⟨i + 1, _, rfl, by have := Hi.out; omega, by go_num, Own.ext Hown5.out hbp, fun g hg => by cases hg; exact hg6, bl_trans hb5 hbp⟩
      · have hin : i = gl.length := by omega
        subst hin
        have hso : sortL fl = ls := by
          rw [Hfl.out, List.take_length, HgE.out]
          have h1 := sortL_congr ((grp_perm (wo := WL) HR.out).map swapL)
          rw [h1, sortL_right HR.out]
        obtain ⟨av, cv, rfl, hrd, _, _, _⟩ := OwnL.read Hu.out
        have Hso := Lib.hid hso
        have hB9 := bl_trans hBG hb
        clear hi hso
        go_wp2_with fail
        refine (sorted_walk av cv fl _ hrd (by omega)).mono ?_
        rintro e w2 ⟨v2, rfl, ho2, _, hb2⟩
        rw [Hso.out] at ho2
        obtain ⟨a2, c2, rfl, hr2, _, _, _⟩ := ho2.read
        have hB10 := bl_trans hB9 hb2
        clear ho2 hb2 hB9
        go_wp2_with fail
        refine (same_walk a2 a c2 cap ls ls _ hr2 (hr.below hB10) hcap hcap).mono ?_
        rintro e w3 hq
        obtain ⟨rfl, hb3⟩ := hq.below
        have hB11 := bl_trans hB10 hb3
        have e2 : decide (ls = ls) = true := by simp
        rw [e2]
        clear hq hb3 hB10 e2
        go_wp2_with fail
        refine (awake_walk _).mono ?_
        rintro e w4 ⟨rfl, hb4⟩
        go_wp2_with fail
        go_ret
        exact ⟨rfl, bl_trans hB11 hb4⟩
namespace linksGroups
open Go Go.RowKit Go.ChangeShapes Go.WideShapes Go.ChangeAt
set_option maxRecDepth 100000 in
theorem lifted (os : Os) (started : os.Started) (H : Type) (enc : TypeId × Value → H) :
    ReturnsInHanded {} Try.checked os 5 .any (Rows.linksGroupsSpec.pre6 enc Try.prog Try.f5 Rows.linksGroupsRow.domain false) (Rows.linksGroupsSpec.post enc Try.prog Try.f5 false true false false) := by
  refine returnsInHanded_of_change (C := Try.checked) rowOwn started (by kernel_rfl) Try.func5
    (ChangeSpec.witness6 (enc := enc) (C := Try.checked) false ⟨#[], #[.slice none 0 0, .slice none 0 0], []⟩ 8 (by kernel_rfl) (by kernel_rfl) (by kernel_rfl) (by kernel_rfl)) ?_
  intro W base args ds gs before hval0 hW hcnd _
  have hval : ∀ (j : Nat) t v, Try.f5.params[j]? = some t → args[j]? = some v → Value.okWide Try.prog W .any base t v := hval0
  have hW' := hW
  obtain ⟨p, q, hA0, hV, rfl, hfz, hnd⟩ := hW
  have hA : DataW.TrodAll enc Try.prog W 0 (fun _ => true) true Try.f5.params.toList args.toList ds p := hA0
  rw [Try.params5] at hA hval
  obtain ⟨v0, vs0, d0, ds0, p0, q0, hargs, rfl, rfl, h0, r0⟩ := trodAll_cons hA
  obtain ⟨v1, vs1, d1, ds1, p1, q1, rfl, rfl, rfl, h1, r1⟩ := trodAll_cons r0
  obtain ⟨rfl, rfl, rfl⟩ := trodAll_nil r1
  obtain rfl : args = #[v0, v1] := by cases args; simp_all
  obtain ⟨rfl, rfl⟩ := trodVars_none hV
  have k0 := h0
  have lt0 : ∀ x ∈ p0, x.block < W.heap.size := by obtain ⟨m, hm⟩ := k0; exact DataW.trod_lt m _ _ _ hm
  obtain ⟨a0, cap0, es0, rfl, rd0, hl0, hm0, wn0⟩ := open_links (hval 0 22 v0 rfl rfl) h0
  have k1 := h1
  have lt1 : ∀ x ∈ p1, x.block < W.heap.size := by obtain ⟨m, hm⟩ := k1; exact DataW.trod_lt m _ _ _ hm
  obtain ⟨a1, cap1, es1, rfl, rd1, hl1, hm1, wn1⟩ := open_nums (hval 1 25 v1 rfl rfl) h1
  clear hA0 hval0
  refine (linksGroups_walk a0 cap0 es0 a1 cap1 es1 W rd0 hl0 hm0 wn0 rd1 hl1 hm1 wn1).mono fun e W' ⟨he, bel⟩ => ?_
  subst he
  exact ⟨_, rfl, _, _, _, [], _, [], hW', trodAll_mk1 (shut_bool Try.underlying4 _), (trodAll_cons_mk (Below.trod rowLaid (by kernel_rfl) (of_decide_eq_true (by kernel_rfl)) k0 bel lt0) (trodAll_cons_mk (Below.trod rowLaid (by kernel_rfl) (of_decide_eq_true (by kernel_rfl)) k1 bel lt1) trodAll_mk0)), rfl, bel.frame _, fun h => by cases h⟩
theorem over : Rows.linksGroupsRow.holds Try.pinned (OpenSpec.ofChange Rows.linksGroupsSpec) :=
  OpenClaim.holds_of_wide 5 Try.f5 rfl rfl rfl rfl rfl rfl rfl ⟨rfl, rfl, rfl, rfl, rfl⟩ rfl rfl rfl rfl rfl (by kernel_rfl) Try.func5 (by kernel_rfl)
    (of_decide_eq_true (by kernel_rfl)) (by unfold Func.isWrapper; first | (rw [if_pos (by decide +kernel)]; kernel_rfl) | (rw [if_neg (by decide +kernel)]; exact ⟨rfl, rfl⟩))
    (fun os started H enc _ => lifted os started H enc)
/-- The statement. -/
theorem proved : Rows.LinksGroupsSaid := over
#print axioms proved
end linksGroups
end Go.Proofs.Ytagjakgbmmbmhaa
