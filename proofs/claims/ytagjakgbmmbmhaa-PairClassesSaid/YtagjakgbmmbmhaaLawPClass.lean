/- The law PairClasses: whatever links and two bytes come in (of more than 40 links, or of links that are not two-connected, only the chapter's examples are asked): the classes have all links, no two share a vertex but the pair, and each, closed by a link between the pair, is two-connected. It holds of every input. -/
import Derived.Test.YtagjakgbmmbmhaaPaS
import Derived.Test.YtagjakgbmmbmhaaPaT
import Derived.Test.YtagjakgbmmbmhaaRowL
import Derived.Test.YtagjakgbmmbmhaaLawGroups
namespace Go.Proofs.Ytagjakgbmmbmhaa
open Go Go.RowKit Go.ChangeShapes Go.WideShapes Go.ChangeAt Go.Joins Go.Deep

theorem lens_take (g : List (List Lk)) (i : Nat) (h : i < g.length) : (lensL (g.take (i + 1))).sum = (lensL (g.take i)).sum + g[i].length := by
  rw [List.take_succ_eq_append_getElem h]
  unfold lensL
  rw [List.map_append, List.sum_append]; simp
theorem lens_take_le (g : List (List Lk)) (i : Nat) : (lensL (g.take i)).sum ≤ (lensL g).sum := by
  have h := congrArg (fun l => (lensL l).sum) (List.take_append_drop i g)
  unfold lensL at h ⊢
  simp only [List.map_append, List.sum_append] at h
  omega
set_option maxRecDepth 100000 in
set_option maxHeartbeats 8000000 in
theorem pairClasses_walk (a : Option Addr) (cap : Nat) (ls : List Lk) (x y : Int) (w : World) (hr : RdL w a ls) (hl : ls.length ≤ cap) (hm : cap ≤ maxLen) (_hw : ∀ k ∈ ls, WfZ k.1 ∧ WfZ k.2.1 ∧ WfZ k.2.2) (hx : (Lit.int .u8 x).wf = true) (hy : (Lit.int .u8 y).wf = true) :
    Calls Try.prog 9 #[.slice a ls.length cap, .int .u8 x, .int .u8 y] w (RetT w true) := by
  have hcap : ls.length ≤ 9223372036854775807 := by unfold maxLen at hm; omega
  have hx1 : 0 ≤ x ∧ x ≤ 255 := Go.bounds_u8 hx
  have hy1 : 0 ≤ y ∧ y ≤ 255 := Go.bounds_u8 hy
  clear _hw hm hl hx hy
  by_cases h40 : 40 < ls.length
  · have g0 : decide ((40 : Int) < (ls.length : Int)) = true := by simp; omega
    go_enter Try.func9, Try.ntmps9
    go_wp2_with fail
    refine (awake13_walk _).mono ?_
    rintro e wz ⟨rfl, hbz⟩
    go_wp2_with fail
    go_ret
    exact ⟨rfl, bl_trans (bl_refl _) hbz⟩
  have h40' : ls.length ≤ 40 := by omega
  have g0 : decide ((40 : Int) < (ls.length : Int)) = false := by simp; omega
  clear h40
  cases h2 : twoL ls with
  | false =>
    have H2 := Lib.hid h2; clear h2
    go_enter Try.func9, Try.ntmps9
    go_wp2_with fail
    refine (two_walk a cap ls _ hr hcap).mono ?_
    rw [H2.out]
    rintro e w1 ⟨rfl, hb1⟩
    go_wp2_with fail
    refine (awake13_walk _).mono ?_
    rintro e wz ⟨rfl, hbz⟩
    go_wp2_with fail
    go_ret
    exact ⟨rfl, bl_trans hb1 hbz⟩
  | true =>
    obtain ⟨vs, hvs⟩ : ∃ vs, vs = vertsL ls := ⟨_, rfl⟩
    have hvl : vs.length ≤ 2000 := by rw [hvs]; have := vertsL_length ls; omega
    have hv2 : 2 ≤ vs.length := by rw [hvs]; exact two_verts h2
    have hbd : ∀ z ∈ vs, 0 ≤ z ∧ z ≤ 1048576 := fun z hz => by
      rw [hvs] at hz
      obtain ⟨q, hq, e⟩ := (mem_vertsL ls z).1 hz
      have ok := (two_right h2).2.1 q hq
      unfold OkL at ok
      rcases e with rfl | rfl <;> omega
    obtain ⟨i, hi⟩ : ∃ i : Nat, x % (vs.length : Int) = (i : Int) := ⟨(x % (vs.length : Int)).toNat, by have := Int.emod_nonneg x (show (vs.length : Int) ≠ 0 by omega); omega⟩
    obtain ⟨j, hj⟩ : ∃ j : Nat, y % (vs.length : Int) = (j : Int) := ⟨(y % (vs.length : Int)).toNat, by have := Int.emod_nonneg y (show (vs.length : Int) ≠ 0 by omega); omega⟩
    have hil : i < vs.length := by have := Int.emod_lt_of_pos x (show 0 < (vs.length : Int) by omega); omega
    have hjl : j < vs.length := by have := Int.emod_lt_of_pos y (show 0 < (vs.length : Int) by omega); omega
    have hi2 : Int.tmod x (vs.length : Int) = (i : Int) := by rw [Int.tmod_eq_emod_of_nonneg hx1.1]; exact hi
    have hj2 : Int.tmod y (vs.length : Int) = (j : Int) := by rw [Int.tmod_eq_emod_of_nonneg hy1.1]; exact hj
    have wx : IntKind.i64.wrap x = x := IntWalk.i64_in _ (by omega)
    have wy : IntKind.i64.wrap y = y := IntWalk.i64_in _ (by omega)
    obtain ⟨p, hp⟩ : ∃ p, vs[i] = p := ⟨_, rfl⟩
    obtain ⟨q, hq⟩ : ∃ p, vs[j] = p := ⟨_, rfl⟩
    have hpb := hbd p (by rw [← hp]; exact List.getElem_mem _)
    have hqb := hbd q (by rw [← hq]; exact List.getElem_mem _)
    have hn0 : ¬ (vs.length : Int) = 0 := by omega
    have hn1 : ¬ vs.length = 0 := by omega
    have i1 : (i : Int) < (vs.length : Int) := by omega
    have j1 : (j : Int) < (vs.length : Int) := by omega
    have Hvs := Lib.hid hvs; have H2 := Lib.hid h2; have Hp := Lib.hid hp; have Hq := Lib.hid hq
    clear hvs h2 hbd hp hq
    go_enter Try.func9, Try.ntmps9
    go_wp2_with fail
    refine (two_walk a cap ls _ hr hcap).mono ?_
    rw [H2.out]
    rintro e w1 ⟨rfl, hb1⟩
    go_wp2_with fail
    refine (verts_walk a cap ls _ (hr.below hb1) (by omega)).mono ?_
    rw [← Hvs.out]
    rintro e w2 ⟨av, cv, rfl, hrv, _, hvc, hvm, hb2⟩
    have hB2 := bl_trans hb1 hb2
    obtain ⟨b, o, rfl, c0⟩ := hrv.at i hil
    obtain ⟨b', o', e', c1⟩ := hrv.at j hjl
    cases e'
    rw [Hp.out] at c0
    rw [Hq.out] at c1
    clear hb1 hb2 hrv
    go_wp2_with fail
    go_quiet (fail)
    have hB3 := below_drewN hB2 nq
    generalize w2.drewN nq = w3 at hB3 ⊢
    clear hB2 c0 c1 wx wy hi hj hi2 hj2
    go_wp2_with fail
    refine (classes_walk a cap ls p q _ (hr.below hB3) hcap (wfZ_of (by omega)) (wfZ_of (by omega))).mono ?_
    by_cases hpq : p = q
    · subst hpq
      have hps : classesL ls p p = ([], 130) := by unfold classesL mayB; simp
      rw [hps]
      rintro e w4 ⟨vo, vals, rfl, hL, hb4⟩
      obtain ⟨ao, co, rfl, _, _, _⟩ := hL.read
      have hB4 := bl_trans hB3 hb4
      clear hB3 hb4 hps hL
      simp only
      go_wp2_with fail
      refine (awake13_walk _).mono ?_
      rintro e wz ⟨rfl, hbz⟩
      go_wp2_with fail
      go_ret
      exact ⟨rfl, bl_trans hB4 hbz⟩
    · have hmay : mayB ls p q = true := by
        have h1 := mayB_at H2.out (i := i) (k := j) (fun e => hpq (by subst e; rw [← Hp.out, ← Hq.out])) (by rw [← Hvs.out]; exact hil) (by rw [← Hvs.out]; exact hjl)
        rw [← Hvs.out, getD_at hil, getD_at hjl, Hp.out, Hq.out] at h1
        exact h1
      have hpm : p ∈ vertsL ls := by rw [← Hvs.out, ← Hp.out]; exact List.getElem_mem _
      have hqm : q ∈ vertsL ls := by rw [← Hvs.out, ← Hq.out]; exact List.getElem_mem _
      obtain ⟨G, hG⟩ : ∃ G, G = groupsL ls [p, q] := ⟨_, rfl⟩
      have hps : classesL ls p q = (G, 0) := by unfold classesL; rw [hmay, hG]; rfl
      have hGl : G.length ≤ 1000 := by rw [hG]; exact groups_len_le _ _
      have hsum : (lensL G).sum = ls.length := by rw [hG]; exact lens_sum (two_right H2.out)
      rw [hps]
      rintro e w4 ⟨vo, vals, rfl, hL, hb4⟩
      simp only at hL ⊢
      obtain ⟨ao, co, rfl, hrG, _, _⟩ := hL.read
      have hB4 := bl_trans hB3 hb4
      have e0 : (p == q) = false := by simpa using hpq
      have HG := Lib.hid hG; have Hsum := Lib.hid hsum; have Hpq := Lib.hid hpq; have Hpm := Lib.hid hpm; have Hqm := Lib.hid hqm
      clear hB3 hb4 hps hmay hpq hG hsum hpm hqm hL
      go_wp2_with fail
      go_loopg [12, 68] G.length (fun r nv iv wj => ∃ i : Nat, i + r = G.length ∧ iv = .int .i64 i ∧ nv = .int .i64 ((lensL (G.take i)).sum : Nat) ∧ Below w4.heap.size w4 wj)
      case atStart => exact ⟨0, by omega, rfl, rfl, bl_refl _⟩
      case round =>
        obtain ⟨m, hm, rfl, rfl, hb⟩ := hrel
        have Hm := Lib.hid hm
        by_cases hml : m < G.length
        · clear hm
          obtain ⟨gO, rfl⟩ : ∃ n : Nat, n = gk := ⟨_, rfl⟩
          obtain ⟨R, hR0⟩ : ∃ R, G[m] = R := ⟨_, rfl⟩
          have hRm : G[m]? = some R := by rw [List.getElem?_eq_getElem hml, hR0]
          have hst := lens_take G m hml
          rw [hR0] at hst
          obtain ⟨s0, hs0⟩ : ∃ s, s = (lensL (G.take m)).sum := ⟨_, rfl⟩
          have hsb : (lensL (G.take (m + 1))).sum ≤ 40 := by have := lens_take_le G (m + 1); rw [Hsum.out] at this; omega
          rw [← hs0] at hst ⊢
          have hs0l : s0 + R.length ≤ 40 := by omega
          have i9 : IntKind.i64.wrap ((s0 : Int) + (R.length : Int)) = (s0 : Int) + (R.length : Int) := IntWalk.i64_in _ (by omega)
          obtain ⟨bo, oo, au, cu, rfl, p0G, hrR, hRc, hcm⟩ := hrG m R hRm
          obtain ⟨i0, hf0, X⟩ := grp_at ((rightL_iff ls).2 (two_right H2.out)) (wo := [p, q]) (by rw [← HG.out]; exact hRm)
          have hR0l : 0 < R.length := List.length_pos_of_mem X.self
          obtain ⟨b1, o1, rfl, _⟩ := hrR.at 0 hR0l
          have p0 := keep_cell hb p0G
          have Hst := Lib.hid hst; have HX := Lib.hid X; have Hf0 := Lib.hid hf0; have HRm := Lib.hid hRm
          clear hst X hf0 hRm hR0 hs0 hsb
          obtain ⟨wK, rfl⟩ : ∃ wo : World, wo = wr := ⟨_, rfl⟩
          go_wp2_with fail
          go_loopg [78] m (fun r kv wj => ∃ k : Nat, k + r = m ∧ kv = .int .i64 k ∧ Below wK.heap.size wK wj)
          case atStart => exact ⟨0, by omega, rfl, bl_refl _⟩
          case round =>
            obtain ⟨k, hk, rfl, hbk⟩ := hrel
            have Hk := Lib.hid hk
            by_cases hkm : k < m
            · clear hk
              obtain ⟨gK, rfl⟩ : ∃ n : Nat, n = gk := ⟨_, rfl⟩
              obtain ⟨S, hS0⟩ : ∃ S, G[k]'(by omega) = S := ⟨_, rfl⟩
              have hSk : G[k]? = some S := by rw [List.getElem?_eq_getElem (by omega), hS0]
              obtain ⟨bo', oo', au2, cu2, eG, p1G, hrS, hSc, hcm2⟩ := hrG k S hSk
              cases eG
              have hbWK := bl_trans hb hbk
              have p1 := keep_cell hbWK p1G
              obtain ⟨i1, hf1, X1⟩ := grp_at ((rightL_iff ls).2 (two_right H2.out)) (wo := [p, q]) (by rw [← HG.out]; exact hSk)
              have hsh := grp_share (two_right H2.out) HX.out X1 (grp_differ Hf0.out hf1 (by omega))
              have hSl : S.length ≤ 100 := by have := X1.sub.length_le; omega
              have hRl : R.length ≤ 100 := by omega
              have hkG : k < G.length := by omega
              obtain ⟨zs, hzs⟩ : ∃ zs, zs = sharedL (vertsL R) (vertsL S) := ⟨_, rfl⟩
              have hzl : zs.length ≤ 40000 := by
                have h1 := shared_len (vertsL R) (vertsL S)
                have h3 := vertsL_length R
                have h4 := vertsL_length S
                have h5 : (vertsL R).length * (vertsL S).length ≤ 200 * 200 := Nat.mul_le_mul (by omega) (by omega)
                rw [hzs]; omega
              rw [← hzs] at hsh
              have Hsh := Lib.hid hsh; have Hzs := Lib.hid hzs
              clear hsh hzs hSk hS0 X1 hf1
              go_wp2_with fail
              refine (shared_walk (some ⟨b1, o1, none⟩) au2 cu cu2 R S _ (hrR.below hbWK) (hrS.below hbWK) hRl hSl).mono ?_
              rw [← Hzs.out]
              rintro e w6 ⟨az, cz, rfl, hrz, _, _, _, hb6⟩
              have hbk6 := bl_trans hbk hb6
              clear hb6
              go_wp2_with fail
              go_loopg [88] zs.length (fun r jv wj => ∃ j : Nat, j + r = zs.length ∧ jv = .int .i64 j ∧ w6 = wj)
              case atStart => exact ⟨0, by omega, rfl, rfl⟩
              case round =>
                obtain ⟨j, hj, rfl, rfl⟩ := hrel
                have Hj := Lib.hid hj
                by_cases hjl : j < zs.length
                · clear hj
                  obtain ⟨b2, o3, eaz, d0⟩ := hrz.at j hjl
                  obtain ⟨v, hv⟩ : ∃ v, zs[j] = v := ⟨_, rfl⟩
                  rw [hv] at d0
                  have hva := Hsh.out v (by rw [← hv]; exact List.getElem_mem _)
                  subst eaz
                  clear hv
                  by_cases e1 : v = p
                  · have q1 : (v != p) = false := by simpa using e1
                    clear hva e1
                    go_wp2_with fail
                    go_roundg (gk - 1)
                    case measure => have := Hj.out; omega
                    case rel => exact ⟨j + 1, by have := Hj.out; omega, by go_num, rfl⟩
                  · have q1 : (v != p) = true := by simpa using e1
                    have e2 : v = q := hva.resolve_left e1
                    have q2 : (v != q) = false := by simpa using e2
                    clear hva e1 e2
                    go_wp2_with fail
                    go_roundg (gk - 1)
                    case measure => have := Hj.out; omega
                    case rel => exact ⟨j + 1, by have := Hj.out; omega, by go_num, rfl⟩
                · have hjn : j = zs.length := by omega
                  subst hjn
                  clear hj
                  go_wp2_with fail
                  go_roundg (gK - 1)
                  case measure => have := Hk.out; omega
                  case rel => exact ⟨k + 1, by have := Hk.out; omega, by go_num, hbk6⟩
            · have hkm2 : k = m := by omega
              subst hkm2
              clear hk
              have hbW := bl_trans hb hbk
              have hrR2 := hrR.below hbW
              have hbE := bl_alloc wr (.cells #[] 29)
              have hown0 : Own (wr.alloc (.cells #[] 29)) (.slice (some ⟨wr.heap.size, 0, none⟩) 0 0) 29 3 0 [] :=
                (row_new wr #[] 29 3 0 rfl (by unfold maxLen; omega)).own rfl (Nat.le_refl _)
              have hnews : ∀ (j : Nat) v, (lkCells R)[j]? = some v → (wr.alloc (.cells #[] 29)).cell? ((⟨b1, o1, none⟩ : Addr).add j) = some v := fun j v hj => by
                obtain ⟨b', o', e1, e2⟩ := (hrR2.below hbE) j v hj
                cases e1
                rw [addr_add]; exact e2
              have Hone := Lib.hid (lkCells_one R); have Hnews := Lib.hid hnews; have Hlen := Lib.hid (lkCells_length R)
              clear hnews
              go_wp2_with (at_builtin; refine wpList_append_row _ rfl (.tmp 102) (.tmp 103) 22 rfl 29 (.agg #[.int .i64 0, .int .i64 0, .int .i64 0]) 3 24 Try.underlying22 link_info rfl (.slice (some ⟨wr.heap.size, 0, none⟩) 0 0) 0 [] rfl hown0 ⟨b1, o1, none⟩ R.length cu (lkCells R) rfl Hlen.out Hnews.out Hone.out (by omega) (by unfold maxLen; omega) (by omega) ?_)
              intro g5 c5 w5 hr5 hc5 hg5 hor5
              have hb5 : Below wK.heap.size wK w5 := (bl_trans hbk hbE).grown hg5 (by have := (bl_trans hbk hbE).size; exact this) (fun j hj => by cases hj; exact hbk.size)
              have hg6 : wK.heap.size ≤ g5 := by
                have := hbk.size
                rcases hor5 with h | h
                · cases h; exact this
                · first | omega | (simp at h; omega)
              try rw [List.nil_append] at hr5
              try rw [Nat.zero_add] at hc5
              try rw [Nat.zero_add]
              have hown5 : Own w5 (.slice (some ⟨g5, 0, none⟩) R.length c5) 29 3 R.length (lkCells R) := hr5.own Hlen.out hc5
              have hownA : Own (w5.alloc (.cells #[.int .i64 p, .int .i64 q, .int .i64 1048576] 29)) (.slice (some ⟨g5, 0, none⟩) R.length c5) 29 3 R.length (lkCells R) := hown5.alloc _
              have Hn3 := Lib.hid (news3 w5 29 p q 1048576); have Ho3 := Lib.hid (one3 p q 1048576)
              clear hown0 hr5 hg5 hor5 hown5 Hnews Hone Hlen
              go_wp2_with (at_builtin; refine wpList_append_row _ rfl (.tmp 104) (.tmp 108) 22 rfl 29 (.agg #[.int .i64 0, .int .i64 0, .int .i64 0]) 3 24 Try.underlying22 link_info rfl (.slice (some ⟨g5, 0, none⟩) R.length c5) R.length _ rfl hownA ⟨w5.heap.size, 0, none⟩ 1 1 [.int .i64 p, .int .i64 q, .int .i64 1048576] rfl rfl Hn3.out Ho3.out (by omega) (by unfold maxLen; omega) (by omega) ?_)
              intro g7 c7 w7 hr7 hc7 hg7 hor7
              have hb7 : Below wK.heap.size wK w7 := (bl_trans hb5 (bl_alloc _ _)).grown hg7 (by have := (bl_trans hb5 (bl_alloc w5 (.cells #[.int .i64 p, .int .i64 q, .int .i64 1048576] 29))).size; exact this) (fun j hj => by cases hj; exact hg6)
              have hrd7 : RdL w7 (some ⟨g7, 0, none⟩) (R ++ [linkAB p q]) := by
                have h1 : Row w7 g7 29 3 c7 (lkCells (R ++ [linkAB p q])) := by rw [lkCells_append]; exact hr7
                exact h1.at_
              have hRl1 : (R ++ [linkAB p q]).length = R.length + 1 := by simp
              have hcr := fun h => closed_two H2.out Hpm.out Hqm.out Hpq.out HX.out h
              obtain ⟨C, hC⟩ : ∃ C, C = closedL R p q := ⟨_, rfl⟩
              have hCl : C.length ≤ 41 := by rw [hC]; unfold closedL; rw [sortL_length, hRl1]; omega
              have hsw := sorted_walk (some ⟨g7, 0, none⟩) c7 (R ++ [linkAB p q]) w7 hrd7 (by rw [hRl1]; omega)
              rw [show sortL (R ++ [linkAB p q]) = closedL R p q from rfl, ← hC, hRl1] at hsw
              rw [← hC] at hcr
              have Hsw := Lib.hid hsw; have Hcr := Lib.hid hcr
              clear hr7 hg7 hor7 hownA hrd7 hRl1 hsw hcr hC Hn3 Ho3
              go_wp2_with fail
              refine Hsw.out.mono ?_
              rintro e w8 ⟨v8, rfl, ho8, _, hb8⟩
              obtain ⟨a8, c8, rfl, hr8, _, _, _⟩ := ho8.read
              have hb78 := bl_trans hb7 hb8
              clear ho8 hb8 Hsw
              go_wp2_with fail
              refine (two_walk a8 c8 C _ hr8 (by omega)).mono ?_
              cases htc : twoL C with
              | true =>
                rintro e w9 ⟨rfl, hb9⟩
                have hb79 := bl_trans hb78 hb9
                clear htc hb9
                go_wp2_with fail
                go_roundg (gO - 1)
                case measure => have := Hm.out; omega
                case rel => exact ⟨k + 1, by have := Hm.out; omega, by go_num, by rw [Hst.out]; go_num, bl_trans hb hb79⟩
              | false =>
                have hrc : rightL C = false := by
                  cases h : rightL C with
                  | false => rfl
                  | true => rw [Hcr.out h] at htc; cases htc
                rintro e w9 ⟨rfl, hb9⟩
                have hb79 := bl_trans hb78 hb9
                have Hrc := Lib.hid hrc
                have hr9 := hr8.below hb9
                clear htc hb9 hrc
                go_wp2_with fail
                refine (lright_walk a8 c8 C _ hr9 (by omega)).mono ?_
                rw [Hrc.out]
                rintro e w10 ⟨rfl, hb10⟩
                have hb80 := bl_trans hb79 hb10
                clear hb10
                go_wp2_with fail
                go_roundg (gO - 1)
                case measure => have := Hm.out; omega
                case rel => exact ⟨k + 1, by have := Hm.out; omega, by go_num, by rw [Hst.out]; go_num, bl_trans hb hb80⟩
        · have hmG : m = G.length := by omega
          subst hmG
          rw [List.take_length, Hsum.out]
          have hB9 := bl_trans hB4 hb
          have hll : ((ls.length : Int) == (ls.length : Int)) = true := by simp
          clear hm
          go_wp2_with fail
          refine (awake13_walk _).mono ?_
          rintro e wz ⟨rfl, hbz⟩
          go_wp2_with fail
          go_ret
          exact ⟨rfl, bl_trans hB9 hbz⟩
namespace pairClasses
open Go Go.RowKit Go.ChangeShapes Go.WideShapes Go.ChangeAt
set_option maxRecDepth 100000 in
theorem lifted (os : Os) (started : os.Started) (H : Type) (enc : TypeId × Value → H) :
    ReturnsInHanded {} Try.checked os 9 .any (Rows.pairClassesSpec.pre6 enc Try.prog Try.f9 Rows.pairClassesRow.domain false) (Rows.pairClassesSpec.post enc Try.prog Try.f9 false true false false) := by
  refine returnsInHanded_of_change (C := Try.checked) rowOwn started (by kernel_rfl) Try.func9
    (ChangeSpec.witness6 (enc := enc) (C := Try.checked) false ⟨#[], #[.slice none 0 0, .int .u8 0, .int .u8 0], []⟩ 8 (by kernel_rfl) (by kernel_rfl) (by kernel_rfl) (by kernel_rfl)) ?_
  intro W base args ds gs before hval0 hW hcnd _
  have hval : ∀ (j : Nat) t v, Try.f9.params[j]? = some t → args[j]? = some v → Value.okWide Try.prog W .any base t v := hval0
  have hW' := hW
  obtain ⟨p, q, hA0, hV, rfl, hfz, hnd⟩ := hW
  have hA : DataW.TrodAll enc Try.prog W 0 (fun _ => true) true Try.f9.params.toList args.toList ds p := hA0
  rw [Try.params9] at hA hval
  obtain ⟨v0, vs0, d0, ds0, p0, q0, hargs, rfl, rfl, h0, r0⟩ := trodAll_cons hA
  obtain ⟨v1, vs1, d1, ds1, p1, q1, rfl, rfl, rfl, h1, r1⟩ := trodAll_cons r0
  obtain ⟨v2, vs2, d2, ds2, p2, q2, rfl, rfl, rfl, h2, r2⟩ := trodAll_cons r1
  obtain ⟨rfl, rfl, rfl⟩ := trodAll_nil r2
  obtain rfl : args = #[v0, v1, v2] := by cases args; simp_all
  obtain ⟨rfl, rfl⟩ := trodVars_none hV
  have k0 := h0
  have lt0 : ∀ x ∈ p0, x.block < W.heap.size := by obtain ⟨m, hm⟩ := k0; exact DataW.trod_lt m _ _ _ hm
  obtain ⟨a0, cap0, es0, rfl, rd0, hl0, hm0, wn0⟩ := open_links (hval 0 22 v0 rfl rfl) h0
  obtain ⟨x1, rfl, rfl, rfl, wn1⟩ := open_int Try.underlying5 (hval 1 5 v1 rfl rfl) h1
  obtain ⟨x2, rfl, rfl, rfl, wn2⟩ := open_int Try.underlying5 (hval 2 5 v2 rfl rfl) h2
  clear hA0 hval0
  refine (pairClasses_walk a0 cap0 es0 x1 x2 W rd0 hl0 hm0 wn0 wn1 wn2).mono fun e W' ⟨he, bel⟩ => ?_
  subst he
  exact ⟨_, rfl, _, _, _, [], _, [], hW', trodAll_mk1 (shut_bool Try.underlying4 _), (trodAll_cons_mk (Below.trod rowLaid (by kernel_rfl) (of_decide_eq_true (by kernel_rfl)) k0 bel lt0) (trodAll_cons_mk (shut_int Try.underlying5 wn1) (trodAll_cons_mk (shut_int Try.underlying5 wn2) trodAll_mk0))), rfl, bel.frame _, fun h => by cases h⟩
theorem over : Rows.pairClassesRow.holds Try.pinned (OpenSpec.ofChange Rows.pairClassesSpec) :=
  OpenClaim.holds_of_wide 9 Try.f9 rfl rfl rfl rfl rfl rfl rfl ⟨rfl, rfl, rfl, rfl, rfl⟩ rfl rfl rfl rfl rfl (by kernel_rfl) Try.func9 (by kernel_rfl)
    (of_decide_eq_true (by kernel_rfl)) (by unfold Func.isWrapper; first | (rw [if_pos (by decide +kernel)]; kernel_rfl) | (rw [if_neg (by decide +kernel)]; exact ⟨rfl, rfl⟩))
    (fun os started H enc _ => lifted os started H enc)
/-- The statement. -/
theorem proved : Rows.PairClassesSaid := over
#print axioms proved
end pairClasses
end Go.Proofs.Ytagjakgbmmbmhaa
