/- The law SplitNames: two-connected links without virtual ones (at most 40; of all others only the chapter's examples are asked) split from one number on, and from another one, fall into the same parts, but for the numbers. It holds for every input. -/
import Derived.Test.YtagcbnpahgfgmaaSpA
import Derived.Test.YtagcbnpahgfgmaaRowL
namespace Go.Proofs.Ytagcbnpahgfgmaa
open Go Go.RowKit Go.ChangeShapes Go.WideShapes Go.ChangeAt Go.Joins Go.Deep

theorem map_get {f : List Lk → List Lk} {out : List (List Lk)} {i : Nat} {r : List Lk} (h : out[i]? = some r) : (out.map f)[i]? = some (f r) := by rw [List.getElem?_map, h]; rfl
theorem SplitTo.bound {a : Int} {ls : List Lk} (ha : 1 ≤ a ∧ a ≤ 1000) (hv : ∀ k ∈ ls, k.2.2 = 0) (hl : ls.length ≤ 40) {out : List (List Lk)} {n : Int} (h : SplitTo ls a out n) : a ≤ n ∧ n ≤ a + 999 := by
  obtain ⟨k, hk⟩ := h
  have hinv : SpS.Inv a ⟨[ls], [], a⟩ := ⟨fun t ht => by
    simp at ht; subst ht
    exact fun k hk => .inl (hv k hk), fun t ht => by simp at ht, Int.le_refl _, by simp [fmL]; omega⟩
  obtain ⟨_, h2⟩ := steps_sh (a := a) (d := 0) ha (by omega) k _ hinv
  rw [hk] at h2
  have h3 := h2.lo
  have h4 := h2.hi
  simp [fmL] at h3 h4
  omega
set_option maxRecDepth 100000 in
set_option maxHeartbeats 8000000 in
theorem splitNames_walk (a : Option Addr) (cap : Nat) (ls : List Lk) (x y : Int) (w : World) (hr : RdL w a ls) (hl : ls.length ≤ cap) (hm : cap ≤ maxLen) (_hw : ∀ k ∈ ls, WfZ k.1 ∧ WfZ k.2.1 ∧ WfZ k.2.2) (hx : (Lit.int .u16 x).wf = true) (hy : (Lit.int .u16 y).wf = true) :
    Calls Try.prog 3 #[.slice a ls.length cap, .int .u16 x, .int .u16 y] w (RetT w true) := by
  have hcap : ls.length ≤ 9223372036854775807 := by unfold maxLen at hm; omega
  have hx' : 0 ≤ x ∧ x ≤ 65535 := Go.bounds_u16 hx
  have hy' : 0 ≤ y ∧ y ≤ 65535 := Go.bounds_u16 hy
  clear _hw hm hl hx hy
  obtain ⟨x0, x1⟩ := hx'
  obtain ⟨y0, y1⟩ := hy'
  have HW := Lib.hid (awake14_walk)
  go_enter Try.func3, Try.ntmps3
  go_wp2_with fail
  go_loopg [22] ls.length (fun r iv wj => ∃ i : Nat, i + r = ls.length ∧ iv = .int .i64 i ∧ (∀ j (h : j < ls.length), j < i → ls[j].2.2 = 0) ∧ w = wj)
  case atStart => exact ⟨0, by omega, rfl, fun j h hj => absurd hj (by omega), rfl⟩
  case round =>
    obtain ⟨i, hi, rfl, hall, rfl⟩ := hrel
    have Hi := Lib.hid hi; have Hall := Lib.hid hall
    clear hall
    by_cases hil : i < ls.length
    · clear hi
      obtain ⟨b, o, rfl, c0, c1, c2⟩ := hr.at i hil
      obtain ⟨⟨p, q, v⟩, hp⟩ : ∃ k : Lk, ls[i] = k := ⟨_, rfl⟩
      rw [hp] at c0 c1 c2
      simp only at c0 c1 c2
      have Hp := Lib.hid hp
      clear hp
      by_cases hv : v = 0
      · have hnx : ∀ j (h : j < ls.length), j < i + 1 → ls[j].2.2 = 0 := fun j h hj => by
          by_cases e : j < i
          · exact Hall.out j h e
          · obtain rfl : j = i := by omega
            rw [Hp.out]; exact hv
        have Hnx := Lib.hid hnx
        have hvb : (v != 0) = false := by simp [hv]
        clear hnx hv
        go_wp2_with fail
        go_roundg (gk - 1)
        case measure => have := Hi.out; omega
        case rel => exact ⟨i + 1, by have := Hi.out; omega, by go_num, Hnx.out, rfl⟩
      · have hvb : (v != 0) = true := by simpa using hv
        clear hv
        go_wp2_with fail
        refine (HW.out _).mono ?_
        rintro e w2 ⟨rfl, hb2⟩
        go_wp2_with fail
        go_ret
        exact ⟨rfl, hb2⟩
    · have hin : i = ls.length := by omega
      subst hin
      have hv0 : ∀ k ∈ ls, k.2.2 = 0 := fun k hk => by
        obtain ⟨j, hj, rfl⟩ := List.getElem_of_mem hk
        exact Hall.out j hj hj
      have Hv0 := Lib.hid hv0
      clear Hall hv0 hi
      by_cases h40 : 40 < ls.length
      · have g0 : decide ((40 : Int) < (ls.length : Int)) = true := by simp; omega
        clear h40
        go_wp2_with fail
        refine (HW.out _).mono ?_
        rintro e w2 ⟨rfl, hb2⟩
        go_wp2_with fail
        go_ret
        exact ⟨rfl, hb2⟩
      have g0 : decide ((40 : Int) < (ls.length : Int)) = false := by simp; omega
      have hl40 : ls.length ≤ 40 := by omega
      clear h40
      cases h2 : twoL ls with
      | false =>
        have H2 := Lib.hid h2; clear h2
        go_wp2_with fail
        refine (two_walk a cap ls _ hr hcap).mono ?_
        rw [H2.out]
        rintro e w1 ⟨rfl, hb1⟩
        go_wp2_with fail
        refine (HW.out _).mono ?_
        rintro e w2 ⟨rfl, hb2⟩
        go_wp2_with fail
        go_ret
        exact ⟨rfl, bl_trans hb1 hb2⟩
      | true =>
        have H2 := Lib.hid h2; clear h2
        go_wp2_with fail
        refine (two_walk a cap ls _ hr hcap).mono ?_
        rw [H2.out]
        rintro e w1 ⟨rfl, hb1⟩
        have hr1 := hr.below hb1
        obtain ⟨A, hA⟩ : ∃ A, A = 1 + x % 1000 := ⟨_, rfl⟩
        obtain ⟨B, hB⟩ : ∃ B, B = 1 + y % 1000 := ⟨_, rfl⟩
        have hA1 : 1 ≤ A ∧ A ≤ 1000 := by omega
        have hB1 : 1 ≤ B ∧ B ≤ 1000 := by omega
        go_wp2_with fail
        rw [← hA, ← hB]
        have HA := Lib.hid hA; have HB := Lib.hid hB
        clear hA hB x0 x1 y0 y1
        refine (split_walk a cap ls A _ hr1 H2.out hA1.1 (by omega) (fun k hk => by rw [Hv0.out k hk]; omega)).mono ?_
        rintro e w3 ⟨ap, cp, P, n, rfl, hp, hsp, hPl, hPr, hb3⟩
        have hB3 := bl_trans hb1 hb3
        have hr3 := hr1.below hb3
        have hnb := hsp.bound hA1 Hv0.out hl40
        have Hsp := Lib.hid hsp; have HPr := Lib.hid hPr
        clear hsp hPr hb3 hr1
        go_wp2_with fail
        refine (split_walk a cap ls B _ hr3 H2.out hB1.1 (by omega) (fun k hk => by rw [Hv0.out k hk]; omega)).mono ?_
        rintro e w4 ⟨aq, cq, Q, m, rfl, hq, hsq, _, _, hb4⟩
        obtain ⟨D, hD⟩ : ∃ D, D = B - A := ⟨_, rfl⟩
        have hBD : B = A + D := by omega
        obtain ⟨hsh, hgood⟩ := Hsp.out.shift (d := D) hA1 (by omega) Hv0.out hl40
        rw [← hBD] at hsh
        obtain ⟨rfl, hm⟩ := hsq.one hsh
        have hmb : B ≤ m ∧ m ≤ B + 999 := by omega
        have hB4 := bl_trans hB3 hb4
        clear hb1
        have hp4 := hp.below hb4
        have Hm := Lib.hid hm; have HD := Lib.hid hBD; have Hgood := Lib.hid hgood; have HB1' := Lib.hid hB1; have HA1' := Lib.hid hA1
        have z1 : ((n - A) != (m - B)) = false := by simp; omega
        have z2 : ((P.length : Int) != (P.length : Int)) = false := by simp
        have z3 : (0 : Int) ≤ n - A := by omega
        have z4 : n - A ≤ 999 := by omega
        have z5 : (0 : Int) ≤ m - B := by omega
        have z6 : m - B ≤ 999 := by omega
        have i1 : IntKind.i64.wrap (n - A) = n - A := IntWalk.i64_in _ (by omega)
        have i2 : IntKind.i64.wrap (m - B) = m - B := IntWalk.i64_in _ (by omega)
        have hql : (P.map (List.map (shV D))).length = P.length := by simp
        clear hsq hsh hgood hm hD hBD hp hb4 hB3 hr3 Hsp hnb hmb hA1 hB1
        rw [hql]
        clear hql
        go_wp2_with fail
        go_loopg [88] P.length (fun r iv wj => ∃ i : Nat, i + r = P.length ∧ iv = .int .i64 i ∧ Below w4.heap.size w4 wj)
        case atStart => exact ⟨0, by omega, rfl, bl_refl _⟩
        case round =>
          obtain ⟨i, hi, rfl, hbj⟩ := hrel
          have Hii := Lib.hid hi
          by_cases hil2 : i < P.length
          · clear hi
            obtain ⟨R, hR⟩ : ∃ R, P[i] = R := ⟨_, rfl⟩
            have hRi : P[i]? = some R := by rw [List.getElem?_eq_getElem hil2, hR]
            obtain ⟨b0, o0, au, cu, rfl, p0, rp, _, _⟩ := (hp4.below hbj) i R hRi
            obtain ⟨b1, o1, av, cv, rfl, q0, rq, _, _⟩ := (hq.below hbj) i (R.map (shV D)) (map_get hRi)
            rw [List.length_map] at q0
            have hRm : R ∈ P := by rw [← hR]; exact List.getElem_mem _
            have hRl : R.length ≤ 1000 := HPr.out R hRm
            have hgR := Hgood.out R hRm
            have HgR := Lib.hid hgR
            have l0 : ((R.length : Int) != (R.length : Int)) = false := by simp
            have a1 : (i : Int) < (P.length : Int) := by omega
            clear hRi hR hgR hRm
            go_wp2_with fail
            go_quiet (fail)
            go_wp2_with fail
            obtain ⟨wo, hwo⟩ : ∃ wo : World, wo = wr.drewN nq := ⟨_, rfl⟩
            have hbo : Below wr.heap.size wr wo := by rw [hwo]; exact below_drewN (bl_refl wr) nq
            have hbj2 := bl_trans hbj hbo
            have rp2 := rp.below hbo
            have rq2 := rq.below hbo
            have q02 := keep_cell hbo q0
            have p02 := keep_cell hbo p0
            rw [← hwo]
            clear hwo rp rq q0 p0 hbo hbj
            go_wp2_with fail
            go_loopg [107] R.length (fun r kv wj => ∃ k : Nat, k + r = R.length ∧ kv = .int .i64 k ∧ Below wo.heap.size wo wj)
            case atStart => exact ⟨0, by omega, rfl, bl_refl _⟩
            case round =>
              obtain ⟨k, hk, rfl, hbk⟩ := hrel
              have Hk := Lib.hid hk
              have hbw := bl_trans hbj2 hbk
              by_cases hkl : k < R.length
              · clear hk
                obtain ⟨b2, o2, rfl, c0, c1, c2⟩ := (rp2.below hbk).at k hkl
                obtain ⟨b3, o3, rfl, d0, d1, d2⟩ := (rq2.below hbk).at k (by rw [List.length_map]; exact hkl)
                have q03 := keep_cell hbk q02
                have hgk := HgR.out _ (List.getElem_mem hkl)
                rw [List.getElem_map] at d0 d1 d2
                obtain ⟨⟨e1, e2, v⟩, he⟩ : ∃ z : Lk, R[k] = z := ⟨_, rfl⟩
                rw [he] at c0 c1 c2 d0 d1 d2 hgk
                unfold shV at d0 d1 d2
                simp only at c0 c1 c2 d0 d1 d2 hgk
                have k1 : (k : Int) < (R.length : Int) := by omega
                have y1 : (e1 != e1) = false := by simp
                have y2 : (e2 != e2) = false := by simp
                clear he
                by_cases hv : v = 0
                · subst hv
                  rw [if_pos rfl] at d2
                  clear hgk
                  have hba := bl_alloc wr (.cells #[.int .i64 e1, .int .i64 e2, .int .i64 0] 25)
                  have q04 := keep_cell hba q03
                  have d04 := keep_cell hba d0
                  have d14 := keep_cell hba d1
                  have d24 := keep_cell hba d2
                  clear q03 d0 d1 d2 hba
                  go_wp2_with fail
                  go_roundg (gk - 1)
                  case measure => have := Hk.out; omega
                  case rel => exact ⟨k + 1, by have := Hk.out; omega, by go_num, bl_trans (bl_trans hbk (bl_alloc _ _)) (bl_alloc _ _)⟩
                · rw [if_neg hv] at d2
                  have hg2 := hgk.resolve_left hv
                  obtain ⟨v2, hv2⟩ : ∃ v2, v2 = v + D := ⟨_, rfl⟩
                  rw [← hv2] at d2
                  have hA9 := HA1'.out; have hB9 := HB1'.out; have hD9 := HD.out
                  have y3 : (v == 0) = false := by simpa using hv
                  have y4 : decide (0 < v) = true := by simp; omega
                  have y5 : (v2 == 0) = false := by simp; omega
                  have y6 : ((v - A) != (v2 - B)) = false := by simp; omega
                  have y7 : IntKind.i64.wrap (v - A) = v - A := IntWalk.i64_in _ (by omega)
                  have y8 : IntKind.i64.wrap (v2 - B) = v2 - B := IntWalk.i64_in _ (by omega)
                  have hv3 : 0 < v := by omega
                  clear hA9 hB9 hD9 hg2 hgk hv hv2
                  have hba := bl_alloc wr (.cells #[.int .i64 e1, .int .i64 e2, .int .i64 v] 25)
                  have q04 := keep_cell hba q03
                  have d04 := keep_cell hba d0
                  have d14 := keep_cell hba d1
                  have d24 := keep_cell hba d2
                  clear q03 d0 d1 d2 hba
                  go_wp2_with fail
                  go_roundg (gk - 1)
                  case measure => have := Hk.out; omega
                  case rel => exact ⟨k + 1, by have := Hk.out; omega, by go_num, bl_trans (bl_trans hbk (bl_alloc _ _)) (bl_alloc _ _)⟩
              · clear hk
                go_wp2_with fail
                go_roundg (P.length - (i + 1))
                case measure => have := Hii.out; omega
                case rel => exact ⟨i + 1, by have := Hii.out; omega, by go_num, hbw⟩
          · clear hi
            go_wp2_with fail
            refine (HW.out _).mono ?_
            rintro e w5 ⟨rfl, hb5⟩
            go_wp2_with fail
            go_ret
            exact ⟨rfl, bl_trans (bl_trans hB4 hbj) hb5⟩
namespace splitNames
open Go Go.RowKit Go.ChangeShapes Go.WideShapes Go.ChangeAt
set_option maxRecDepth 100000 in
theorem lifted (os : Os) (started : os.Started) (H : Type) (enc : TypeId × Value → H) :
    ReturnsInHanded {} Try.checked os 3 .any (Rows.splitNamesSpec.pre6 enc Try.prog Try.f3 Rows.splitNamesRow.domain false) (Rows.splitNamesSpec.post enc Try.prog Try.f3 false true false false) := by
  refine returnsInHanded_of_change (C := Try.checked) rowOwn started (by kernel_rfl) Try.func3
    (ChangeSpec.witness6 (enc := enc) (C := Try.checked) false ⟨#[], #[.slice none 0 0, .int .u16 0, .int .u16 0], []⟩ 8 (by kernel_rfl) (by kernel_rfl) (by kernel_rfl) (by kernel_rfl)) ?_
  intro W base args ds gs before hval0 hW hcnd _
  have hval : ∀ (j : Nat) t v, Try.f3.params[j]? = some t → args[j]? = some v → Value.okWide Try.prog W .any base t v := hval0
  have hW' := hW
  obtain ⟨p, q, hA0, hV, rfl, hfz, hnd⟩ := hW
  have hA : DataW.TrodAll enc Try.prog W 0 (fun _ => true) true Try.f3.params.toList args.toList ds p := hA0
  rw [Try.params3] at hA hval
  obtain ⟨v0, vs0, d0, ds0, p0, q0, hargs, rfl, rfl, h0, r0⟩ := trodAll_cons hA
  obtain ⟨v1, vs1, d1, ds1, p1, q1, rfl, rfl, rfl, h1, r1⟩ := trodAll_cons r0
  obtain ⟨v2, vs2, d2, ds2, p2, q2, rfl, rfl, rfl, h2, r2⟩ := trodAll_cons r1
  obtain ⟨rfl, rfl, rfl⟩ := trodAll_nil r2
  obtain rfl : args = #[v0, v1, v2] := by cases args; simp_all
  obtain ⟨rfl, rfl⟩ := trodVars_none hV
  have k0 := h0
  have lt0 : ∀ x ∈ p0, x.block < W.heap.size := by obtain ⟨m, hm⟩ := k0; exact DataW.trod_lt m _ _ _ hm
  obtain ⟨a0, cap0, es0, rfl, rd0, hl0, hm0, wn0⟩ := open_links (hval 0 22 v0 rfl rfl) h0
  obtain ⟨x1, rfl, rfl, rfl, wn1⟩ := open_int Try.underlying23 (hval 1 23 v1 rfl rfl) h1
  obtain ⟨x2, rfl, rfl, rfl, wn2⟩ := open_int Try.underlying23 (hval 2 23 v2 rfl rfl) h2
  clear hA0 hval0
  refine (splitNames_walk a0 cap0 es0 x1 x2 W rd0 hl0 hm0 wn0 wn1 wn2).mono fun e W' ⟨he, bel⟩ => ?_
  subst he
  exact ⟨_, rfl, _, _, _, [], _, [], hW', trodAll_mk1 (shut_bool Try.underlying4 _), (trodAll_cons_mk (Below.trod rowLaid (by kernel_rfl) (of_decide_eq_true (by kernel_rfl)) k0 bel lt0) (trodAll_cons_mk (shut_int Try.underlying23 wn1) (trodAll_cons_mk (shut_int Try.underlying23 wn2) trodAll_mk0))), rfl, bel.frame _, fun h => by cases h⟩
theorem over : Rows.splitNamesRow.holds Try.pinned (OpenSpec.ofChange Rows.splitNamesSpec) :=
  OpenClaim.holds_of_wide 3 Try.f3 rfl rfl rfl rfl rfl rfl rfl ⟨rfl, rfl, rfl, rfl, rfl⟩ rfl rfl rfl rfl rfl (by kernel_rfl) Try.func3 (by kernel_rfl)
    (of_decide_eq_true (by kernel_rfl)) (by unfold Func.isWrapper; first | (rw [if_pos (by decide +kernel)]; kernel_rfl) | (rw [if_neg (by decide +kernel)]; exact ⟨rfl, rfl⟩))
    (fun os started H enc _ => lifted os started H enc)
/-- The statement. -/
theorem proved : Rows.SplitNamesSaid := over
#print axioms proved
end splitNames
end Go.Proofs.Ytagcbnpahgfgmaa
