/- fretworkref12.Sorted: each link is put into its place. -/
import Derived.Test.YtagjakgbmmbmhaaRL1
import Derived.Test.YtagjakgbmmbmhaaInsP
import Derived.Test.YtagjakgbmmbmhaaGrpM
namespace Go.Proofs.Ytagjakgbmmbmhaa
open Go Go.RowKit

theorem lkCells_set3 (ls : List Lk) (i : Nat) (h : i < ls.length) (a b c : Int) : (((lkCells ls).set (i * 3) (.int .i64 a)).set (i * 3 + 1) (.int .i64 b)).set (i * 3 + 2) (.int .i64 c) = lkCells (ls.set i (a, b, c)) := by
  induction ls generalizing i with
  | nil => simp at h
  | cons e ls ih =>
    cases i with
    | zero => simp [lkCells]
    | succ i =>
      have := ih i (by simpa using h)
      have e1 : (i + 1) * 3 = i * 3 + 1 + 1 + 1 := by omega
      simp only [lkCells, List.flatMap_cons, List.cons_append, List.nil_append, List.set_cons_succ] at this ⊢
      rw [e1]
      simp only [List.set_cons_succ]
      rw [this]
theorem Row.lkAt {w : World} {g cap : Nat} {e : TypeId} {ls : List Lk} (h : Row w g e 3 cap (lkCells ls)) (i : Nat) (hi : i < ls.length) :
    w.cell? ⟨g, i * 3, none⟩ = some (.int .i64 ls[i].1) ∧ w.cell? ⟨g, i * 3 + 1, none⟩ = some (.int .i64 ls[i].2.1) ∧ w.cell? ⟨g, i * 3 + 2, none⟩ = some (.int .i64 ls[i].2.2) := by
  obtain ⟨b1, b2, b3⟩ := lkCells_get ls i hi
  have hcl : i * 3 + 2 < (lkCells ls).length := by rw [lkCells_length]; omega
  exact ⟨by rw [h.cell? _ (by omega), b1], by rw [h.cell? _ (by omega), b2], by rw [h.cell? _ (by omega), b3]⟩


set_option maxHeartbeats 4000000 in
theorem refSorted12_walk (a : Option Addr) (cap : Nat) (ls : List Lk) (w : World) (hr : RdL w a ls) (hle : ls.length ≤ 100000) :
    Calls Try.prog 19 #[.slice a ls.length cap] w (RetLk w (sortL ls)) := by
  go_enter Try.func19, Try.ntmps19
  go_wp2_with fail
  go_loopg [3, 4] ls.length (fun r so i wr => ∃ (k : Nat) (vo : Value) (o : List Lk), vo = so ∧ k + r = ls.length ∧ i = .int .i64 k ∧ OwnL wr vo o ∧ o.Pairwise LeL ∧ o.Perm ((ls.take k).map swapL) ∧ (∀ g, vo.ownBlock = some g → w.heap.size ≤ g) ∧ Below w.heap.size w wr)
  case atStart => exact ⟨0, _, [], rfl, by omega, rfl, own_nil _ _ _, .nil, by simp, fun g hg => by simp [Value.ownBlock] at hg, bl_refl _⟩
  case round =>
    obtain ⟨k, vo, o, rfl, hk, rfl, hown, hos, hperm, hnew, hB⟩ := hrel
    by_cases hlt : k < ls.length
    · obtain ⟨b, off, rfl, c0, c1, c2⟩ := (hr.below hB).at k hlt
      have hst : (ls.take (k + 1)).map swapL = (ls.take k).map swapL ++ [swapL ls[k]] := by rw [List.take_succ_eq_append_getElem hlt, List.map_append]; rfl
      have hol : o.length = k := by rw [hperm.length_eq]; simp; omega
      have hok : o.length ≤ 100000 := by omega
      have hltn : ∀ g, vo.ownBlock = some g → g < wr.heap.size := fun g hg => hown.lt hg
      obtain ⟨⟨xx, yy, zz⟩, hx⟩ : ∃ x : Lk, ls[k] = x := ⟨_, rfl⟩
      rw [hx] at c0 c1 c2 hst
      simp only at c0 c1 c2
      have hszB := hB.size
      have Hk := Lib.hid hk; have Hos := Lib.hid hos; have Hperm := Lib.hid hperm; have Hnew := Lib.hid hnew; have Hol := Lib.hid hol; have Hlt := Lib.hid hltn; have Hown := Lib.hid hown; have HB0 := Lib.hid hB
      clear hk hos hperm hnew hx hol hltn hown hB
      obtain ⟨wA, rfl⟩ : ∃ wA : World, wA = wr := ⟨_, rfl⟩
      obtain ⟨gA, rfl⟩ : ∃ n : Nat, n = gk := ⟨_, rfl⟩
      obtain ⟨P, hP⟩ : ∃ P, P = wA.heap.size := ⟨_, rfl⟩
      have hTx : ∃ x y z : Int, swapL (xx, yy, zz) = (x, y, z) := ⟨_, _, _, rfl⟩
      obtain ⟨x, y, z, hsw⟩ := hTx
      rw [hsw] at hst
      have Hst := Lib.hid hst; clear hst
      go_upto_if 22 with (fail)
      go_cut [] (fun wx => wx.cell? ⟨wA.heap.size, 0, none⟩ = some (.int .i64 x) ∧ wx.cell? ⟨wA.heap.size, 1, none⟩ = some (.int .i64 y) ∧ wx.cell? ⟨wA.heap.size, 2, none⟩ = some (.int .i64 z) ∧ Below wA.heap.size wA wx ∧ wA.heap.size < wx.heap.size)
      case first =>
        by_cases hyx : yy < xx
        · have e1 : (yy, xx, zz) = (x, y, z) := by rw [← hsw]; simp [swapL, hyx]
          simp only [Prod.mk.injEq] at e1
          obtain ⟨rfl, rfl, rfl⟩ := e1
          clear hsw
          go_wp2_with fail
          go_meet
          refine ⟨by simp, by simp, by simp, ?_, by simp⟩
          exact bl_alloc _ _
        · have e1 : (xx, yy, zz) = (x, y, z) := by rw [← hsw]; simp [swapL, hyx]
          simp only [Prod.mk.injEq] at e1
          obtain ⟨rfl, rfl, rfl⟩ := e1
          clear hsw
          go_wp2_with fail
          go_meet
          exact ⟨by simp, by simp, by simp, bl_alloc _ _, by simp⟩
      case rest =>
      clear c0 c1 c2
      obtain ⟨k0, k1, k2, hbA, hszA⟩ := hcut
      rw [← hP] at k0 k1 k2 hszA ⊢
      have hownC : OwnL wc vo o := Hown.out.ext hbA
      obtain ⟨ao, co, rfl, hro, hrob, hco, hlco⟩ := hownC.read
      have hcol : o.length ≤ 9223372036854775807 := by omega
      have HB := Lib.hid (bl_trans HB0.out hbA)
      replace Hown := Lib.hid hownC
      have hPA : P = wA.heap.size := hP
      have hlt2 : ∀ g, (Value.slice ao o.length co).ownBlock = some g → g < P := by rw [hP]; exact Hlt.out
      replace Hlt := Lib.hid hlt2
      clear hlt2 hP hbA hownC hrob hPA HB0 hszB hsw
      go_wp2_with fail
      go_loopg [6] o.length (fun r t wi => ∃ q : Nat, q = r ∧ t = .int .i64 q ∧ q ≤ o.length ∧ (∀ j (h : j < o.length), q ≤ j → LtL (x, y, z) o[j]) ∧ Below wc.heap.size wc wi)
      case atStart => exact ⟨o.length, rfl, by go_num, by omega, fun j h hj => absurd h (by omega), bl_refl _⟩
      case round =>
        obtain ⟨q, hqr, rfl, hq, hbeh, hbi⟩ := hrel
        have d0 := keep_cell hbi k0
        have d1 := keep_cell hbi k1
        have d2 := keep_cell hbi k2
        have hos := Hos.out
        have Hqr := Lib.hid hqr; clear hqr
        by_cases hq0 : q = 0
        · have hfirst : q = 0 ∨ ∀ h : q - 1 < o.length, ¬ LtL (x, y, z) o[q-1] := .inl hq0
          have q6 : decide ((0 : Int) < (q : Int)) = false := by rw [hq0]; simp
          have q7 : decide (0 < q) = false := by rw [hq0]; simp
          clear hq0
          have Hbeh := Lib.hid hbeh; have Hfirst := Lib.hid hfirst; have Hos2 := Lib.hid hos
          clear hbeh hfirst hos
          go_wp2_with fail
          go_quiet (fail)
          go_upto_region 11 with (fail)
          have hbeh := Hbeh.out; have hfirst := Hfirst.out; have hos := Hos2.out
          have hbj : Below wc.heap.size wc (wr.drewN nq) := below_drewN hbi _
          have d0' : (wr.drewN nq).cell? ⟨P, 0, none⟩ = some (.int .i64 x) := d0
          have d1' : (wr.drewN nq).cell? ⟨P, 1, none⟩ = some (.int .i64 y) := d1
          have d2' : (wr.drewN nq).cell? ⟨P, 2, none⟩ = some (.int .i64 z) := d2
          clear hbi d0 d1 d2 q6 q7
          generalize wr.drewN nq = wi at hbj d0' d1' d2' ⊢
          -- all from q on come behind X; ¬ the one ahead
          have hXl : (shiftS o (x, y, z) q).length = o.length + 1 := shiftS_length _ _ _ hq
          have hput := putL_sorted hos hq hbeh hfirst
          have hprm := putL_perm o (x, y, z) q
          have Hput := Lib.hid hput; have Hprm := Lib.hid hprm; have HXl := Lib.hid hXl
          have hbW : Below w.heap.size w (wi.alloc (.cells #[.int .i64 x, .int .i64 y, .int .i64 z] 29)) := bl_trans (bl_trans HB.out hbj) (bl_alloc _ _)
          have hownZ : Own (wi.alloc (.cells #[.int .i64 x, .int .i64 y, .int .i64 z] 29)) (.slice ao o.length co) 29 3 o.length (lkCells o) := (Hown.out.ext hbj).alloc _
          have hone3 : ∀ u ∈ [Value.int .i64 x, Value.int .i64 y, Value.int .i64 z], u.oneCell' = true := by intro u hu; simp only [List.mem_cons, List.not_mem_nil, or_false] at hu; rcases hu with rfl | rfl | rfl <;> rfl
          have hnews3 : ∀ (j : Nat) v, [Value.int .i64 x, Value.int .i64 y, Value.int .i64 z][j]? = some v → (wi.alloc (.cells #[.int .i64 x, .int .i64 y, .int .i64 z] 29)).cell? ((⟨wi.heap.size, 0, none⟩ : Addr).add j) = some v := by
            intro j v hj
            match j with
            | 0 => simp at hj; subst hj; simp [Addr.add]
            | 1 => simp at hj; subst hj; simp [Addr.add]
            | 2 => simp at hj; subst hj; simp [Addr.add]
            | j + 3 => simp at hj
          have u0 := keep_cell (bl_alloc wi (.cells #[.int .i64 x, .int .i64 y, .int .i64 z] 29)) d0'
          have u1 := keep_cell (bl_alloc wi (.cells #[.int .i64 x, .int .i64 y, .int .i64 z] 29)) d1'
          have u2 := keep_cell (bl_alloc wi (.cells #[.int .i64 x, .int .i64 y, .int .i64 z] 29)) d2'
          have hwsz := hbj.size
          have Hone3 := Lib.hid hone3; have Hnews3 := Lib.hid hnews3; have Hq := Lib.hid hq; have HbW := Lib.hid hbW
          have Hu := Lib.hid (And.intro u0 (And.intro u1 u2))
          clear hone3 hnews3 hput hprm hXl hbeh hfirst hbW u0 u1 u2
          go_wp2_with (at_builtin; refine wpList_append_row _ rfl (.tmp 44) (.tmp 46) 22 rfl 29 (.agg #[.int .i64 0, .int .i64 0, .int .i64 0]) 3 24 Try.underlying22 link_info rfl _ o.length _ rfl hownZ ⟨wi.heap.size, 0, none⟩ 1 1 [.int .i64 x, .int .i64 y, .int .i64 z] rfl rfl Hnews3.out Hone3.out (by omega) (by unfold maxLen; omega) (by omega) ?_)
          intro g5 c5 w5 hr5 hc5 hg5 hor5
          have hb5 : Below w.heap.size w w5 := HbW.out.grown hg5 (by have := HbW.out.size; exact this) (fun j hj => Hnew.out j hj)
          have hg6 : w.heap.size ≤ g5 := by
            rcases hor5 with h | h
            · exact Hnew.out g5 h
            · have := HB.out.size; omega
          have hgne : g5 ≠ P := by
            rcases hor5 with h | h
            · have := Hlt.out g5 h; omega
            · omega
          have hPne : (Value.slice ao o.length co).ownBlock ≠ some P := fun h => by have := Hlt.out P h; omega
          have v0 := grown_cell hg5 Hu.out.1 hPne
          have v1 := grown_cell hg5 Hu.out.2.1 hPne
          have v2 := grown_cell hg5 Hu.out.2.2 hPne
          have hr6 : Row w5 g5 29 3 c5 (lkCells (shiftS o (x, y, z) o.length)) := by
            rw [shiftS_full, lkCells_append]; exact hr5
          clear hr5 hg5 hor5 hownZ hPne d0' d1' d2' hbj
          obtain ⟨gB, rfl⟩ : ∃ n : Nat, n = gk := ⟨_, rfl⟩
          go_wp2_with fail
          go_loopg [7] (o.length - q) (fun r t wj => ∃ m : Nat, t = .int .i64 m ∧ m = q + r ∧ m ≤ o.length ∧ Row wj g5 29 3 c5 (lkCells (shiftS o (x, y, z) m)) ∧ wj.cell? ⟨P, 0, none⟩ = some (.int .i64 x) ∧ wj.cell? ⟨P, 1, none⟩ = some (.int .i64 y) ∧ wj.cell? ⟨P, 2, none⟩ = some (.int .i64 z) ∧ Below w.heap.size w wj)
          case atStart => exact ⟨o.length, by go_num, by have := Hq.out; omega, by omega, hr6, v0, v1, v2, hb5⟩
          case round =>
            clear hr6 v0 v1 v2 hb5
            obtain ⟨m, rfl, hmr, hmo, hrw, v0, v1, v2, hbm⟩ := hrel
            obtain ⟨L, hL⟩ : ∃ L, L = shiftS o (x, y, z) m := ⟨_, rfl⟩
            have hLl : L.length = o.length + 1 := by rw [hL]; exact shiftS_length _ _ _ hmo
            rw [← hL] at hrw
            have hgl := hrw.lt
            by_cases hmq : m = q
            · subst hmq
              obtain ⟨d0, d1, d2⟩ := hrw.lkAt m (by omega)
              have f0 := hrw.frozen (m * 3)
              have f1 := hrw.frozen (m * 3 + 1)
              have f2 := hrw.frozen (m * 3 + 2)
              have hset := lkCells_set3 L m (by omega) x y z
              have hend : L.set m (x, y, z) = o.take m ++ (x, y, z) :: o.drop m := by rw [hL]; exact shiftS_end _ _ _ hmo
              rw [hend] at hset
              have Hset := Lib.hid hset; have Hmr := Lib.hid hmr
              have hml : m < o.length + 1 := by omega
              clear hset hend hmr hL
              obtain ⟨e0, he0⟩ : ∃ e, e = L[m].1 := ⟨_, rfl⟩
              obtain ⟨e1, he1⟩ : ∃ e, e = L[m].2.1 := ⟨_, rfl⟩
              obtain ⟨e2, he2⟩ : ∃ e, e = L[m].2.2 := ⟨_, rfl⟩
              rw [← he0] at d0; rw [← he1] at d1; rw [← he2] at d2
              clear he0 he1 he2
              go_wp2_with fail
              go_roundg (gA - 1)
              case measure => have := Hk.out; omega
              case rel =>
                have hNl : (o.take m ++ ((x, y, z) : Lk) :: o.drop m).length = o.length + 1 := by simp; omega
                refine ⟨k + 1, _, _, rfl, by have := Hk.out; omega, by go_num, ?_, Hput.out, ?_, fun g hg => by cases hg; exact hg6, ?_⟩
                · unfold OwnL
                  rw [hNl]
                  have h1 := ((hrw.set (m * 3) (.int .i64 x)).set (m * 3 + 1) (.int .i64 y)).set (m * 3 + 2) (.int .i64 z)
                  rw [Hset.out] at h1
                  exact h1.own (by rw [lkCells_length, hNl]) hc5
                · rw [Hst.out]
                  exact Hprm.out.trans (Hperm.out.append_right _)
                · exact ((hbm.setCell (by simpa using hg6) _).setCell (by simpa using hg6) _).setCell (by simpa using hg6) _
            · obtain ⟨j, hj⟩ : ∃ j, m = j + 1 := ⟨m - 1, by omega⟩
              have hjo : j < o.length := by omega
              obtain ⟨c0, c1, c2⟩ := hrw.lkAt j (by omega)
              have hLj : L[j]'(by omega) = o[j] := by
                have := shiftS_prev o (x, y, z) j hjo
                rw [← hj, ← hL, List.getElem?_eq_getElem (by omega)] at this
                exact Option.some.inj this
              rw [hLj] at c0 c1 c2
              obtain ⟨d0, d1, d2⟩ := hrw.lkAt m (by omega)
              obtain ⟨⟨x1, y1, z1⟩, hx1⟩ : ∃ e : Lk, o[j] = e := ⟨_, rfl⟩
              rw [hx1] at c0 c1 c2
              simp only at c0 c1 c2
              have f0 := hrw.frozen (m * 3)
              have f1 := hrw.frozen (m * 3 + 1)
              have f2 := hrw.frozen (m * 3 + 2)
              have hset := lkCells_set3 L m (by omega) x1 y1 z1
              have hend : L.set m (x1, y1, z1) = shiftS o (x, y, z) j := by rw [hL, hj, ← hx1]; exact shiftS_step _ _ _ hjo
              rw [hend] at hset
              have i1 : IntKind.i64.wrap ((m : Int) - 1) = (j : Int) := by rw [show ((m : Int) - 1) = (j : Int) by omega]; exact IntWalk.i64_in _ (by omega)
              have i2 : m < o.length + 1 := by omega
              have i3 : j < o.length + 1 := by omega
              have i4 : q < m := by omega
              have i5 : (j : Int) < (o.length : Int) + 1 := by omega
              have hmr2 : j = q + (gk - 1) ∧ gk - 1 < gk := by omega
              have Hset := Lib.hid hset; have Hmr := Lib.hid hmr2
              obtain ⟨e0, he0⟩ : ∃ e, e = L[m].1 := ⟨_, rfl⟩
              obtain ⟨e1, he1⟩ : ∃ e, e = L[m].2.1 := ⟨_, rfl⟩
              obtain ⟨e2, he2⟩ : ∃ e, e = L[m].2.2 := ⟨_, rfl⟩
              rw [← he0] at d0; rw [← he1] at d1; rw [← he2] at d2
              clear he0 he1 he2 hset hend hmr hmr2 hj hL hLj hx1 hmq
              go_wp2_with fail
              go_roundg (gk - 1)
              case measure => exact Hmr.out.2
              case rel =>
                refine ⟨j, rfl, Hmr.out.1, by omega, ?_, ?_, ?_, ?_, ((hbm.setCell (by simpa using hg6) _).setCell (by simpa using hg6) _).setCell (by simpa using hg6) _⟩
                · have h1 := ((hrw.set (m * 3) (.int .i64 x1)).set (m * 3 + 1) (.int .i64 y1)).set (m * 3 + 2) (.int .i64 z1)
                  rw [Hset.out] at h1
                  exact h1
                · rw [World.cell?_setCell_far _ _ _ _ (by simpa using hgne), World.cell?_setCell_far _ _ _ _ (by simpa using hgne), World.cell?_setCell_far _ _ _ _ (by simpa using hgne)]; exact v0
                · rw [World.cell?_setCell_far _ _ _ _ (by simpa using hgne), World.cell?_setCell_far _ _ _ _ (by simpa using hgne), World.cell?_setCell_far _ _ _ _ (by simpa using hgne)]; exact v1
                · rw [World.cell?_setCell_far _ _ _ _ (by simpa using hgne), World.cell?_setCell_far _ _ _ _ (by simpa using hgne), World.cell?_setCell_far _ _ _ _ (by simpa using hgne)]; exact v2
        · have hjo : q - 1 < o.length := by omega
          obtain ⟨bo, oo, e2, p0, p1, p2⟩ := (hro.below hbi).at (q - 1) hjo
          subst e2
          obtain ⟨⟨x1, y1, z1⟩, hx1⟩ : ∃ e : Lk, o[q-1] = e := ⟨_, rfl⟩
          rw [hx1] at p0 p1 p2
          simp only at p0 p1 p2
          obtain ⟨j, hj⟩ : ∃ j, j = q - 1 := ⟨_, rfl⟩
          rw [← hj] at p0 p1 p2
          have q6 : decide ((0 : Int) < (q : Int)) = true := by rw [decide_eq_true_eq]; omega
          have q7 : decide (0 < q) = true := by rw [decide_eq_true_eq]; omega
          have q8 : 0 < q := by omega
          have i1 : IntKind.i64.wrap ((q : Int) - 1) = (j : Int) := by rw [show ((q : Int) - 1) = (j : Int) by omega]; exact IntWalk.i64_in _ (by omega)
          have i2 : IntKind.i64.wrap (j : Int) = (j : Int) := IntWalk.i64_in _ (by omega)
          have i3 : (0 : Int) ≤ (j : Int) := by omega
          have i4 : (j : Int) < (o.length : Int) := by omega
          have i5 : j < o.length := by omega
          have hfst : ¬ LtL (x, y, z) (x1, y1, z1) → (q = 0 ∨ ∀ h : q - 1 < o.length, ¬ LtL (x, y, z) o[q-1]) := fun h => .inr fun h2 => by rw [hx1]; exact h
          have hnx : LtL (x, y, z) (x1, y1, z1) → ∀ t (h : t < o.length), j ≤ t → LtL (x, y, z) o[t] := fun h t ht hjt => by
            by_cases e : q ≤ t
            · exact hbeh t ht e
            · obtain rfl : t = q - 1 := by omega
              rw [hx1]; exact h
          have hjq : j + 1 = q := by omega
          have Hfst := Lib.hid hfst; have Hnx := Lib.hid hnx; have Hbeh := Lib.hid hbeh; have Hos2 := Lib.hid hos; have Hjq := Lib.hid hjq; have Hqo := Lib.hid hq
          clear hfst hnx hbeh hos hjq hx1 hj hq0 hq
          go_wp2_with fail
          go_region_held3 (fun w' => w'.cell? ⟨bo, oo + j * 3, none⟩ = some (.int .i64 x1) ∧ w'.cell? ⟨bo, oo + j * 3 + 1, none⟩ = some (.int .i64 y1) ∧ w'.cell? ⟨bo, oo + j * 3 + 2, none⟩ = some (.int .i64 z1) ∧
            w'.cell? ⟨P, 0, none⟩ = some (.int .i64 x) ∧ w'.cell? ⟨P, 1, none⟩ = some (.int .i64 y) ∧ w'.cell? ⟨P, 2, none⟩ = some (.int .i64 z)) (first | (refine ⟨?_, ?_, ?_, ?_, ?_, ?_⟩ <;> (refine keep_cell (by assumption) ?_; simp [*]; done)) | go_keep)
            (first | (go_at_call 44; refine (ahead_walk _ _ _ _ _ _ _).mono ?_; rintro e w' ⟨rfl, hbw⟩))
          by_cases hlt2 : LtL (x, y, z) (x1, y1, z1)
          · have hd : decide (LtL (x, y, z) (x1, y1, z1)) = true := by simpa using hlt2
            have hnx := Hnx.out hlt2
            have Hnx2 := Lib.hid hnx
            clear hlt2 hnx
            rw [hd]; clear hd
            go_wp2_with fail
            go_roundg (gk - 1)
            case measure => have := Hqr.out; omega
            case rel => exact ⟨j, by have := Hqr.out; have := Hjq.out; omega, rfl, by omega, Hnx2.out, bl_trans (hbi.drew) hbw⟩
          · have hd : decide (LtL (x, y, z) (x1, y1, z1)) = false := by simpa using hlt2
            have hfirst := Hfst.out hlt2
            have hbeh := Hbeh.out; have hos := Hos2.out; have hq := Hqo.out
            have Hl2 := Lib.hid hfirst; have Hl3 := Lib.hid hbeh; have Hl4 := Lib.hid hos; have Hl5 := Lib.hid hq
            clear hlt2 hfirst hbeh hos hq
            rw [hd]; clear hd
            go_upto_region 11 with (fail)
            have hq := Hl5.out; have hbeh := Hl3.out; have hfirst := Hl2.out; have hos := Hl4.out
            have hbj := bl_trans (hbi.drew) hbw
            have d0' := keep_cell hbj k0
            have d1' := keep_cell hbj k1
            have d2' := keep_cell hbj k2
            clear hbi hbw d0 d1 d2 q6 q7 q8 i1 i2 i3 i4 i5 p0 p1 p2
            obtain ⟨wi, rfl⟩ : ∃ wi : World, wi = w' := ⟨_, rfl⟩
            -- all from q on come behind X; ¬ the one ahead
            have hXl : (shiftS o (x, y, z) q).length = o.length + 1 := shiftS_length _ _ _ hq
            have hput := putL_sorted hos hq hbeh hfirst
            have hprm := putL_perm o (x, y, z) q
            have Hput := Lib.hid hput; have Hprm := Lib.hid hprm; have HXl := Lib.hid hXl
            have hbW : Below w.heap.size w (wi.alloc (.cells #[.int .i64 x, .int .i64 y, .int .i64 z] 29)) := bl_trans (bl_trans HB.out hbj) (bl_alloc _ _)
            have hownZ : Own (wi.alloc (.cells #[.int .i64 x, .int .i64 y, .int .i64 z] 29)) (.slice (some ⟨bo, oo, none⟩) o.length co) 29 3 o.length (lkCells o) := (Hown.out.ext hbj).alloc _
            have hone3 : ∀ u ∈ [Value.int .i64 x, Value.int .i64 y, Value.int .i64 z], u.oneCell' = true := by intro u hu; simp only [List.mem_cons, List.not_mem_nil, or_false] at hu; rcases hu with rfl | rfl | rfl <;> rfl
            have hnews3 : ∀ (j : Nat) v, [Value.int .i64 x, Value.int .i64 y, Value.int .i64 z][j]? = some v → (wi.alloc (.cells #[.int .i64 x, .int .i64 y, .int .i64 z] 29)).cell? ((⟨wi.heap.size, 0, none⟩ : Addr).add j) = some v := by
              intro j v hj
              match j with
              | 0 => simp at hj; subst hj; simp [Addr.add]
              | 1 => simp at hj; subst hj; simp [Addr.add]
              | 2 => simp at hj; subst hj; simp [Addr.add]
              | j + 3 => simp at hj
            have u0 := keep_cell (bl_alloc wi (.cells #[.int .i64 x, .int .i64 y, .int .i64 z] 29)) d0'
            have u1 := keep_cell (bl_alloc wi (.cells #[.int .i64 x, .int .i64 y, .int .i64 z] 29)) d1'
            have u2 := keep_cell (bl_alloc wi (.cells #[.int .i64 x, .int .i64 y, .int .i64 z] 29)) d2'
            have hwsz := hbj.size
            have Hone3 := Lib.hid hone3; have Hnews3 := Lib.hid hnews3; have Hq := Lib.hid hq; have HbW := Lib.hid hbW
            have Hu := Lib.hid (And.intro u0 (And.intro u1 u2))
            clear hone3 hnews3 hput hprm hXl hbeh hfirst hbW u0 u1 u2
            go_wp2_with (at_builtin; refine wpList_append_row _ rfl (.tmp 44) (.tmp 46) 22 rfl 29 (.agg #[.int .i64 0, .int .i64 0, .int .i64 0]) 3 24 Try.underlying22 link_info rfl _ o.length _ rfl hownZ ⟨wi.heap.size, 0, none⟩ 1 1 [.int .i64 x, .int .i64 y, .int .i64 z] rfl rfl Hnews3.out Hone3.out (by omega) (by unfold maxLen; omega) (by omega) ?_)
            intro g5 c5 w5 hr5 hc5 hg5 hor5
            have hb5 : Below w.heap.size w w5 := HbW.out.grown hg5 (by have := HbW.out.size; exact this) (fun j hj => Hnew.out j hj)
            have hg6 : w.heap.size ≤ g5 := by
              rcases hor5 with h | h
              · exact Hnew.out g5 h
              · have := HB.out.size; omega
            have hgne : g5 ≠ P := by
              rcases hor5 with h | h
              · have := Hlt.out g5 h; omega
              · omega
            have hPne : (Value.slice (some ⟨bo, oo, none⟩) o.length co).ownBlock ≠ some P := fun h => by have := Hlt.out P h; omega
            have v0 := grown_cell hg5 Hu.out.1 hPne
            have v1 := grown_cell hg5 Hu.out.2.1 hPne
            have v2 := grown_cell hg5 Hu.out.2.2 hPne
            have hr6 : Row w5 g5 29 3 c5 (lkCells (shiftS o (x, y, z) o.length)) := by
              rw [shiftS_full, lkCells_append]; exact hr5
            clear hr5 hg5 hor5 hownZ hPne d0' d1' d2' hbj
            obtain ⟨gB, rfl⟩ : ∃ n : Nat, n = gk := ⟨_, rfl⟩
            go_wp2_with fail
            go_loopg [7] (o.length - q) (fun r t wj => ∃ m : Nat, t = .int .i64 m ∧ m = q + r ∧ m ≤ o.length ∧ Row wj g5 29 3 c5 (lkCells (shiftS o (x, y, z) m)) ∧ wj.cell? ⟨P, 0, none⟩ = some (.int .i64 x) ∧ wj.cell? ⟨P, 1, none⟩ = some (.int .i64 y) ∧ wj.cell? ⟨P, 2, none⟩ = some (.int .i64 z) ∧ Below w.heap.size w wj)
            case atStart => exact ⟨o.length, by go_num, by have := Hq.out; omega, by omega, hr6, v0, v1, v2, hb5⟩
            case round =>
              clear hr6 v0 v1 v2 hb5
              obtain ⟨m, rfl, hmr, hmo, hrw, v0, v1, v2, hbm⟩ := hrel
              obtain ⟨L, hL⟩ : ∃ L, L = shiftS o (x, y, z) m := ⟨_, rfl⟩
              have hLl : L.length = o.length + 1 := by rw [hL]; exact shiftS_length _ _ _ hmo
              rw [← hL] at hrw
              have hgl := hrw.lt
              by_cases hmq : m = q
              · subst hmq
                obtain ⟨d0, d1, d2⟩ := hrw.lkAt m (by omega)
                have f0 := hrw.frozen (m * 3)
                have f1 := hrw.frozen (m * 3 + 1)
                have f2 := hrw.frozen (m * 3 + 2)
                have hset := lkCells_set3 L m (by omega) x y z
                have hend : L.set m (x, y, z) = o.take m ++ (x, y, z) :: o.drop m := by rw [hL]; exact shiftS_end _ _ _ hmo
                rw [hend] at hset
                have Hset := Lib.hid hset; have Hmr := Lib.hid hmr
                have hml : m < o.length + 1 := by omega
                clear hset hend hmr hL
                obtain ⟨e0, he0⟩ : ∃ e, e = L[m].1 := ⟨_, rfl⟩
                obtain ⟨e1, he1⟩ : ∃ e, e = L[m].2.1 := ⟨_, rfl⟩
                obtain ⟨e2, he2⟩ : ∃ e, e = L[m].2.2 := ⟨_, rfl⟩
                rw [← he0] at d0; rw [← he1] at d1; rw [← he2] at d2
                clear he0 he1 he2
                go_wp2_with fail
                go_roundg (gA - 1)
                case measure => have := Hk.out; omega
                case rel =>
                  have hNl : (o.take m ++ ((x, y, z) : Lk) :: o.drop m).length = o.length + 1 := by simp; omega
                  refine ⟨k + 1, _, _, rfl, by have := Hk.out; omega, by go_num, ?_, Hput.out, ?_, fun g hg => by cases hg; exact hg6, ?_⟩
                  · unfold OwnL
                    rw [hNl]
                    have h1 := ((hrw.set (m * 3) (.int .i64 x)).set (m * 3 + 1) (.int .i64 y)).set (m * 3 + 2) (.int .i64 z)
                    rw [Hset.out] at h1
                    exact h1.own (by rw [lkCells_length, hNl]) hc5
                  · rw [Hst.out]
                    exact Hprm.out.trans (Hperm.out.append_right _)
                  · exact ((hbm.setCell (by simpa using hg6) _).setCell (by simpa using hg6) _).setCell (by simpa using hg6) _
              · obtain ⟨j, hj⟩ : ∃ j, m = j + 1 := ⟨m - 1, by omega⟩
                have hjo : j < o.length := by omega
                obtain ⟨c0, c1, c2⟩ := hrw.lkAt j (by omega)
                have hLj : L[j]'(by omega) = o[j] := by
                  have := shiftS_prev o (x, y, z) j hjo
                  rw [← hj, ← hL, List.getElem?_eq_getElem (by omega)] at this
                  exact Option.some.inj this
                rw [hLj] at c0 c1 c2
                obtain ⟨d0, d1, d2⟩ := hrw.lkAt m (by omega)
                obtain ⟨⟨x1, y1, z1⟩, hx1⟩ : ∃ e : Lk, o[j] = e := ⟨_, rfl⟩
                rw [hx1] at c0 c1 c2
                simp only at c0 c1 c2
                have f0 := hrw.frozen (m * 3)
                have f1 := hrw.frozen (m * 3 + 1)
                have f2 := hrw.frozen (m * 3 + 2)
                have hset := lkCells_set3 L m (by omega) x1 y1 z1
                have hend : L.set m (x1, y1, z1) = shiftS o (x, y, z) j := by rw [hL, hj, ← hx1]; exact shiftS_step _ _ _ hjo
                rw [hend] at hset
                have i1 : IntKind.i64.wrap ((m : Int) - 1) = (j : Int) := by rw [show ((m : Int) - 1) = (j : Int) by omega]; exact IntWalk.i64_in _ (by omega)
                have i2 : m < o.length + 1 := by omega
                have i3 : j < o.length + 1 := by omega
                have i4 : q < m := by omega
                have i5 : (j : Int) < (o.length : Int) + 1 := by omega
                have hmr2 : j = q + (gk - 1) ∧ gk - 1 < gk := by omega
                have Hset := Lib.hid hset; have Hmr := Lib.hid hmr2
                obtain ⟨e0, he0⟩ : ∃ e, e = L[m].1 := ⟨_, rfl⟩
                obtain ⟨e1, he1⟩ : ∃ e, e = L[m].2.1 := ⟨_, rfl⟩
                obtain ⟨e2, he2⟩ : ∃ e, e = L[m].2.2 := ⟨_, rfl⟩
                rw [← he0] at d0; rw [← he1] at d1; rw [← he2] at d2
                clear he0 he1 he2 hset hend hmr hmr2 hj hL hLj hx1 hmq
                go_wp2_with fail
                go_roundg (gk - 1)
                case measure => exact Hmr.out.2
                case rel =>
                  refine ⟨j, rfl, Hmr.out.1, by omega, ?_, ?_, ?_, ?_, ((hbm.setCell (by simpa using hg6) _).setCell (by simpa using hg6) _).setCell (by simpa using hg6) _⟩
                  · have h1 := ((hrw.set (m * 3) (.int .i64 x1)).set (m * 3 + 1) (.int .i64 y1)).set (m * 3 + 2) (.int .i64 z1)
                    rw [Hset.out] at h1
                    exact h1
                  · rw [World.cell?_setCell_far _ _ _ _ (by simpa using hgne), World.cell?_setCell_far _ _ _ _ (by simpa using hgne), World.cell?_setCell_far _ _ _ _ (by simpa using hgne)]; exact v0
                  · rw [World.cell?_setCell_far _ _ _ _ (by simpa using hgne), World.cell?_setCell_far _ _ _ _ (by simpa using hgne), World.cell?_setCell_far _ _ _ _ (by simpa using hgne)]; exact v1
                  · rw [World.cell?_setCell_far _ _ _ _ (by simpa using hgne), World.cell?_setCell_far _ _ _ _ (by simpa using hgne), World.cell?_setCell_far _ _ _ _ (by simpa using hgne)]; exact v2
    · have hkl : k = ls.length := by omega
      subst hkl
      rw [List.take_length] at hperm
      have hfin := sortL_one hperm hos
      subst hfin
      have Hown := Lib.hid hown; have Hnew := Lib.hid hnew
      obtain ⟨ao, co, rfl, hro, hrob, hco, hlco⟩ := hown.read
      clear hown hnew hos hperm hk
      go_wp2_with fail
      go_ret
      exact ⟨_, rfl, Hown.out, Hnew.out, hB⟩
end Go.Proofs.Ytagjakgbmmbmhaa
