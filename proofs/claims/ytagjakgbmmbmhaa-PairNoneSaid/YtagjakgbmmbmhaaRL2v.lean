/- fretworkref12.Verts: each end is put into its place. -/
import Derived.Test.YtagjakgbmmbmhaaRL2
import Derived.Test.YtagjakgbmmbmhaaLkU
namespace Go.Proofs.Ytagjakgbmmbmhaa
open Go Go.RowKit

theorem map_shift (o : List Int) (x : Int) (k : Nat) : (shiftS o x k).map (Value.int .i64) = shiftS (o.map (Value.int .i64)) (.int .i64 x) k := by
  unfold shiftS
  rw [List.map_append, List.map_take, List.map_append, List.map_drop]; rfl
theorem Row.intAt {w : World} {g cap : Nat} {e : TypeId} {zs : List Int} (h : Row w g e 1 cap (zs.map (Value.int .i64))) (i : Nat) (hi : i < zs.length) : w.cell? ⟨g, i, none⟩ = some (.int .i64 zs[i]) := by
  rw [h.cell i (by simpa using hi)]; simp

theorem memM0 (p q r : Prop) : ((p ∨ (1 ≤ 0 ∧ q) ∨ (2 ≤ 0 ∧ r)) ∨ q) ↔ (p ∨ (1 ≤ 0 + 1 ∧ q) ∨ (2 ≤ 0 + 1 ∧ r)) := by simp
theorem memM1 (p q r : Prop) : ((p ∨ (1 ≤ 1 ∧ q) ∨ (2 ≤ 1 ∧ r)) ∨ r) ↔ (p ∨ (1 ≤ 1 + 1 ∧ q) ∨ (2 ≤ 1 + 1 ∧ r)) := by simp [or_assoc]
theorem memS0 {m p q r : Prop} (h : m ↔ (p ∨ (1 ≤ 0 ∧ q) ∨ (2 ≤ 0 ∧ r))) (hq : q → m) : (p ∨ (1 ≤ 0 ∧ q) ∨ (2 ≤ 0 ∧ r)) ↔ (p ∨ (1 ≤ 0 + 1 ∧ q) ∨ (2 ≤ 0 + 1 ∧ r)) := by
  simp at h ⊢
  exact fun x => h.1 (hq x)
theorem memS1 {m p q r : Prop} (h : m ↔ (p ∨ (1 ≤ 1 ∧ q) ∨ (2 ≤ 1 ∧ r))) (hq : r → m) : (p ∨ (1 ≤ 1 ∧ q) ∨ (2 ≤ 1 ∧ r)) ↔ (p ∨ (1 ≤ 1 + 1 ∧ q) ∨ (2 ≤ 1 + 1 ∧ r)) := by
  simp at h ⊢
  rw [← or_assoc]
  exact ⟨fun x => .inl x, fun x => x.elim id fun y => h.1 (hq y)⟩

set_option maxHeartbeats 4000000 in
theorem refVerts12_walk (a : Option Addr) (cap : Nat) (ls : List Lk) (w : World) (hr : RdL w a ls) (hle : ls.length ≤ 100000) :
    Calls Try.prog 21 #[.slice a ls.length cap] w (RetZs w (vertsL ls)) := by
  go_enter Try.func21, Try.ntmps21
  go_wp2_with fail
  go_loopg [3, 4] ls.length (fun r so i wr => ∃ (k : Nat) (vo : Value) (o : List Int), vo = so ∧ k + r = ls.length ∧ i = .int .i64 k ∧ Own wr vo 3 1 o.length (o.map (Value.int .i64)) ∧ o.Pairwise (· < ·) ∧ (∀ z, z ∈ o ↔ z ∈ endsL (ls.take k)) ∧ o.length ≤ 2 * k ∧ (∀ g, vo.ownBlock = some g → w.heap.size ≤ g) ∧ Below w.heap.size w wr)
  case atStart => exact ⟨0, _, [], rfl, by omega, rfl, own_nil _ _ _, .nil, by simp [endsL], by simp, fun g hg => by simp [Value.ownBlock] at hg, bl_refl _⟩
  case round =>
    obtain ⟨k, vo, o, rfl, hk, rfl, hown, hos, hmem, hol, hnew, hB⟩ := hrel
    by_cases hlt : k < ls.length
    · have hst := ends_take ls k hlt
      obtain ⟨⟨xx, yy, zz⟩, hx⟩ : ∃ x : Lk, ls[k] = x := ⟨_, rfl⟩
      rw [hx] at hst
      simp only at hst
      have Hk := Lib.hid hk; have Hst := Lib.hid hst; have Hx := Lib.hid hx
      have hk1 : k ≤ 100000 := by omega
      have hkl : k < ls.length := hlt
      obtain ⟨gP, rfl⟩ : ∃ n : Nat, n = gk := ⟨_, rfl⟩
      clear hk hst hx
      go_wp2_with fail
      go_loopg [3, 5] 2 (fun r so i wr => ∃ (t : Nat) (vo : Value) (o : List Int), vo = so ∧ t + r = 2 ∧ i = .int .i64 t ∧ Own wr vo 3 1 o.length (o.map (Value.int .i64)) ∧ o.Pairwise (· < ·) ∧ (∀ z, z ∈ o ↔ z ∈ endsL (ls.take k) ∨ (1 ≤ t ∧ z = xx) ∨ (2 ≤ t ∧ z = yy)) ∧ o.length ≤ 2 * k + t ∧ (∀ g, vo.ownBlock = some g → w.heap.size ≤ g) ∧ Below w.heap.size w wr)
      case atStart => exact ⟨0, _, o, rfl, by omega, rfl, hown, hos, fun z => by rw [hmem z]; simp, by omega, hnew, hB⟩
      case round =>
        clear hown hos hmem hol hnew hB
        clear o
        obtain ⟨t, vo, o, rfl, ht, rfl, hown, hos, hmem, hol, hnew, hB⟩ := hrel
        obtain ⟨b, off, rfl, c0, c1, c2⟩ := (hr.below hB).at k hkl
        rw [Hx.out] at c0 c1 c2
        simp only at c0 c1 c2
        have hrd : ∃ ao co, vo = .slice ao o.length co ∧ RdI wr ao o ∧ o.length ≤ co ∧ co ≤ maxLen := by
          rcases hown.2 with ⟨rfl, h0⟩ | ⟨g, cap, rfl, hc, hrw⟩
          · obtain rfl := List.eq_nil_of_length_eq_zero h0
            exact ⟨none, 0, rfl, by intro i u hu; simp at hu, by simp, by unfold maxLen; omega⟩
          · exact ⟨_, cap, rfl, hrw.at_, hc, hrw.cap_le⟩
        obtain ⟨ao, co, rfl, hro, hlco, hco⟩ := hrd
        have hol2 : o.length ≤ 200002 := by omega
        obtain ⟨gA, rfl⟩ : ∃ n : Nat, n = gk := ⟨_, rfl⟩
        have Ht := Lib.hid ht; have Hown := Lib.hid hown; have Hos := Lib.hid hos; have Hmem := Lib.hid hmem; have Hol := Lib.hid hol; have Hnew := Lib.hid hnew; have HB := Lib.hid hB
        have hszB := hB.size
        clear hown hos hmem hol hnew hB
        by_cases ht2 : t = 2
        · subst ht2
          clear ht hro c0 c1 c2
          go_wp2_with fail
          go_roundg (gP - 1)
          case measure => have := Hk.out; omega
          case rel => exact ⟨k + 1, _, o, rfl, by have := Hk.out; omega, by go_num, Hown.out, Hos.out, fun z => by rw [Hmem.out z, Hst.out]; simp, by have := Hol.out; omega, Hnew.out, HB.out⟩
        · by_cases ht0 : t = 0
          · subst ht0
            clear ht ht2
            obtain ⟨x, hxx⟩ : ∃ x : Int, x = xx := ⟨_, rfl⟩
            subst hxx
            -- the end is x; v lies in slot 6
            go_wp2_with fail
            refine (has12_walk ao co o x wr hro (by omega)).mono ?_
            rintro e w' ⟨rfl, rfl⟩
            by_cases hxo : x ∈ o
            · have hd : decide (x ∈ o) = true := by simpa using hxo
              have Hxo := Lib.hid hxo; clear hxo
              rw [hd]; clear hd
              go_wp2_with fail
              go_roundg (gA - 1)
              case measure => have := Ht.out; omega
              case rel => exact ⟨0 + 1, _, o, rfl, by have := Ht.out; omega, by go_num, Hown.out, Hos.out, fun z => by rw [Hmem.out z]; exact (memS0 (Hmem.out z) (fun e => e ▸ Hxo.out)), by have := Hol.out; omega, Hnew.out, HB.out⟩
            · have hd : decide (x ∈ o) = false := by simpa using hxo
              have Hxo := Lib.hid hxo; clear hxo
              rw [hd]; clear hd
              go_wp2_with fail
              go_loopg [7] o.length (fun r u wi => ∃ q : Nat, q = r ∧ u = .int .i64 q ∧ q ≤ o.length ∧ (∀ j (h : j < o.length), q ≤ j → x < o[j]) ∧ wr = wi)
              case atStart => exact ⟨o.length, rfl, by go_num, by omega, fun j h hj => absurd h (by omega), rfl⟩
              case round =>
                obtain ⟨q, hqr, rfl, hq, hbeh, rfl⟩ := hrel
                have hos := Hos.out
                have hxo := Hxo.out
                have Hqr := Lib.hid hqr; clear hqr
                by_cases hq0 : q = 0
                · have hfirst : q = 0 ∨ ∀ h : q - 1 < o.length, ¬ x < o[q-1] := .inl hq0
                  have q6 : decide ((0 : Int) < (q : Int)) = false := by rw [hq0]; simp
                  have q7 : decide (0 < q) = false := by rw [hq0]; simp
                  clear hq0
                  have Hbeh := Lib.hid hbeh; have Hfirst := Lib.hid hfirst; have Hos2 := Lib.hid hos; have Hxo2 := Lib.hid hxo
                  clear hbeh hfirst hos hxo
                  go_upto_region 15 with (fail)
                  have hbeh := Hbeh.out; have hfirst := Hfirst.out; have hos := Hos2.out; have hxo := Hxo2.out
                  clear q6 q7
                  have hXl : (shiftS o x q).length = o.length + 1 := shiftS_length _ _ _ hq
                  have hput := putV_sorted hos hq hbeh hfirst hxo
                  have hprm := fun z => putV_mem o x z q
                  have Hput := Lib.hid hput; have Hprm := Lib.hid hprm; have HXl := Lib.hid hXl
                  have hbW : Below w.heap.size w (wr.alloc (.cells #[.int .i64 x] 3)) := bl_trans HB.out (bl_alloc _ _)
                  have hownZ : Own (wr.alloc (.cells #[.int .i64 x] 3)) (.slice ao o.length co) 3 1 o.length (o.map (Value.int .i64)) := Hown.out.alloc _
                  have hn1 : (wr.alloc (.cells #[.int .i64 x] 3)).cell? ⟨wr.heap.size, 0, none⟩ = some (.int .i64 x) := by simp
                  have hnews := one_new hn1
                  have hone := one_ok .i64 x
                  have Hone := Lib.hid hone; have Hnews := Lib.hid hnews; have Hq := Lib.hid hq; have HbW := Lib.hid hbW
                  clear hone hnews hput hprm hXl hbeh hfirst hbW hn1 hxo
                  go_wp2_with (at_builtin; refine wpList_append_row _ rfl (.tmp 49) (.tmp 51) 25 rfl 3 (.int .i64 0) 1 8 Try.underlying25 int_info rfl _ o.length _ rfl hownZ ⟨wr.heap.size, 0, none⟩ 1 1 [.int .i64 x] rfl rfl Hnews.out Hone.out (by omega) (by unfold maxLen; omega) (by omega) ?_)
                  intro g5 c5 w5 hr5 hc5 hg5 hor5
                  have hb5 : Below w.heap.size w w5 := HbW.out.grown hg5 (by have := HbW.out.size; exact this) (fun j hj => Hnew.out j hj)
                  have hg6 : w.heap.size ≤ g5 := by
                    rcases hor5 with h | h
                    · exact Hnew.out g5 h
                    · have := HB.out.size; omega
                  have hr6 : Row w5 g5 3 1 c5 ((shiftS o x o.length).map (Value.int .i64)) := by
                    rw [shiftS_full, List.map_append]; exact hr5
                  clear hr5 hg5 hor5 hownZ
                  obtain ⟨gB, rfl⟩ : ∃ n : Nat, n = gk := ⟨_, rfl⟩
                  go_wp2_with fail
                  go_loopg [8] (o.length - q) (fun r t wj => ∃ m : Nat, t = .int .i64 m ∧ m = q + r ∧ m ≤ o.length ∧ Row wj g5 3 1 c5 ((shiftS o x m).map (Value.int .i64)) ∧ Below w.heap.size w wj)
                  case atStart => exact ⟨o.length, by go_num, by have := Hq.out; omega, by omega, hr6, hb5⟩
                  case round =>
                    clear hr6 hb5
                    obtain ⟨m, rfl, hmr, hmo, hrw, hbm⟩ := hrel
                    obtain ⟨L, hL⟩ : ∃ L, L = shiftS o x m := ⟨_, rfl⟩
                    have hLl : L.length = o.length + 1 := by rw [hL]; exact shiftS_length _ _ _ hmo
                    rw [← hL] at hrw
                    have hgl := hrw.lt
                    by_cases hmq : m = q
                    · subst hmq
                      have d0 := hrw.intAt m (by omega)
                      have f0 := hrw.frozen m
                      have hend : L.set m x = o.take m ++ x :: o.drop m := by rw [hL]; exact shiftS_end _ _ _ hmo
                      have Hset := Lib.hid hend; have Hmr := Lib.hid hmr
                      have hml : m < o.length + 1 := by omega
                      clear hend hmr hL
                      obtain ⟨e0, he0⟩ : ∃ e, e = L[m] := ⟨_, rfl⟩
                      rw [← he0] at d0
                      clear he0
                      go_wp2_with fail
                      go_roundg (gA - 1)
                      case measure => have := Ht.out; omega
                      case rel =>
                        have hNl : (o.take m ++ x :: o.drop m).length = o.length + 1 := by simp; omega
                        refine ⟨0 + 1, _, _, rfl, by have := Ht.out; omega, by go_num, ?_, Hput.out, ?_, ?_, fun g hg => by cases hg; exact hg6, ?_⟩
                        · rw [hNl]
                          have h1 := hrw.set m (.int .i64 x)
                          rw [← List.map_set, Hset.out] at h1
                          exact h1.own (by simp; omega) hc5
                        · intro z
                          rw [Hprm.out, Hmem.out z]
                          exact (memM0 _ _ _)
                        · rw [hNl]; have := Hol.out; omega
                        · exact hbm.setCell (by simpa using hg6) _
                    · obtain ⟨j, hj⟩ : ∃ j, m = j + 1 := ⟨m - 1, by omega⟩
                      have hjo : j < o.length := by omega
                      have c0 := hrw.intAt j (by omega)
                      have hLj : L[j]'(by omega) = o[j] := by
                        have := shiftS_prev o x j hjo
                        rw [← hj, ← hL, List.getElem?_eq_getElem (by omega)] at this
                        exact Option.some.inj this
                      rw [hLj] at c0
                      have d0 := hrw.intAt m (by omega)
                      obtain ⟨x1, hx1⟩ : ∃ e : Int, o[j] = e := ⟨_, rfl⟩
                      rw [hx1] at c0
                      have f0 := hrw.frozen m
                      have hend : L.set m x1 = shiftS o x j := by rw [hL, hj, ← hx1]; exact shiftS_step _ _ _ hjo
                      have i1 : IntKind.i64.wrap ((m : Int) - 1) = (j : Int) := by rw [show ((m : Int) - 1) = (j : Int) by omega]; exact IntWalk.i64_in _ (by omega)
                      have i2 : m < o.length + 1 := by omega
                      have i3 : j < o.length + 1 := by omega
                      have i4 : q < m := by omega
                      have i5 : (j : Int) < (o.length : Int) + 1 := by omega
                      have hmr2 : j = q + (gk - 1) ∧ gk - 1 < gk := by omega
                      have Hset := Lib.hid hend; have Hmr := Lib.hid hmr2
                      obtain ⟨e0, he0⟩ : ∃ e, e = L[m] := ⟨_, rfl⟩
                      rw [← he0] at d0
                      clear he0 hend hmr hmr2 hj hL hLj hx1 hmq
                      go_wp2_with fail
                      go_roundg (gk - 1)
                      case measure => exact Hmr.out.2
                      case rel =>
                        refine ⟨j, rfl, Hmr.out.1, by omega, ?_, hbm.setCell (by simpa using hg6) _⟩
                        have h1 := hrw.set m (.int .i64 x1)
                        rw [← List.map_set, Hset.out] at h1
                        exact h1
                · have hjo : q - 1 < o.length := by omega
                  obtain ⟨bo, oo, e2, p0⟩ := hro.at (q - 1) hjo
                  subst e2
                  obtain ⟨x1, hx1⟩ : ∃ e : Int, o[q-1] = e := ⟨_, rfl⟩
                  rw [hx1] at p0
                  obtain ⟨j, hj⟩ : ∃ j, j = q - 1 := ⟨_, rfl⟩
                  rw [← hj] at p0
                  have q6 : decide ((0 : Int) < (q : Int)) = true := by rw [decide_eq_true_eq]; omega
                  have q7 : decide (0 < q) = true := by rw [decide_eq_true_eq]; omega
                  have q8 : 0 < q := by omega
                  have i1 : IntKind.i64.wrap ((q : Int) - 1) = (j : Int) := by rw [show ((q : Int) - 1) = (j : Int) by omega]; exact IntWalk.i64_in _ (by omega)
                  have i2 : IntKind.i64.wrap (j : Int) = (j : Int) := IntWalk.i64_in _ (by omega)
                  have i3 : (0 : Int) ≤ (j : Int) := by omega
                  have i4 : (j : Int) < (o.length : Int) := by omega
                  have i5 : j < o.length := by omega
                  have hjq : j + 1 = q := by omega
                  have Hjq := Lib.hid hjq; have Hqo := Lib.hid hq
                  by_cases hlt2 : x < x1
                  · have hd : decide (x < x1) = true := by simpa using hlt2
                    have hnx : ∀ t (h : t < o.length), j ≤ t → x < o[t] := fun t ht hjt => by
                      by_cases e : q ≤ t
                      · exact hbeh t ht e
                      · obtain rfl : t = q - 1 := by omega
                        rw [hx1]; exact hlt2
                    have Hnx2 := Lib.hid hnx
                    clear hlt2 hnx hbeh hos hxo hjq hx1 hj hq0 hq
                    go_wp2_with fail
                    go_roundg (gk - 1)
                    case measure => have := Hqr.out; have := Hjq.out; omega
                    case rel => exact ⟨j, by have := Hqr.out; have := Hjq.out; omega, rfl, by omega, Hnx2.out, rfl⟩
                  · have hd : decide (x < x1) = false := by simpa using hlt2
                    have hfirst : q = 0 ∨ ∀ h : q - 1 < o.length, ¬ x < o[q-1] := .inr fun h2 => by rw [hx1]; exact hlt2
                    have Hl2 := Lib.hid hfirst; have Hl3 := Lib.hid hbeh; have Hl4 := Lib.hid hos; have Hl5 := Lib.hid hq; have Hl6 := Lib.hid hxo
                    clear hlt2 hfirst hbeh hos hq hxo hjq hx1 hj hq0
                    go_upto_region 15 with (fail)
                    have hq := Hl5.out; have hbeh := Hl3.out; have hfirst := Hl2.out; have hos := Hl4.out; have hxo := Hl6.out
                    clear q6 q7 q8 i1 i2 i3 i4 i5 p0 hd
                    have hXl : (shiftS o x q).length = o.length + 1 := shiftS_length _ _ _ hq
                    have hput := putV_sorted hos hq hbeh hfirst hxo
                    have hprm := fun z => putV_mem o x z q
                    have Hput := Lib.hid hput; have Hprm := Lib.hid hprm; have HXl := Lib.hid hXl
                    have hbW : Below w.heap.size w (wr.alloc (.cells #[.int .i64 x] 3)) := bl_trans HB.out (bl_alloc _ _)
                    have hownZ : Own (wr.alloc (.cells #[.int .i64 x] 3)) (.slice (some ⟨bo, oo, none⟩) o.length co) 3 1 o.length (o.map (Value.int .i64)) := Hown.out.alloc _
                    have hn1 : (wr.alloc (.cells #[.int .i64 x] 3)).cell? ⟨wr.heap.size, 0, none⟩ = some (.int .i64 x) := by simp
                    have hnews := one_new hn1
                    have hone := one_ok .i64 x
                    have Hone := Lib.hid hone; have Hnews := Lib.hid hnews; have Hq := Lib.hid hq; have HbW := Lib.hid hbW
                    clear hone hnews hput hprm hXl hbeh hfirst hbW hn1 hxo
                    go_wp2_with (at_builtin; refine wpList_append_row _ rfl (.tmp 49) (.tmp 51) 25 rfl 3 (.int .i64 0) 1 8 Try.underlying25 int_info rfl _ o.length _ rfl hownZ ⟨wr.heap.size, 0, none⟩ 1 1 [.int .i64 x] rfl rfl Hnews.out Hone.out (by omega) (by unfold maxLen; omega) (by omega) ?_)
                    intro g5 c5 w5 hr5 hc5 hg5 hor5
                    have hb5 : Below w.heap.size w w5 := HbW.out.grown hg5 (by have := HbW.out.size; exact this) (fun j hj => Hnew.out j hj)
                    have hg6 : w.heap.size ≤ g5 := by
                      rcases hor5 with h | h
                      · exact Hnew.out g5 h
                      · have := HB.out.size; omega
                    have hr6 : Row w5 g5 3 1 c5 ((shiftS o x o.length).map (Value.int .i64)) := by
                      rw [shiftS_full, List.map_append]; exact hr5
                    clear hr5 hg5 hor5 hownZ
                    obtain ⟨gB, rfl⟩ : ∃ n : Nat, n = gk := ⟨_, rfl⟩
                    go_wp2_with fail
                    go_loopg [8] (o.length - q) (fun r t wj => ∃ m : Nat, t = .int .i64 m ∧ m = q + r ∧ m ≤ o.length ∧ Row wj g5 3 1 c5 ((shiftS o x m).map (Value.int .i64)) ∧ Below w.heap.size w wj)
                    case atStart => exact ⟨o.length, by go_num, by have := Hq.out; omega, by omega, hr6, hb5⟩
                    case round =>
                      clear hr6 hb5
                      obtain ⟨m, rfl, hmr, hmo, hrw, hbm⟩ := hrel
                      obtain ⟨L, hL⟩ : ∃ L, L = shiftS o x m := ⟨_, rfl⟩
                      have hLl : L.length = o.length + 1 := by rw [hL]; exact shiftS_length _ _ _ hmo
                      rw [← hL] at hrw
                      have hgl := hrw.lt
                      by_cases hmq : m = q
                      · subst hmq
                        have d0 := hrw.intAt m (by omega)
                        have f0 := hrw.frozen m
                        have hend : L.set m x = o.take m ++ x :: o.drop m := by rw [hL]; exact shiftS_end _ _ _ hmo
                        have Hset := Lib.hid hend; have Hmr := Lib.hid hmr
                        have hml : m < o.length + 1 := by omega
                        clear hend hmr hL
                        obtain ⟨e0, he0⟩ : ∃ e, e = L[m] := ⟨_, rfl⟩
                        rw [← he0] at d0
                        clear he0
                        go_wp2_with fail
                        go_roundg (gA - 1)
                        case measure => have := Ht.out; omega
                        case rel =>
                          have hNl : (o.take m ++ x :: o.drop m).length = o.length + 1 := by simp; omega
                          refine ⟨0 + 1, _, _, rfl, by have := Ht.out; omega, by go_num, ?_, Hput.out, ?_, ?_, fun g hg => by cases hg; exact hg6, ?_⟩
                          · rw [hNl]
                            have h1 := hrw.set m (.int .i64 x)
                            rw [← List.map_set, Hset.out] at h1
                            exact h1.own (by simp; omega) hc5
                          · intro z
                            rw [Hprm.out, Hmem.out z]
                            exact (memM0 _ _ _)
                          · rw [hNl]; have := Hol.out; omega
                          · exact hbm.setCell (by simpa using hg6) _
                      · obtain ⟨j, hj⟩ : ∃ j, m = j + 1 := ⟨m - 1, by omega⟩
                        have hjo : j < o.length := by omega
                        have c0 := hrw.intAt j (by omega)
                        have hLj : L[j]'(by omega) = o[j] := by
                          have := shiftS_prev o x j hjo
                          rw [← hj, ← hL, List.getElem?_eq_getElem (by omega)] at this
                          exact Option.some.inj this
                        rw [hLj] at c0
                        have d0 := hrw.intAt m (by omega)
                        obtain ⟨x1, hx1⟩ : ∃ e : Int, o[j] = e := ⟨_, rfl⟩
                        rw [hx1] at c0
                        have f0 := hrw.frozen m
                        have hend : L.set m x1 = shiftS o x j := by rw [hL, hj, ← hx1]; exact shiftS_step _ _ _ hjo
                        have i1 : IntKind.i64.wrap ((m : Int) - 1) = (j : Int) := by rw [show ((m : Int) - 1) = (j : Int) by omega]; exact IntWalk.i64_in _ (by omega)
                        have i2 : m < o.length + 1 := by omega
                        have i3 : j < o.length + 1 := by omega
                        have i4 : q < m := by omega
                        have i5 : (j : Int) < (o.length : Int) + 1 := by omega
                        have hmr2 : j = q + (gk - 1) ∧ gk - 1 < gk := by omega
                        have Hset := Lib.hid hend; have Hmr := Lib.hid hmr2
                        obtain ⟨e0, he0⟩ : ∃ e, e = L[m] := ⟨_, rfl⟩
                        rw [← he0] at d0
                        clear he0 hend hmr hmr2 hj hL hLj hx1 hmq
                        go_wp2_with fail
                        go_roundg (gk - 1)
                        case measure => exact Hmr.out.2
                        case rel =>
                          refine ⟨j, rfl, Hmr.out.1, by omega, ?_, hbm.setCell (by simpa using hg6) _⟩
                          have h1 := hrw.set m (.int .i64 x1)
                          rw [← List.map_set, Hset.out] at h1
                          exact h1
          · obtain rfl : t = 1 := by omega
            clear ht ht2 ht0
            obtain ⟨x, hxx⟩ : ∃ x : Int, x = yy := ⟨_, rfl⟩
            subst hxx
            -- the end is x; v lies in slot 6
            go_wp2_with fail
            refine (has12_walk ao co o x wr hro (by omega)).mono ?_
            rintro e w' ⟨rfl, rfl⟩
            by_cases hxo : x ∈ o
            · have hd : decide (x ∈ o) = true := by simpa using hxo
              have Hxo := Lib.hid hxo; clear hxo
              rw [hd]; clear hd
              go_wp2_with fail
              go_roundg (gA - 1)
              case measure => have := Ht.out; omega
              case rel => exact ⟨1 + 1, _, o, rfl, by have := Ht.out; omega, by go_num, Hown.out, Hos.out, fun z => by rw [Hmem.out z]; exact (memS1 (Hmem.out z) (fun e => e ▸ Hxo.out)), by have := Hol.out; omega, Hnew.out, HB.out⟩
            · have hd : decide (x ∈ o) = false := by simpa using hxo
              have Hxo := Lib.hid hxo; clear hxo
              rw [hd]; clear hd
              go_wp2_with fail
              go_loopg [7] o.length (fun r u wi => ∃ q : Nat, q = r ∧ u = .int .i64 q ∧ q ≤ o.length ∧ (∀ j (h : j < o.length), q ≤ j → x < o[j]) ∧ wr = wi)
              case atStart => exact ⟨o.length, rfl, by go_num, by omega, fun j h hj => absurd h (by omega), rfl⟩
              case round =>
                obtain ⟨q, hqr, rfl, hq, hbeh, rfl⟩ := hrel
                have hos := Hos.out
                have hxo := Hxo.out
                have Hqr := Lib.hid hqr; clear hqr
                by_cases hq0 : q = 0
                · have hfirst : q = 0 ∨ ∀ h : q - 1 < o.length, ¬ x < o[q-1] := .inl hq0
                  have q6 : decide ((0 : Int) < (q : Int)) = false := by rw [hq0]; simp
                  have q7 : decide (0 < q) = false := by rw [hq0]; simp
                  clear hq0
                  have Hbeh := Lib.hid hbeh; have Hfirst := Lib.hid hfirst; have Hos2 := Lib.hid hos; have Hxo2 := Lib.hid hxo
                  clear hbeh hfirst hos hxo
                  go_upto_region 15 with (fail)
                  have hbeh := Hbeh.out; have hfirst := Hfirst.out; have hos := Hos2.out; have hxo := Hxo2.out
                  clear q6 q7
                  have hXl : (shiftS o x q).length = o.length + 1 := shiftS_length _ _ _ hq
                  have hput := putV_sorted hos hq hbeh hfirst hxo
                  have hprm := fun z => putV_mem o x z q
                  have Hput := Lib.hid hput; have Hprm := Lib.hid hprm; have HXl := Lib.hid hXl
                  have hbW : Below w.heap.size w (wr.alloc (.cells #[.int .i64 x] 3)) := bl_trans HB.out (bl_alloc _ _)
                  have hownZ : Own (wr.alloc (.cells #[.int .i64 x] 3)) (.slice ao o.length co) 3 1 o.length (o.map (Value.int .i64)) := Hown.out.alloc _
                  have hn1 : (wr.alloc (.cells #[.int .i64 x] 3)).cell? ⟨wr.heap.size, 0, none⟩ = some (.int .i64 x) := by simp
                  have hnews := one_new hn1
                  have hone := one_ok .i64 x
                  have Hone := Lib.hid hone; have Hnews := Lib.hid hnews; have Hq := Lib.hid hq; have HbW := Lib.hid hbW
                  clear hone hnews hput hprm hXl hbeh hfirst hbW hn1 hxo
                  go_wp2_with (at_builtin; refine wpList_append_row _ rfl (.tmp 49) (.tmp 51) 25 rfl 3 (.int .i64 0) 1 8 Try.underlying25 int_info rfl _ o.length _ rfl hownZ ⟨wr.heap.size, 0, none⟩ 1 1 [.int .i64 x] rfl rfl Hnews.out Hone.out (by omega) (by unfold maxLen; omega) (by omega) ?_)
                  intro g5 c5 w5 hr5 hc5 hg5 hor5
                  have hb5 : Below w.heap.size w w5 := HbW.out.grown hg5 (by have := HbW.out.size; exact this) (fun j hj => Hnew.out j hj)
                  have hg6 : w.heap.size ≤ g5 := by
                    rcases hor5 with h | h
                    · exact Hnew.out g5 h
                    · have := HB.out.size; omega
                  have hr6 : Row w5 g5 3 1 c5 ((shiftS o x o.length).map (Value.int .i64)) := by
                    rw [shiftS_full, List.map_append]; exact hr5
                  clear hr5 hg5 hor5 hownZ
                  obtain ⟨gB, rfl⟩ : ∃ n : Nat, n = gk := ⟨_, rfl⟩
                  go_wp2_with fail
                  go_loopg [8] (o.length - q) (fun r t wj => ∃ m : Nat, t = .int .i64 m ∧ m = q + r ∧ m ≤ o.length ∧ Row wj g5 3 1 c5 ((shiftS o x m).map (Value.int .i64)) ∧ Below w.heap.size w wj)
                  case atStart => exact ⟨o.length, by go_num, by have := Hq.out; omega, by omega, hr6, hb5⟩
                  case round =>
                    clear hr6 hb5
                    obtain ⟨m, rfl, hmr, hmo, hrw, hbm⟩ := hrel
                    obtain ⟨L, hL⟩ : ∃ L, L = shiftS o x m := ⟨_, rfl⟩
                    have hLl : L.length = o.length + 1 := by rw [hL]; exact shiftS_length _ _ _ hmo
                    rw [← hL] at hrw
                    have hgl := hrw.lt
                    by_cases hmq : m = q
                    · subst hmq
                      have d0 := hrw.intAt m (by omega)
                      have f0 := hrw.frozen m
                      have hend : L.set m x = o.take m ++ x :: o.drop m := by rw [hL]; exact shiftS_end _ _ _ hmo
                      have Hset := Lib.hid hend; have Hmr := Lib.hid hmr
                      have hml : m < o.length + 1 := by omega
                      clear hend hmr hL
                      obtain ⟨e0, he0⟩ : ∃ e, e = L[m] := ⟨_, rfl⟩
                      rw [← he0] at d0
                      clear he0
                      go_wp2_with fail
                      go_roundg (gA - 1)
                      case measure => have := Ht.out; omega
                      case rel =>
                        have hNl : (o.take m ++ x :: o.drop m).length = o.length + 1 := by simp; omega
                        refine ⟨1 + 1, _, _, rfl, by have := Ht.out; omega, by go_num, ?_, Hput.out, ?_, ?_, fun g hg => by cases hg; exact hg6, ?_⟩
                        · rw [hNl]
                          have h1 := hrw.set m (.int .i64 x)
                          rw [← List.map_set, Hset.out] at h1
                          exact h1.own (by simp; omega) hc5
                        · intro z
                          rw [Hprm.out, Hmem.out z]
                          exact (memM1 _ _ _)
                        · rw [hNl]; have := Hol.out; omega
                        · exact hbm.setCell (by simpa using hg6) _
                    · obtain ⟨j, hj⟩ : ∃ j, m = j + 1 := ⟨m - 1, by omega⟩
                      have hjo : j < o.length := by omega
                      have c0 := hrw.intAt j (by omega)
                      have hLj : L[j]'(by omega) = o[j] := by
                        have := shiftS_prev o x j hjo
                        rw [← hj, ← hL, List.getElem?_eq_getElem (by omega)] at this
                        exact Option.some.inj this
                      rw [hLj] at c0
                      have d0 := hrw.intAt m (by omega)
                      obtain ⟨x1, hx1⟩ : ∃ e : Int, o[j] = e := ⟨_, rfl⟩
                      rw [hx1] at c0
                      have f0 := hrw.frozen m
                      have hend : L.set m x1 = shiftS o x j := by rw [hL, hj, ← hx1]; exact shiftS_step _ _ _ hjo
                      have i1 : IntKind.i64.wrap ((m : Int) - 1) = (j : Int) := by rw [show ((m : Int) - 1) = (j : Int) by omega]; exact IntWalk.i64_in _ (by omega)
                      have i2 : m < o.length + 1 := by omega
                      have i3 : j < o.length + 1 := by omega
                      have i4 : q < m := by omega
                      have i5 : (j : Int) < (o.length : Int) + 1 := by omega
                      have hmr2 : j = q + (gk - 1) ∧ gk - 1 < gk := by omega
                      have Hset := Lib.hid hend; have Hmr := Lib.hid hmr2
                      obtain ⟨e0, he0⟩ : ∃ e, e = L[m] := ⟨_, rfl⟩
                      rw [← he0] at d0
                      clear he0 hend hmr hmr2 hj hL hLj hx1 hmq
                      go_wp2_with fail
                      go_roundg (gk - 1)
                      case measure => exact Hmr.out.2
                      case rel =>
                        refine ⟨j, rfl, Hmr.out.1, by omega, ?_, hbm.setCell (by simpa using hg6) _⟩
                        have h1 := hrw.set m (.int .i64 x1)
                        rw [← List.map_set, Hset.out] at h1
                        exact h1
                · have hjo : q - 1 < o.length := by omega
                  obtain ⟨bo, oo, e2, p0⟩ := hro.at (q - 1) hjo
                  subst e2
                  obtain ⟨x1, hx1⟩ : ∃ e : Int, o[q-1] = e := ⟨_, rfl⟩
                  rw [hx1] at p0
                  obtain ⟨j, hj⟩ : ∃ j, j = q - 1 := ⟨_, rfl⟩
                  rw [← hj] at p0
                  have q6 : decide ((0 : Int) < (q : Int)) = true := by rw [decide_eq_true_eq]; omega
                  have q7 : decide (0 < q) = true := by rw [decide_eq_true_eq]; omega
                  have q8 : 0 < q := by omega
                  have i1 : IntKind.i64.wrap ((q : Int) - 1) = (j : Int) := by rw [show ((q : Int) - 1) = (j : Int) by omega]; exact IntWalk.i64_in _ (by omega)
                  have i2 : IntKind.i64.wrap (j : Int) = (j : Int) := IntWalk.i64_in _ (by omega)
                  have i3 : (0 : Int) ≤ (j : Int) := by omega
                  have i4 : (j : Int) < (o.length : Int) := by omega
                  have i5 : j < o.length := by omega
                  have hjq : j + 1 = q := by omega
                  have Hjq := Lib.hid hjq; have Hqo := Lib.hid hq
                  by_cases hlt2 : x < x1
                  · have hd : decide (x < x1) = true := by simpa using hlt2
                    have hnx : ∀ t (h : t < o.length), j ≤ t → x < o[t] := fun t ht hjt => by
                      by_cases e : q ≤ t
                      · exact hbeh t ht e
                      · obtain rfl : t = q - 1 := by omega
                        rw [hx1]; exact hlt2
                    have Hnx2 := Lib.hid hnx
                    clear hlt2 hnx hbeh hos hxo hjq hx1 hj hq0 hq
                    go_wp2_with fail
                    go_roundg (gk - 1)
                    case measure => have := Hqr.out; have := Hjq.out; omega
                    case rel => exact ⟨j, by have := Hqr.out; have := Hjq.out; omega, rfl, by omega, Hnx2.out, rfl⟩
                  · have hd : decide (x < x1) = false := by simpa using hlt2
                    have hfirst : q = 0 ∨ ∀ h : q - 1 < o.length, ¬ x < o[q-1] := .inr fun h2 => by rw [hx1]; exact hlt2
                    have Hl2 := Lib.hid hfirst; have Hl3 := Lib.hid hbeh; have Hl4 := Lib.hid hos; have Hl5 := Lib.hid hq; have Hl6 := Lib.hid hxo
                    clear hlt2 hfirst hbeh hos hq hxo hjq hx1 hj hq0
                    go_upto_region 15 with (fail)
                    have hq := Hl5.out; have hbeh := Hl3.out; have hfirst := Hl2.out; have hos := Hl4.out; have hxo := Hl6.out
                    clear q6 q7 q8 i1 i2 i3 i4 i5 p0 hd
                    have hXl : (shiftS o x q).length = o.length + 1 := shiftS_length _ _ _ hq
                    have hput := putV_sorted hos hq hbeh hfirst hxo
                    have hprm := fun z => putV_mem o x z q
                    have Hput := Lib.hid hput; have Hprm := Lib.hid hprm; have HXl := Lib.hid hXl
                    have hbW : Below w.heap.size w (wr.alloc (.cells #[.int .i64 x] 3)) := bl_trans HB.out (bl_alloc _ _)
                    have hownZ : Own (wr.alloc (.cells #[.int .i64 x] 3)) (.slice (some ⟨bo, oo, none⟩) o.length co) 3 1 o.length (o.map (Value.int .i64)) := Hown.out.alloc _
                    have hn1 : (wr.alloc (.cells #[.int .i64 x] 3)).cell? ⟨wr.heap.size, 0, none⟩ = some (.int .i64 x) := by simp
                    have hnews := one_new hn1
                    have hone := one_ok .i64 x
                    have Hone := Lib.hid hone; have Hnews := Lib.hid hnews; have Hq := Lib.hid hq; have HbW := Lib.hid hbW
                    clear hone hnews hput hprm hXl hbeh hfirst hbW hn1 hxo
                    go_wp2_with (at_builtin; refine wpList_append_row _ rfl (.tmp 49) (.tmp 51) 25 rfl 3 (.int .i64 0) 1 8 Try.underlying25 int_info rfl _ o.length _ rfl hownZ ⟨wr.heap.size, 0, none⟩ 1 1 [.int .i64 x] rfl rfl Hnews.out Hone.out (by omega) (by unfold maxLen; omega) (by omega) ?_)
                    intro g5 c5 w5 hr5 hc5 hg5 hor5
                    have hb5 : Below w.heap.size w w5 := HbW.out.grown hg5 (by have := HbW.out.size; exact this) (fun j hj => Hnew.out j hj)
                    have hg6 : w.heap.size ≤ g5 := by
                      rcases hor5 with h | h
                      · exact Hnew.out g5 h
                      · have := HB.out.size; omega
                    have hr6 : Row w5 g5 3 1 c5 ((shiftS o x o.length).map (Value.int .i64)) := by
                      rw [shiftS_full, List.map_append]; exact hr5
                    clear hr5 hg5 hor5 hownZ
                    obtain ⟨gB, rfl⟩ : ∃ n : Nat, n = gk := ⟨_, rfl⟩
                    go_wp2_with fail
                    go_loopg [8] (o.length - q) (fun r t wj => ∃ m : Nat, t = .int .i64 m ∧ m = q + r ∧ m ≤ o.length ∧ Row wj g5 3 1 c5 ((shiftS o x m).map (Value.int .i64)) ∧ Below w.heap.size w wj)
                    case atStart => exact ⟨o.length, by go_num, by have := Hq.out; omega, by omega, hr6, hb5⟩
                    case round =>
                      clear hr6 hb5
                      obtain ⟨m, rfl, hmr, hmo, hrw, hbm⟩ := hrel
                      obtain ⟨L, hL⟩ : ∃ L, L = shiftS o x m := ⟨_, rfl⟩
                      have hLl : L.length = o.length + 1 := by rw [hL]; exact shiftS_length _ _ _ hmo
                      rw [← hL] at hrw
                      have hgl := hrw.lt
                      by_cases hmq : m = q
                      · subst hmq
                        have d0 := hrw.intAt m (by omega)
                        have f0 := hrw.frozen m
                        have hend : L.set m x = o.take m ++ x :: o.drop m := by rw [hL]; exact shiftS_end _ _ _ hmo
                        have Hset := Lib.hid hend; have Hmr := Lib.hid hmr
                        have hml : m < o.length + 1 := by omega
                        clear hend hmr hL
                        obtain ⟨e0, he0⟩ : ∃ e, e = L[m] := ⟨_, rfl⟩
                        rw [← he0] at d0
                        clear he0
                        go_wp2_with fail
                        go_roundg (gA - 1)
                        case measure => have := Ht.out; omega
                        case rel =>
                          have hNl : (o.take m ++ x :: o.drop m).length = o.length + 1 := by simp; omega
                          refine ⟨1 + 1, _, _, rfl, by have := Ht.out; omega, by go_num, ?_, Hput.out, ?_, ?_, fun g hg => by cases hg; exact hg6, ?_⟩
                          · rw [hNl]
                            have h1 := hrw.set m (.int .i64 x)
                            rw [← List.map_set, Hset.out] at h1
                            exact h1.own (by simp; omega) hc5
                          · intro z
                            rw [Hprm.out, Hmem.out z]
                            exact (memM1 _ _ _)
                          · rw [hNl]; have := Hol.out; omega
                          · exact hbm.setCell (by simpa using hg6) _
                      · obtain ⟨j, hj⟩ : ∃ j, m = j + 1 := ⟨m - 1, by omega⟩
                        have hjo : j < o.length := by omega
                        have c0 := hrw.intAt j (by omega)
                        have hLj : L[j]'(by omega) = o[j] := by
                          have := shiftS_prev o x j hjo
                          rw [← hj, ← hL, List.getElem?_eq_getElem (by omega)] at this
                          exact Option.some.inj this
                        rw [hLj] at c0
                        have d0 := hrw.intAt m (by omega)
                        obtain ⟨x1, hx1⟩ : ∃ e : Int, o[j] = e := ⟨_, rfl⟩
                        rw [hx1] at c0
                        have f0 := hrw.frozen m
                        have hend : L.set m x1 = shiftS o x j := by rw [hL, hj, ← hx1]; exact shiftS_step _ _ _ hjo
                        have i1 : IntKind.i64.wrap ((m : Int) - 1) = (j : Int) := by rw [show ((m : Int) - 1) = (j : Int) by omega]; exact IntWalk.i64_in _ (by omega)
                        have i2 : m < o.length + 1 := by omega
                        have i3 : j < o.length + 1 := by omega
                        have i4 : q < m := by omega
                        have i5 : (j : Int) < (o.length : Int) + 1 := by omega
                        have hmr2 : j = q + (gk - 1) ∧ gk - 1 < gk := by omega
                        have Hset := Lib.hid hend; have Hmr := Lib.hid hmr2
                        obtain ⟨e0, he0⟩ : ∃ e, e = L[m] := ⟨_, rfl⟩
                        rw [← he0] at d0
                        clear he0 hend hmr hmr2 hj hL hLj hx1 hmq
                        go_wp2_with fail
                        go_roundg (gk - 1)
                        case measure => exact Hmr.out.2
                        case rel =>
                          refine ⟨j, rfl, Hmr.out.1, by omega, ?_, hbm.setCell (by simpa using hg6) _⟩
                          have h1 := hrw.set m (.int .i64 x1)
                          rw [← List.map_set, Hset.out] at h1
                          exact h1
    · have hkl : k = ls.length := by omega
      subst hkl
      rw [List.take_length] at hmem
      have hfin : o = vertsL ls := vertsL_one hos fun z => by rw [hmem z]; simp [endsL]
      subst hfin
      rcases hown.2 with ⟨rfl, h0⟩ | ⟨g, cg, rfl, hc, hrw⟩
      · have hv : vertsL ls = [] := List.eq_nil_of_length_eq_zero h0
        have Hv := Lib.hid hv
        clear hown hnew hos hmem hk hol hv h0
        go_wp2_with fail
        go_ret
        rw [Hv.out]
        exact ⟨none, 0, rfl, (by intro i u hu; simp at hu), (fun ad h => by cases h), Nat.le_refl _, (by unfold maxLen; omega), hB⟩
      · have hg := hnew g rfl
        have hcm := hrw.cap_le
        clear hown hnew hos hmem hk hol
        go_wp2_with fail
        go_ret
        exact ⟨_, _, rfl, hrw.at_, (fun ad h => by cases h; exact hg), hc, hcm, hB⟩
end Go.Proofs.Ytagjakgbmmbmhaa
