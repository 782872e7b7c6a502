/- Facts that the claim rests on, part 10. -/
import Derived.Test.YtagcbnpahgfgmaaGreatK08
namespace Go.Proofs.YtagcbnpahgfgmaaGreat
open Go Go.RowKit
theorem Row.intAt {w : World} {g cap : Nat} {e : TypeId} {zs : List Int} (h : Row w g e 1 cap (zs.map (Value.int .i64))) (i : Nat) (hi : i < zs.length) : w.cell? ⟨g, i, none⟩ = some (.int .i64 zs[i]) := by
 rw [h.cell i (by simpa using hi)]; simp
theorem memM0 (p q r : Prop) : ((p ∨ (1 ≤ 0 ∧ q) ∨ (2 ≤ 0 ∧ r)) ∨ q) ↔ (p ∨ (1 ≤ 0 + 1 ∧ q) ∨ (2 ≤ 0 + 1 ∧ r)) := by simp
theorem memM1 (p q r : Prop) : ((p ∨ (1 ≤ 1 ∧ q) ∨ (2 ≤ 1 ∧ r)) ∨ r) ↔ (p ∨ (1 ≤ 1 + 1 ∧ q) ∨ (2 ≤ 1 + 1 ∧ r)) := by simp [or_assoc]
theorem memS0 {m p q r : Prop} (h : m ↔ (p ∨ (1 ≤ 0 ∧ q) ∨ (2 ≤ 0 ∧ r))) (hq : q → m) : (p ∨ (1 ≤ 0 ∧ q) ∨ (2 ≤ 0 ∧ r)) ↔ (p ∨ (1 ≤ 0 + 1 ∧ q) ∨ (2 ≤ 0 + 1 ∧ r)) := by
 simp at h ⊢
 exact fun x => h.1 (hq x)
theorem memS1 {m p q r : Prop} (h : m ↔ (p ∨ (1 ≤ 1 ∧ q) ∨ (2 ≤ 1 ∧ r))) (hq : r → m) : (p ∨ (1 ≤ 1 ∧ q) ∨ (2 ≤ 1 ∧ r)) ↔ (p ∨ (1 ≤ 1 + 1 ∧ q) ∨ (2 ≤ 1 + 1 ∧ r)) := by
 simp at h ⊢
 rw [← or_assoc]
 exact ⟨fun x => .inl x, fun x => x.elim id fun y => h.1 (hq y)⟩
set_option maxHeartbeats 4000000 in
theorem refVerts12_walk (a : Option Addr) (cap : Nat) (ls : List Lk) (w : World) (hr : RdL w a ls) (hle : ls.length ≤ 100000) :
  Calls Tryz.prog 52 #[.slice a ls.length cap] w (RetZs w (vertsL ls)) := by
 go_enter Tryz.func52, Tryz.ntmps52
 go_wp2_with fail
 go_loopg [3, 4] ls.length (fun r so i wr => ∃ (k : Nat) (vo : Value) (o : List Int), vo = so ∧ k + r = ls.length ∧ i = .int .i64 k ∧ Own wr vo 3 1 o.length (o.map (Value.int .i64)) ∧ o.Pairwise (· < ·) ∧ (∀ z, z ∈ o ↔ z ∈ endsL (ls.take k)) ∧ o.length ≤ 2 * k ∧ (∀ g, vo.ownBlock = some g → w.heap.size ≤ g) ∧ Below w.heap.size w wr)
 case atStart => exact ⟨0, _, [], rfl, by omega, rfl, own_nil _ _ _, .nil, by simp [endsL], by simp, fun g hg => by simp [Value.ownBlock] at hg, bl_refl _⟩
 case round =>
  obtain ⟨k, vo, o, rfl, hk, rfl, hown, hos, hmem, hol, hnew, hB⟩ := hrel
  by_cases hlt : k < ls.length
  ·
   have hst := ends_take ls k hlt; obtain ⟨⟨xx, yy, zz⟩, hx⟩ : ∃ x : Lk, ls[k] = x := ⟨_, rfl⟩
   rw [hx] at hst; simp only at hst; have Hk := Lib.hid hk; have Hst := Lib.hid hst; have Hx := Lib.hid hx; have hk1 : k ≤ 100000 := by omega
   have hkl : k < ls.length := hlt; obtain ⟨gP, rfl⟩ : ∃ n : Nat, n = gk := ⟨_, rfl⟩
   clear hk hst hx; go_wp2_with fail; go_loopg [3, 5] 2 (fun r so i wr => ∃ (t : Nat) (vo : Value) (o : List Int), vo = so ∧ t + r = 2 ∧ i = .int .i64 t ∧ Own wr vo 3 1 o.length (o.map (Value.int .i64)) ∧ o.Pairwise (· < ·) ∧ (∀ z, z ∈ o ↔ z ∈ endsL (ls.take k) ∨ (1 ≤ t ∧ z = xx) ∨ (2 ≤ t ∧ z = yy)) ∧ o.length ≤ 2 * k + t ∧ (∀ g, vo.ownBlock = some g → w.heap.size ≤ g) ∧ Below w.heap.size w wr)
   case atStart => exact ⟨0, _, o, rfl, by omega, rfl, hown, hos, fun z => by rw [hmem z]; simp, by omega, hnew, hB⟩
   case round =>
    clear hown hos hmem hol hnew hB; clear o; obtain ⟨t, vo, o, rfl, ht, rfl, hown, hos, hmem, hol, hnew, hB⟩ := hrel; obtain ⟨b, off, rfl, c0, c1, c2⟩ := (hr.below hB).at k hkl; rw [Hx.out] at c0 c1 c2; simp only at c0 c1 c2; have hrd : ∃ ao co, vo = .slice ao o.length co ∧ RdI wr ao o ∧ o.length ≤ co ∧ co ≤ maxLen := by
     rcases hown.2 with ⟨rfl, h0⟩ | ⟨g, cap, rfl, hc, hrw⟩
     ·
      obtain rfl := List.eq_nil_of_length_eq_zero h0; exact ⟨none, 0, rfl, by intro i u hu; simp at hu, by simp, by unfold maxLen; omega⟩
     · exact ⟨_, cap, rfl, hrw.at_, hc, hrw.cap_le⟩
    obtain ⟨ao, co, rfl, hro, hlco, hco⟩ := hrd; have hol2 : o.length ≤ 200002 := by omega
    obtain ⟨gA, rfl⟩ : ∃ n : Nat, n = gk := ⟨_, rfl⟩
    have Ht := Lib.hid ht; have Hown := Lib.hid hown; have Hos := Lib.hid hos; have Hmem := Lib.hid hmem; have Hol := Lib.hid hol; have Hnew := Lib.hid hnew; have HB := Lib.hid hB; have hszB := hB.size; clear hown hos hmem hol hnew hB; by_cases ht2 : t = 2
    ·
     subst ht2; clear ht hro c0 c1 c2; go_wp2_with fail; go_roundg (gP - 1)
     case measure => have := Hk.out; omega
     case rel => exact ⟨k + 1, _, o, rfl, by have := Hk.out; omega, by go_num, Hown.out, Hos.out, fun z => by rw [Hmem.out z, Hst.out]; simp, by have := Hol.out; omega, Hnew.out, HB.out⟩
    ·
     by_cases ht0 : t = 0
     ·
      subst ht0; clear ht ht2; obtain ⟨x, hxx⟩ : ∃ x : Int, x = xx := ⟨_, rfl⟩
      subst hxx; go_wp2_with fail; refine (has12_walk ao co o x wr hro (by omega)).mono ?_; rintro e w' ⟨rfl, rfl⟩; by_cases hxo : x ∈ o
      ·
       have hd : decide (x ∈ o) = true := by simpa using hxo
       have Hxo := Lib.hid hxo; clear hxo; rw [hd]; clear hd; go_wp2_with fail; go_roundg (gA - 1)
       case measure => have := Ht.out; omega
       case rel => exact ⟨0 + 1, _, o, rfl, by have := Ht.out; omega, by go_num, Hown.out, Hos.out, fun z => by rw [Hmem.out z]; exact (memS0 (Hmem.out z) (fun e => e ▸ Hxo.out)), by have := Hol.out; omega, Hnew.out, HB.out⟩
      ·
       have hd : decide (x ∈ o) = false := by simpa using hxo
       have Hxo := Lib.hid hxo; clear hxo; rw [hd]; clear hd; go_wp2_with fail; go_loopg [7] o.length (fun r u wi => ∃ q : Nat, q = r ∧ u = .int .i64 q ∧ q ≤ o.length ∧ (∀ j (h : j < o.length), q ≤ j → x < o[j]) ∧ wr = wi)
       case atStart => exact ⟨o.length, rfl, by go_num, by omega, fun j h hj => absurd h (by omega), rfl⟩
       case round =>
        obtain ⟨q, hqr, rfl, hq, hbeh, rfl⟩ := hrel; have hos := Hos.out; have hxo := Hxo.out; have Hqr := Lib.hid hqr; clear hqr; by_cases hq0 : q = 0
        ·
         have hfirst : q = 0 ∨ ∀ h : q - 1 < o.length, ¬ x < o[q-1] := .inl hq0; have q6 : decide ((0 : Int) < (q : Int)) = false := by rw [hq0]; simp
         have q7 : decide (0 < q) = false := by rw [hq0]; simp
         clear hq0; have Hbeh := Lib.hid hbeh; have Hfirst := Lib.hid hfirst; have Hos2 := Lib.hid hos; have Hxo2 := Lib.hid hxo; clear hbeh hfirst hos hxo; go_upto_region 15 with (fail)
         have hbeh := Hbeh.out; have hfirst := Hfirst.out; have hos := Hos2.out; have hxo := Hxo2.out; clear q6 q7; have hXl : (shiftS o x q).length = o.length + 1 := shiftS_length _ _ _ hq; have hput := putV_sorted hos hq hbeh hfirst hxo; have hprm := fun z => putV_mem o x z q; have Hput := Lib.hid hput; have Hprm := Lib.hid hprm; have HXl := Lib.hid hXl; have hbW : Below w.heap.size w (wr.alloc (.cells #[.int .i64 x] 3)) := bl_trans HB.out (bl_alloc _ _); have hownZ : Own (wr.alloc (.cells #[.int .i64 x] 3)) (.slice ao o.length co) 3 1 o.length (o.map (Value.int .i64)) := Hown.out.alloc _; have hn1 : (wr.alloc (.cells #[.int .i64 x] 3)).cell? ⟨wr.heap.size, 0, none⟩ = some (.int .i64 x) := by simp
         have hnews := one_new hn1; have hone := one_ok .i64 x; have Hone := Lib.hid hone; have Hnews := Lib.hid hnews; have Hq := Lib.hid hq; have HbW := Lib.hid hbW; clear hone hnews hput hprm hXl hbeh hfirst hbW hn1 hxo; go_wp2_with (at_builtin; refine wpList_append_row _ rfl (.tmp 49) (.tmp 51) 33 rfl 3 (.int .i64 0) 1 8 Tryz.underlying33 int_info rfl _ o.length _ rfl hownZ ⟨wr.heap.size, 0, none⟩ 1 1 [.int .i64 x] rfl rfl Hnews.out Hone.out (by omega) (by unfold maxLen; omega) (by omega) ?_); intro g5 c5 w5 hr5 hc5 hg5 hor5; have hb5 : Below w.heap.size w w5 := HbW.out.grown hg5 (by have := HbW.out.size; exact this) (fun j hj => Hnew.out j hj); have hg6 : w.heap.size ≤ g5 := by
          rcases hor5 with h | h
          · exact Hnew.out g5 h
          · have := HB.out.size; omega
         have hr6 : Row w5 g5 3 1 c5 ((shiftS o x o.length).map (Value.int .i64)) := by
          rw [shiftS_full, List.map_append]; exact hr5
         clear hr5 hg5 hor5 hownZ; obtain ⟨gB, rfl⟩ : ∃ n : Nat, n = gk := ⟨_, rfl⟩
         go_wp2_with fail; go_loopg [8] (o.length - q) (fun r t wj => ∃ m : Nat, t = .int .i64 m ∧ m = q + r ∧ m ≤ o.length ∧ Row wj g5 3 1 c5 ((shiftS o x m).map (Value.int .i64)) ∧ Below w.heap.size w wj)
         case atStart => exact ⟨o.length, by go_num, by have := Hq.out; omega, by omega, hr6, hb5⟩
         case round =>
          clear hr6 hb5; obtain ⟨m, rfl, hmr, hmo, hrw, hbm⟩ := hrel; obtain ⟨L, hL⟩ : ∃ L, L = shiftS o x m := ⟨_, rfl⟩
          have hLl : L.length = o.length + 1 := by rw [hL]; exact shiftS_length _ _ _ hmo
          rw [← hL] at hrw; have hgl := hrw.lt; by_cases hmq : m = q
          ·
           subst hmq; have d0 := hrw.intAt m (by omega); have f0 := hrw.frozen m; have hend : L.set m x = o.take m ++ x :: o.drop m := by rw [hL]; exact shiftS_end _ _ _ hmo
           have Hset := Lib.hid hend; have Hmr := Lib.hid hmr; have hml : m < o.length + 1 := by omega
           clear hend hmr hL; obtain ⟨e0, he0⟩ : ∃ e, e = L[m] := ⟨_, rfl⟩
           rw [← he0] at d0; clear he0; go_wp2_with fail; go_roundg (gA - 1)
           case measure => have := Ht.out; omega
           case rel =>
            have hNl : (o.take m ++ x :: o.drop m).length = o.length + 1 := by simp; omega
            refine ⟨0 + 1, _, _, rfl, by have := Ht.out; omega, by go_num, ?_, Hput.out, ?_, ?_, fun g hg => by cases hg; exact hg6, ?_⟩
            ·
             rw [hNl]; have h1 := hrw.set m (.int .i64 x); rw [← List.map_set, Hset.out] at h1; exact h1.own (by simp; omega) hc5
            ·
             intro z; rw [Hprm.out, Hmem.out z]; exact (memM0 _ _ _)
            · rw [hNl]; have := Hol.out; omega
            · exact hbm.setCell (by simpa using hg6) _
          ·
           obtain ⟨j, hj⟩ : ∃ j, m = j + 1 := ⟨m - 1, by omega⟩
           have hjo : j < o.length := by omega
           have c0 := hrw.intAt j (by omega); have hLj : L[j]'(by omega) = o[j] := by
            have := shiftS_prev o x j hjo; rw [← hj, ← hL, List.getElem?_eq_getElem (by omega)] at this; exact Option.some.inj this
           rw [hLj] at c0; have d0 := hrw.intAt m (by omega); obtain ⟨x1, hx1⟩ : ∃ e : Int, o[j] = e := ⟨_, rfl⟩
           rw [hx1] at c0; have f0 := hrw.frozen m; have hend : L.set m x1 = shiftS o x j := by rw [hL, hj, ← hx1]; exact shiftS_step _ _ _ hjo
           have i1 : IntKind.i64.wrap ((m : Int) - 1) = (j : Int) := by rw [show ((m : Int) - 1) = (j : Int) by omega]; exact IntWalk.i64_in _ (by omega)
           have i2 : m < o.length + 1 := by omega
           have i3 : j < o.length + 1 := by omega
           have i4 : q < m := by omega
           have i5 : (j : Int) < (o.length : Int) + 1 := by omega
           have hmr2 : j = q + (gk - 1) ∧ gk - 1 < gk := by omega
           have Hset := Lib.hid hend; have Hmr := Lib.hid hmr2; obtain ⟨e0, he0⟩ : ∃ e, e = L[m] := ⟨_, rfl⟩
           rw [← he0] at d0; clear he0 hend hmr hmr2 hj hL hLj hx1 hmq; go_wp2_with fail; go_roundg (gk - 1)
           case measure => exact Hmr.out.2
           case rel =>
            refine ⟨j, rfl, Hmr.out.1, by omega, ?_, hbm.setCell (by simpa using hg6) _⟩; have h1 := hrw.set m (.int .i64 x1); rw [← List.map_set, Hset.out] at h1; exact h1
        ·
         have hjo : q - 1 < o.length := by omega
         obtain ⟨bo, oo, e2, p0⟩ := hro.at (q - 1) hjo; subst e2; obtain ⟨x1, hx1⟩ : ∃ e : Int, o[q-1] = e := ⟨_, rfl⟩
         rw [hx1] at p0; obtain ⟨j, hj⟩ : ∃ j, j = q - 1 := ⟨_, rfl⟩
         rw [← hj] at p0; have q6 : decide ((0 : Int) < (q : Int)) = true := by rw [decide_eq_true_eq]; omega
         have q7 : decide (0 < q) = true := by rw [decide_eq_true_eq]; omega
         have q8 : 0 < q := by omega
         have i1 : IntKind.i64.wrap ((q : Int) - 1) = (j : Int) := by rw [show ((q : Int) - 1) = (j : Int) by omega]; exact IntWalk.i64_in _ (by omega)
         have i2 : IntKind.i64.wrap (j : Int) = (j : Int) := IntWalk.i64_in _ (by omega); have i3 : (0 : Int) ≤ (j : Int) := by omega
         have i4 : (j : Int) < (o.length : Int) := by omega
         have i5 : j < o.length := by omega
         have hjq : j + 1 = q := by omega
         have Hjq := Lib.hid hjq; have Hqo := Lib.hid hq; by_cases hlt2 : x < x1
         ·
          have hd : decide (x < x1) = true := by simpa using hlt2
          have hnx : ∀ t (h : t < o.length), j ≤ t → x < o[t] := fun t ht hjt => by
           by_cases e : q ≤ t
           · exact hbeh t ht e
           ·
            obtain rfl : t = q - 1 := by omega
            rw [hx1]; exact hlt2
          have Hnx2 := Lib.hid hnx; clear hlt2 hnx hbeh hos hxo hjq hx1 hj hq0 hq; go_wp2_with fail; go_roundg (gk - 1)
          case measure => have := Hqr.out; have := Hjq.out; omega
          case rel => exact ⟨j, by have := Hqr.out; have := Hjq.out; omega, rfl, by omega, Hnx2.out, rfl⟩
         ·
          have hd : decide (x < x1) = false := by simpa using hlt2
          have hfirst : q = 0 ∨ ∀ h : q - 1 < o.length, ¬ x < o[q-1] := .inr fun h2 => by rw [hx1]; exact hlt2
          have Hl2 := Lib.hid hfirst; have Hl3 := Lib.hid hbeh; have Hl4 := Lib.hid hos; have Hl5 := Lib.hid hq; have Hl6 := Lib.hid hxo; clear hlt2 hfirst hbeh hos hq hxo hjq hx1 hj hq0; go_upto_region 15 with (fail)
          have hq := Hl5.out; have hbeh := Hl3.out; have hfirst := Hl2.out; have hos := Hl4.out; have hxo := Hl6.out; clear q6 q7 q8 i1 i2 i3 i4 i5 p0 hd; have hXl : (shiftS o x q).length = o.length + 1 := shiftS_length _ _ _ hq; have hput := putV_sorted hos hq hbeh hfirst hxo; have hprm := fun z => putV_mem o x z q; have Hput := Lib.hid hput; have Hprm := Lib.hid hprm; have HXl := Lib.hid hXl; have hbW : Below w.heap.size w (wr.alloc (.cells #[.int .i64 x] 3)) := bl_trans HB.out (bl_alloc _ _); have hownZ : Own (wr.alloc (.cells #[.int .i64 x] 3)) (.slice (some ⟨bo, oo, none⟩) o.length co) 3 1 o.length (o.map (Value.int .i64)) := Hown.out.alloc _; have hn1 : (wr.alloc (.cells #[.int .i64 x] 3)).cell? ⟨wr.heap.size, 0, none⟩ = some (.int .i64 x) := by simp
          have hnews := one_new hn1; have hone := one_ok .i64 x; have Hone := Lib.hid hone; have Hnews := Lib.hid hnews; have Hq := Lib.hid hq; have HbW := Lib.hid hbW; clear hone hnews hput hprm hXl hbeh hfirst hbW hn1 hxo; go_wp2_with (at_builtin; refine wpList_append_row _ rfl (.tmp 49) (.tmp 51) 33 rfl 3 (.int .i64 0) 1 8 Tryz.underlying33 int_info rfl _ o.length _ rfl hownZ ⟨wr.heap.size, 0, none⟩ 1 1 [.int .i64 x] rfl rfl Hnews.out Hone.out (by omega) (by unfold maxLen; omega) (by omega) ?_); intro g5 c5 w5 hr5 hc5 hg5 hor5; have hb5 : Below w.heap.size w w5 := HbW.out.grown hg5 (by have := HbW.out.size; exact this) (fun j hj => Hnew.out j hj); have hg6 : w.heap.size ≤ g5 := by
           rcases hor5 with h | h
           · exact Hnew.out g5 h
           · have := HB.out.size; omega
          have hr6 : Row w5 g5 3 1 c5 ((shiftS o x o.length).map (Value.int .i64)) := by
           rw [shiftS_full, List.map_append]; exact hr5
          clear hr5 hg5 hor5 hownZ; obtain ⟨gB, rfl⟩ : ∃ n : Nat, n = gk := ⟨_, rfl⟩
          go_wp2_with fail; go_loopg [8] (o.length - q) (fun r t wj => ∃ m : Nat, t = .int .i64 m ∧ m = q + r ∧ m ≤ o.length ∧ Row wj g5 3 1 c5 ((shiftS o x m).map (Value.int .i64)) ∧ Below w.heap.size w wj)
          case atStart => exact ⟨o.length, by go_num, by have := Hq.out; omega, by omega, hr6, hb5⟩
          case round =>
           clear hr6 hb5; obtain ⟨m, rfl, hmr, hmo, hrw, hbm⟩ := hrel; obtain ⟨L, hL⟩ : ∃ L, L = shiftS o x m := ⟨_, rfl⟩
           have hLl : L.length = o.length + 1 := by rw [hL]; exact shiftS_length _ _ _ hmo
           rw [← hL] at hrw; have hgl := hrw.lt; by_cases hmq : m = q
           ·
            subst hmq; have d0 := hrw.intAt m (by omega); have f0 := hrw.frozen m; have hend : L.set m x = o.take m ++ x :: o.drop m := by rw [hL]; exact shiftS_end _ _ _ hmo
            have Hset := Lib.hid hend; have Hmr := Lib.hid hmr; have hml : m < o.length + 1 := by omega
            clear hend hmr hL; obtain ⟨e0, he0⟩ : ∃ e, e = L[m] := ⟨_, rfl⟩
            rw [← he0] at d0; clear he0; go_wp2_with fail; go_roundg (gA - 1)
            case measure => have := Ht.out; omega
            case rel =>
             have hNl : (o.take m ++ x :: o.drop m).length = o.length + 1 := by simp; omega
             refine ⟨0 + 1, _, _, rfl, by have := Ht.out; omega, by go_num, ?_, Hput.out, ?_, ?_, fun g hg => by cases hg; exact hg6, ?_⟩
             ·
              rw [hNl]; have h1 := hrw.set m (.int .i64 x); rw [← List.map_set, Hset.out] at h1; exact h1.own (by simp; omega) hc5
             ·
              intro z; rw [Hprm.out, Hmem.out z]; exact (memM0 _ _ _)
             · rw [hNl]; have := Hol.out; omega
             · exact hbm.setCell (by simpa using hg6) _
           ·
            obtain ⟨j, hj⟩ : ∃ j, m = j + 1 := ⟨m - 1, by omega⟩
            have hjo : j < o.length := by omega
            have c0 := hrw.intAt j (by omega); have hLj : L[j]'(by omega) = o[j] := by
             have := shiftS_prev o x j hjo; rw [← hj, ← hL, List.getElem?_eq_getElem (by omega)] at this; exact Option.some.inj this
            rw [hLj] at c0; have d0 := hrw.intAt m (by omega); obtain ⟨x1, hx1⟩ : ∃ e : Int, o[j] = e := ⟨_, rfl⟩
            rw [hx1] at c0; have f0 := hrw.frozen m; have hend : L.set m x1 = shiftS o x j := by rw [hL, hj, ← hx1]; exact shiftS_step _ _ _ hjo
            have i1 : IntKind.i64.wrap ((m : Int) - 1) = (j : Int) := by rw [show ((m : Int) - 1) = (j : Int) by omega]; exact IntWalk.i64_in _ (by omega)
            have i2 : m < o.length + 1 := by omega
            have i3 : j < o.length + 1 := by omega
            have i4 : q < m := by omega
            have i5 : (j : Int) < (o.length : Int) + 1 := by omega
            have hmr2 : j = q + (gk - 1) ∧ gk - 1 < gk := by omega
            have Hset := Lib.hid hend; have Hmr := Lib.hid hmr2; obtain ⟨e0, he0⟩ : ∃ e, e = L[m] := ⟨_, rfl⟩
            rw [← he0] at d0; clear he0 hend hmr hmr2 hj hL hLj hx1 hmq; go_wp2_with fail; go_roundg (gk - 1)
            case measure => exact Hmr.out.2
            case rel =>
             refine ⟨j, rfl, Hmr.out.1, by omega, ?_, hbm.setCell (by simpa using hg6) _⟩; have h1 := hrw.set m (.int .i64 x1); rw [← List.map_set, Hset.out] at h1; exact h1
     ·
      obtain rfl : t = 1 := by omega
      clear ht ht2 ht0; obtain ⟨x, hxx⟩ : ∃ x : Int, x = yy := ⟨_, rfl⟩
      subst hxx; go_wp2_with fail; refine (has12_walk ao co o x wr hro (by omega)).mono ?_; rintro e w' ⟨rfl, rfl⟩; by_cases hxo : x ∈ o
      ·
       have hd : decide (x ∈ o) = true := by simpa using hxo
       have Hxo := Lib.hid hxo; clear hxo; rw [hd]; clear hd; go_wp2_with fail; go_roundg (gA - 1)
       case measure => have := Ht.out; omega
       case rel => exact ⟨1 + 1, _, o, rfl, by have := Ht.out; omega, by go_num, Hown.out, Hos.out, fun z => by rw [Hmem.out z]; exact (memS1 (Hmem.out z) (fun e => e ▸ Hxo.out)), by have := Hol.out; omega, Hnew.out, HB.out⟩
      ·
       have hd : decide (x ∈ o) = false := by simpa using hxo
       have Hxo := Lib.hid hxo; clear hxo; rw [hd]; clear hd; go_wp2_with fail; go_loopg [7] o.length (fun r u wi => ∃ q : Nat, q = r ∧ u = .int .i64 q ∧ q ≤ o.length ∧ (∀ j (h : j < o.length), q ≤ j → x < o[j]) ∧ wr = wi)
       case atStart => exact ⟨o.length, rfl, by go_num, by omega, fun j h hj => absurd h (by omega), rfl⟩
       case round =>
        obtain ⟨q, hqr, rfl, hq, hbeh, rfl⟩ := hrel; have hos := Hos.out; have hxo := Hxo.out; have Hqr := Lib.hid hqr; clear hqr; by_cases hq0 : q = 0
        ·
         have hfirst : q = 0 ∨ ∀ h : q - 1 < o.length, ¬ x < o[q-1] := .inl hq0; have q6 : decide ((0 : Int) < (q : Int)) = false := by rw [hq0]; simp
         have q7 : decide (0 < q) = false := by rw [hq0]; simp
         clear hq0; have Hbeh := Lib.hid hbeh; have Hfirst := Lib.hid hfirst; have Hos2 := Lib.hid hos; have Hxo2 := Lib.hid hxo; clear hbeh hfirst hos hxo; go_upto_region 15 with (fail)
         have hbeh := Hbeh.out; have hfirst := Hfirst.out; have hos := Hos2.out; have hxo := Hxo2.out; clear q6 q7; have hXl : (shiftS o x q).length = o.length + 1 := shiftS_length _ _ _ hq; have hput := putV_sorted hos hq hbeh hfirst hxo; have hprm := fun z => putV_mem o x z q; have Hput := Lib.hid hput; have Hprm := Lib.hid hprm; have HXl := Lib.hid hXl; have hbW : Below w.heap.size w (wr.alloc (.cells #[.int .i64 x] 3)) := bl_trans HB.out (bl_alloc _ _); have hownZ : Own (wr.alloc (.cells #[.int .i64 x] 3)) (.slice ao o.length co) 3 1 o.length (o.map (Value.int .i64)) := Hown.out.alloc _; have hn1 : (wr.alloc (.cells #[.int .i64 x] 3)).cell? ⟨wr.heap.size, 0, none⟩ = some (.int .i64 x) := by simp
         have hnews := one_new hn1; have hone := one_ok .i64 x; have Hone := Lib.hid hone; have Hnews := Lib.hid hnews; have Hq := Lib.hid hq; have HbW := Lib.hid hbW; clear hone hnews hput hprm hXl hbeh hfirst hbW hn1 hxo; go_wp2_with (at_builtin; refine wpList_append_row _ rfl (.tmp 49) (.tmp 51) 33 rfl 3 (.int .i64 0) 1 8 Tryz.underlying33 int_info rfl _ o.length _ rfl hownZ ⟨wr.heap.size, 0, none⟩ 1 1 [.int .i64 x] rfl rfl Hnews.out Hone.out (by omega) (by unfold maxLen; omega) (by omega) ?_); intro g5 c5 w5 hr5 hc5 hg5 hor5; have hb5 : Below w.heap.size w w5 := HbW.out.grown hg5 (by have := HbW.out.size; exact this) (fun j hj => Hnew.out j hj); have hg6 : w.heap.size ≤ g5 := by
          rcases hor5 with h | h
          · exact Hnew.out g5 h
          · have := HB.out.size; omega
         have hr6 : Row w5 g5 3 1 c5 ((shiftS o x o.length).map (Value.int .i64)) := by
          rw [shiftS_full, List.map_append]; exact hr5
         clear hr5 hg5 hor5 hownZ; obtain ⟨gB, rfl⟩ : ∃ n : Nat, n = gk := ⟨_, rfl⟩
         go_wp2_with fail; go_loopg [8] (o.length - q) (fun r t wj => ∃ m : Nat, t = .int .i64 m ∧ m = q + r ∧ m ≤ o.length ∧ Row wj g5 3 1 c5 ((shiftS o x m).map (Value.int .i64)) ∧ Below w.heap.size w wj)
         case atStart => exact ⟨o.length, by go_num, by have := Hq.out; omega, by omega, hr6, hb5⟩
         case round =>
          clear hr6 hb5; obtain ⟨m, rfl, hmr, hmo, hrw, hbm⟩ := hrel; obtain ⟨L, hL⟩ : ∃ L, L = shiftS o x m := ⟨_, rfl⟩
          have hLl : L.length = o.length + 1 := by rw [hL]; exact shiftS_length _ _ _ hmo
          rw [← hL] at hrw; have hgl := hrw.lt; by_cases hmq : m = q
          ·
           subst hmq; have d0 := hrw.intAt m (by omega); have f0 := hrw.frozen m; have hend : L.set m x = o.take m ++ x :: o.drop m := by rw [hL]; exact shiftS_end _ _ _ hmo
           have Hset := Lib.hid hend; have Hmr := Lib.hid hmr; have hml : m < o.length + 1 := by omega
           clear hend hmr hL; obtain ⟨e0, he0⟩ : ∃ e, e = L[m] := ⟨_, rfl⟩
           rw [← he0] at d0; clear he0; go_wp2_with fail; go_roundg (gA - 1)
           case measure => have := Ht.out; omega
           case rel =>
            have hNl : (o.take m ++ x :: o.drop m).length = o.length + 1 := by simp; omega
            refine ⟨1 + 1, _, _, rfl, by have := Ht.out; omega, by go_num, ?_, Hput.out, ?_, ?_, fun g hg => by cases hg; exact hg6, ?_⟩
            ·
             rw [hNl]; have h1 := hrw.set m (.int .i64 x); rw [← List.map_set, Hset.out] at h1; exact h1.own (by simp; omega) hc5
            ·
             intro z; rw [Hprm.out, Hmem.out z]; exact (memM1 _ _ _)
            · rw [hNl]; have := Hol.out; omega
            · exact hbm.setCell (by simpa using hg6) _
          ·
           obtain ⟨j, hj⟩ : ∃ j, m = j + 1 := ⟨m - 1, by omega⟩
           have hjo : j < o.length := by omega
           have c0 := hrw.intAt j (by omega); have hLj : L[j]'(by omega) = o[j] := by
            have := shiftS_prev o x j hjo; rw [← hj, ← hL, List.getElem?_eq_getElem (by omega)] at this; exact Option.some.inj this
           rw [hLj] at c0; have d0 := hrw.intAt m (by omega); obtain ⟨x1, hx1⟩ : ∃ e : Int, o[j] = e := ⟨_, rfl⟩
           rw [hx1] at c0; have f0 := hrw.frozen m; have hend : L.set m x1 = shiftS o x j := by rw [hL, hj, ← hx1]; exact shiftS_step _ _ _ hjo
           have i1 : IntKind.i64.wrap ((m : Int) - 1) = (j : Int) := by rw [show ((m : Int) - 1) = (j : Int) by omega]; exact IntWalk.i64_in _ (by omega)
           have i2 : m < o.length + 1 := by omega
           have i3 : j < o.length + 1 := by omega
           have i4 : q < m := by omega
           have i5 : (j : Int) < (o.length : Int) + 1 := by omega
           have hmr2 : j = q + (gk - 1) ∧ gk - 1 < gk := by omega
           have Hset := Lib.hid hend; have Hmr := Lib.hid hmr2; obtain ⟨e0, he0⟩ : ∃ e, e = L[m] := ⟨_, rfl⟩
           rw [← he0] at d0; clear he0 hend hmr hmr2 hj hL hLj hx1 hmq; go_wp2_with fail; go_roundg (gk - 1)
           case measure => exact Hmr.out.2
           case rel =>
            refine ⟨j, rfl, Hmr.out.1, by omega, ?_, hbm.setCell (by simpa using hg6) _⟩; have h1 := hrw.set m (.int .i64 x1); rw [← List.map_set, Hset.out] at h1; exact h1
        ·
         have hjo : q - 1 < o.length := by omega
         obtain ⟨bo, oo, e2, p0⟩ := hro.at (q - 1) hjo; subst e2; obtain ⟨x1, hx1⟩ : ∃ e : Int, o[q-1] = e := ⟨_, rfl⟩
         rw [hx1] at p0; obtain ⟨j, hj⟩ : ∃ j, j = q - 1 := ⟨_, rfl⟩
         rw [← hj] at p0; have q6 : decide ((0 : Int) < (q : Int)) = true := by rw [decide_eq_true_eq]; omega
         have q7 : decide (0 < q) = true := by rw [decide_eq_true_eq]; omega
         have q8 : 0 < q := by omega
         have i1 : IntKind.i64.wrap ((q : Int) - 1) = (j : Int) := by rw [show ((q : Int) - 1) = (j : Int) by omega]; exact IntWalk.i64_in _ (by omega)
         have i2 : IntKind.i64.wrap (j : Int) = (j : Int) := IntWalk.i64_in _ (by omega); have i3 : (0 : Int) ≤ (j : Int) := by omega
         have i4 : (j : Int) < (o.length : Int) := by omega
         have i5 : j < o.length := by omega
         have hjq : j + 1 = q := by omega
         have Hjq := Lib.hid hjq; have Hqo := Lib.hid hq; by_cases hlt2 : x < x1
         ·
          have hd : decide (x < x1) = true := by simpa using hlt2
          have hnx : ∀ t (h : t < o.length), j ≤ t → x < o[t] := fun t ht hjt => by
           by_cases e : q ≤ t
           · exact hbeh t ht e
           ·
            obtain rfl : t = q - 1 := by omega
            rw [hx1]; exact hlt2
          have Hnx2 := Lib.hid hnx; clear hlt2 hnx hbeh hos hxo hjq hx1 hj hq0 hq; go_wp2_with fail; go_roundg (gk - 1)
          case measure => have := Hqr.out; have := Hjq.out; omega
          case rel => exact ⟨j, by have := Hqr.out; have := Hjq.out; omega, rfl, by omega, Hnx2.out, rfl⟩
         ·
          have hd : decide (x < x1) = false := by simpa using hlt2
          have hfirst : q = 0 ∨ ∀ h : q - 1 < o.length, ¬ x < o[q-1] := .inr fun h2 => by rw [hx1]; exact hlt2
          have Hl2 := Lib.hid hfirst; have Hl3 := Lib.hid hbeh; have Hl4 := Lib.hid hos; have Hl5 := Lib.hid hq; have Hl6 := Lib.hid hxo; clear hlt2 hfirst hbeh hos hq hxo hjq hx1 hj hq0; go_upto_region 15 with (fail)
          have hq := Hl5.out; have hbeh := Hl3.out; have hfirst := Hl2.out; have hos := Hl4.out; have hxo := Hl6.out; clear q6 q7 q8 i1 i2 i3 i4 i5 p0 hd; have hXl : (shiftS o x q).length = o.length + 1 := shiftS_length _ _ _ hq; have hput := putV_sorted hos hq hbeh hfirst hxo; have hprm := fun z => putV_mem o x z q; have Hput := Lib.hid hput; have Hprm := Lib.hid hprm; have HXl := Lib.hid hXl; have hbW : Below w.heap.size w (wr.alloc (.cells #[.int .i64 x] 3)) := bl_trans HB.out (bl_alloc _ _); have hownZ : Own (wr.alloc (.cells #[.int .i64 x] 3)) (.slice (some ⟨bo, oo, none⟩) o.length co) 3 1 o.length (o.map (Value.int .i64)) := Hown.out.alloc _; have hn1 : (wr.alloc (.cells #[.int .i64 x] 3)).cell? ⟨wr.heap.size, 0, none⟩ = some (.int .i64 x) := by simp
          have hnews := one_new hn1; have hone := one_ok .i64 x; have Hone := Lib.hid hone; have Hnews := Lib.hid hnews; have Hq := Lib.hid hq; have HbW := Lib.hid hbW; clear hone hnews hput hprm hXl hbeh hfirst hbW hn1 hxo; go_wp2_with (at_builtin; refine wpList_append_row _ rfl (.tmp 49) (.tmp 51) 33 rfl 3 (.int .i64 0) 1 8 Tryz.underlying33 int_info rfl _ o.length _ rfl hownZ ⟨wr.heap.size, 0, none⟩ 1 1 [.int .i64 x] rfl rfl Hnews.out Hone.out (by omega) (by unfold maxLen; omega) (by omega) ?_); intro g5 c5 w5 hr5 hc5 hg5 hor5; have hb5 : Below w.heap.size w w5 := HbW.out.grown hg5 (by have := HbW.out.size; exact this) (fun j hj => Hnew.out j hj); have hg6 : w.heap.size ≤ g5 := by
           rcases hor5 with h | h
           · exact Hnew.out g5 h
           · have := HB.out.size; omega
          have hr6 : Row w5 g5 3 1 c5 ((shiftS o x o.length).map (Value.int .i64)) := by
           rw [shiftS_full, List.map_append]; exact hr5
          clear hr5 hg5 hor5 hownZ; obtain ⟨gB, rfl⟩ : ∃ n : Nat, n = gk := ⟨_, rfl⟩
          go_wp2_with fail; go_loopg [8] (o.length - q) (fun r t wj => ∃ m : Nat, t = .int .i64 m ∧ m = q + r ∧ m ≤ o.length ∧ Row wj g5 3 1 c5 ((shiftS o x m).map (Value.int .i64)) ∧ Below w.heap.size w wj)
          case atStart => exact ⟨o.length, by go_num, by have := Hq.out; omega, by omega, hr6, hb5⟩
          case round =>
           clear hr6 hb5; obtain ⟨m, rfl, hmr, hmo, hrw, hbm⟩ := hrel; obtain ⟨L, hL⟩ : ∃ L, L = shiftS o x m := ⟨_, rfl⟩
           have hLl : L.length = o.length + 1 := by rw [hL]; exact shiftS_length _ _ _ hmo
           rw [← hL] at hrw; have hgl := hrw.lt; by_cases hmq : m = q
           ·
            subst hmq; have d0 := hrw.intAt m (by omega); have f0 := hrw.frozen m; have hend : L.set m x = o.take m ++ x :: o.drop m := by rw [hL]; exact shiftS_end _ _ _ hmo
            have Hset := Lib.hid hend; have Hmr := Lib.hid hmr; have hml : m < o.length + 1 := by omega
            clear hend hmr hL; obtain ⟨e0, he0⟩ : ∃ e, e = L[m] := ⟨_, rfl⟩
            rw [← he0] at d0; clear he0; go_wp2_with fail; go_roundg (gA - 1)
            case measure => have := Ht.out; omega
            case rel =>
             have hNl : (o.take m ++ x :: o.drop m).length = o.length + 1 := by simp; omega
             refine ⟨1 + 1, _, _, rfl, by have := Ht.out; omega, by go_num, ?_, Hput.out, ?_, ?_, fun g hg => by cases hg; exact hg6, ?_⟩
             ·
              rw [hNl]; have h1 := hrw.set m (.int .i64 x); rw [← List.map_set, Hset.out] at h1; exact h1.own (by simp; omega) hc5
             ·
              intro z; rw [Hprm.out, Hmem.out z]; exact (memM1 _ _ _)
             · rw [hNl]; have := Hol.out; omega
             · exact hbm.setCell (by simpa using hg6) _
           ·
            obtain ⟨j, hj⟩ : ∃ j, m = j + 1 := ⟨m - 1, by omega⟩
            have hjo : j < o.length := by omega
            have c0 := hrw.intAt j (by omega); have hLj : L[j]'(by omega) = o[j] := by
             have := shiftS_prev o x j hjo; rw [← hj, ← hL, List.getElem?_eq_getElem (by omega)] at this; exact Option.some.inj this
            rw [hLj] at c0; have d0 := hrw.intAt m (by omega); obtain ⟨x1, hx1⟩ : ∃ e : Int, o[j] = e := ⟨_, rfl⟩
            rw [hx1] at c0; have f0 := hrw.frozen m; have hend : L.set m x1 = shiftS o x j := by rw [hL, hj, ← hx1]; exact shiftS_step _ _ _ hjo
            have i1 : IntKind.i64.wrap ((m : Int) - 1) = (j : Int) := by rw [show ((m : Int) - 1) = (j : Int) by omega]; exact IntWalk.i64_in _ (by omega)
            have i2 : m < o.length + 1 := by omega
            have i3 : j < o.length + 1 := by omega
            have i4 : q < m := by omega
            have i5 : (j : Int) < (o.length : Int) + 1 := by omega
            have hmr2 : j = q + (gk - 1) ∧ gk - 1 < gk := by omega
            have Hset := Lib.hid hend; have Hmr := Lib.hid hmr2; obtain ⟨e0, he0⟩ : ∃ e, e = L[m] := ⟨_, rfl⟩
            rw [← he0] at d0; clear he0 hend hmr hmr2 hj hL hLj hx1 hmq; go_wp2_with fail; go_roundg (gk - 1)
            case measure => exact Hmr.out.2
            case rel =>
             refine ⟨j, rfl, Hmr.out.1, by omega, ?_, hbm.setCell (by simpa using hg6) _⟩; have h1 := hrw.set m (.int .i64 x1); rw [← List.map_set, Hset.out] at h1; exact h1
  ·
   have hkl : k = ls.length := by omega
   subst hkl; rw [List.take_length] at hmem; have hfin : o = vertsL ls := vertsL_one hos fun z => by rw [hmem z]; simp [endsL]
   subst hfin; rcases hown.2 with ⟨rfl, h0⟩ | ⟨g, cg, rfl, hc, hrw⟩
   ·
    have hv : vertsL ls = [] := List.eq_nil_of_length_eq_zero h0; have Hv := Lib.hid hv; clear hown hnew hos hmem hk hol hv h0; go_wp2_with fail; go_ret; rw [Hv.out]; exact ⟨none, 0, rfl, (by intro i u hu; simp at hu), (fun ad h => by cases h), Nat.le_refl _, (by unfold maxLen; omega), hB⟩
   ·
    have hg := hnew g rfl; have hcm := hrw.cap_le; clear hown hnew hos hmem hk hol; go_wp2_with fail; go_ret; exact ⟨_, _, rfl, hrw.at_, (fun ad h => by cases h; exact hg), hc, hcm, hB⟩
end Go.Proofs.YtagcbnpahgfgmaaGreat
namespace Go.Proofs.YtagcbnpahgfgmaaGreat
open Go Go.RowKit
set_option maxHeartbeats 2000000 in
theorem touch12_walk (a1 a2 a3 b1 b2 b3 : Int) (g : Option Addr) (cap : Nat) (wo : List Int) (w : World) (hr : RdI w g wo) (hl : wo.length ≤ 9223372036854775807) :
  Calls Tryz.prog 125 #[.agg #[.int .i64 a1, .int .i64 a2, .int .i64 a3], .agg #[.int .i64 b1, .int .i64 b2, .int .i64 b3], .slice g wo.length cap] w
   fun e w' => e = .returned (.bool (touchB wo (a1, a2, a3) (b1, b2, b3))) ∧ Below w.heap.size w w' := by
 have hB := bl_trans (bl_alloc w (.cells #[.int .i64 a1, .int .i64 a2, .int .i64 a3] 38)) (bl_alloc _ (.cells #[.int .i64 b1, .int .i64 b2, .int .i64 b3] 38))
 have hrB := hr.below hB
 clear hr
 go_enter Tryz.func125, Tryz.ntmps125
 by_cases p1 : a1 ∈ wo
 ·
  have d1 : decide (a1 ∈ wo) = true := by simpa using p1
  have P1 := Lib.hid p1; clear p1
  go_wp2_with fail
  refine (has12_walk g cap wo a1 _ hrB hl).mono ?_
  rintro e w' ⟨rfl, rfl⟩
  rw [d1]; clear d1
  have p1 := P1.out
  by_cases p2 : a2 ∈ wo
  ·
   have d2 : decide (a2 ∈ wo) = true := by simpa using p2
   have hd : touchB wo (a1, a2, a3) (b1, b2, b3) = false := by unfold touchB; simp only; simp only [List.contains_iff_mem.2 p1, Bool.not_true, Bool.false_and, Bool.false_or]; simp [p2]
   have Hd := Lib.hid hd; clear hd p2 p1; go_wp2_with fail; refine (has12_walk g cap wo a2 _ hrB hl).mono ?_; rintro e w' ⟨rfl, rfl⟩; rw [d2]; clear d2; go_wp2_with fail; go_ret; exact ⟨by rw [Hd.out] <;> rfl, hB⟩
  ·
   have d2 : decide (a2 ∈ wo) = false := by simpa using p2
   have hd : touchB wo (a1, a2, a3) (b1, b2, b3) = (a2 == b1 || a2 == b2) := by unfold touchB; simp only; simp only [List.contains_iff_mem.2 p1, Bool.not_true, Bool.false_and, Bool.false_or]; simp [p2]
   by_cases e1 : a2 = b1
   ·
    have q1 : (a2 == b1) = true := by simpa using e1
    rw [q1, Bool.true_or] at hd; have Hd := Lib.hid hd; clear hd p2 e1 p1; go_wp2_with fail; refine (has12_walk g cap wo a2 _ hrB hl).mono ?_; rintro e w' ⟨rfl, rfl⟩; rw [d2]; clear d2; go_wp2_with fail; go_ret; exact ⟨by rw [Hd.out] <;> rfl, hB⟩
   ·
    have q1 : (a2 == b1) = false := by simpa using e1
    rw [q1, Bool.false_or] at hd; have Hd := Lib.hid hd; clear hd p2 e1 p1; go_wp2_with fail; refine (has12_walk g cap wo a2 _ hrB hl).mono ?_; rintro e w' ⟨rfl, rfl⟩; rw [d2]; clear d2; go_wp2_with fail; go_ret; exact ⟨by rw [Hd.out] <;> rfl, hB⟩
 ·
  have d1 : decide (a1 ∈ wo) = false := by simpa using p1
  by_cases e1 : a1 = b1
  ·
   have q1 : (a1 == b1) = true := by simpa using e1
   have hd : touchB wo (a1, a2, a3) (b1, b2, b3) = true := by have p3 := p1; rw [e1] at p3; unfold touchB; simp [p3, e1]
   have Hd := Lib.hid hd; clear hd p1 e1; go_wp2_with fail; refine (has12_walk g cap wo a1 _ hrB hl).mono ?_; rintro e w' ⟨rfl, rfl⟩; rw [d1]; clear d1; go_wp2_with fail; go_ret; exact ⟨by rw [Hd.out] <;> rfl, hB⟩
  ·
   have q1 : (a1 == b1) = false := by simpa using e1
   by_cases e2 : a1 = b2
   ·
    have q2 : (a1 == b2) = true := by simpa using e2
    have hd : touchB wo (a1, a2, a3) (b1, b2, b3) = true := by have p3 := p1; rw [e2] at p3; unfold touchB; simp [p3, e2]
    have Hd := Lib.hid hd; clear hd p1 e1 e2; go_wp2_with fail; refine (has12_walk g cap wo a1 _ hrB hl).mono ?_; rintro e w' ⟨rfl, rfl⟩; rw [d1]; clear d1; go_wp2_with fail; go_ret; exact ⟨by rw [Hd.out] <;> rfl, hB⟩
   ·
    have q2 : (a1 == b2) = false := by simpa using e2
    have P1 := Lib.hid p1; have E1 := Lib.hid e1; have E2 := Lib.hid e2; clear p1 e1 e2; go_wp2_with fail; refine (has12_walk g cap wo a1 _ hrB hl).mono ?_; rintro e w' ⟨rfl, rfl⟩; rw [d1]; clear d1; have hx : (a1 == b1 || a1 == b2) = false := by rw [q1, q2]; rfl
    by_cases p2 : a2 ∈ wo
    ·
     have d2 : decide (a2 ∈ wo) = true := by simpa using p2
     have hd : touchB wo (a1, a2, a3) (b1, b2, b3) = false := by unfold touchB; simp only; simp only [hx, Bool.and_false, Bool.false_or]; simp [p2]
     have Hd := Lib.hid hd; clear hd p2 hx; go_wp2_with fail; refine (has12_walk g cap wo a2 _ hrB hl).mono ?_; rintro e w' ⟨rfl, rfl⟩; rw [d2]; clear d2; go_wp2_with fail; go_ret; exact ⟨by rw [Hd.out] <;> rfl, hB⟩
    ·
     have d2 : decide (a2 ∈ wo) = false := by simpa using p2
     have hd : touchB wo (a1, a2, a3) (b1, b2, b3) = (a2 == b1 || a2 == b2) := by unfold touchB; simp only; simp only [hx, Bool.and_false, Bool.false_or]; simp [p2]
     by_cases e1 : a2 = b1
     ·
      have q1 : (a2 == b1) = true := by simpa using e1
      rw [q1, Bool.true_or] at hd; have Hd := Lib.hid hd; clear hd p2 e1 hx; go_wp2_with fail; refine (has12_walk g cap wo a2 _ hrB hl).mono ?_; rintro e w' ⟨rfl, rfl⟩; rw [d2]; clear d2; go_wp2_with fail; go_ret; exact ⟨by rw [Hd.out] <;> rfl, hB⟩
     ·
      have q1 : (a2 == b1) = false := by simpa using e1
      rw [q1, Bool.false_or] at hd; have Hd := Lib.hid hd; clear hd p2 e1 hx; go_wp2_with fail; refine (has12_walk g cap wo a2 _ hrB hl).mono ?_; rintro e w' ⟨rfl, rfl⟩; rw [d2]; clear d2; go_wp2_with fail; go_ret; exact ⟨by rw [Hd.out] <;> rfl, hB⟩
end Go.Proofs.YtagcbnpahgfgmaaGreat
namespace Go.Proofs.YtagcbnpahgfgmaaGreat
theorem lcon_symm {ls : List Lk} {wo : List Int} {i j : Nat} (h : LCon ls wo i j) : LCon ls wo j i := Con.symm (bsL_symm ls wo) h
theorem lcon_touch {ls : List Lk} {wo : List Int} {i a b : Nat} (h : LCon ls wo i a) {x y : Lk} (ha : ls[a]? = some x) (hb : ls[b]? = some y) (ht : touchB wo x y = true) : LCon ls wo i b :=
 Con.step h (mem_bsL.2 ⟨x, y, ha, hb, ht⟩) (List.getElem?_eq_some_iff.1 hb).1
structure Fl (ls : List Lk) (wo : List Int) (many i : Nat) (c : Nat → Nat) : Prop where
 le : ∀ j, j < ls.length → c j ≤ many
 full : ∀ a b, a < ls.length → b < ls.length → c a ≠ 0 → (c b = c a ↔ LCon ls wo a b)
 done : ∀ j, j < i → c j ≠ 0
 ord : (firsts c i).map c = List.range' 1 many
structure Gr (ls : List Lk) (wo : List Int) (m i : Nat) (c0 c : Nat → Nat) : Prop where
 old : ∀ j, j < ls.length → c0 j ≠ 0 → c j = c0 j
 new : ∀ j, j < ls.length → c0 j = 0 → c j = 0 ∨ (c j = m ∧ LCon ls wo i j)
 self : c i = m
theorem Fl.start (ls : List Lk) (wo : List Int) : Fl ls wo 0 0 (fun _ => 0) where
 le := fun _ _ => Nat.le_refl _
 full := fun _ _ _ _ h => absurd rfl h
 done := fun _ h => absurd h (by omega)
 ord := by simp [firsts]
theorem firsts_congr {c d : Nat → Nat} {i : Nat} (h : ∀ j, j < i → c j = d j) : firsts c i = firsts d i := by
 unfold firsts
 refine List.filter_congr fun a ha => ?_
 rw [List.mem_range] at ha
 rw [Bool.eq_iff_iff]
 simp only [List.all_eq_true, List.mem_range, decide_eq_true_eq]
 constructor
 · intro hh j hj; rw [← h j (by omega), ← h a ha]; exact hh j hj
 · intro hh j hj; rw [h j (by omega), h a ha]; exact hh j hj
theorem Fl.skip {ls : List Lk} {wo : List Int} {many i : Nat} {c : Nat → Nat} (h : Fl ls wo many i c) (hi : i < ls.length) (hc : c i ≠ 0) : Fl ls wo many (i + 1) c where
 le := h.le
 full := h.full
 done := fun j hj => by
  by_cases e : j < i
  · exact h.done j e
  ·
   obtain rfl : j = i := by omega
   exact hc
 ord := by
  have hm : c i ∈ List.range' 1 many := by rw [List.mem_range'_1]; have := h.le i hi; omega
  rw [← h.ord, List.mem_map] at hm
  obtain ⟨j, hj, e⟩ := hm
  rw [firsts_succ, if_neg (fun hall => hall j (mem_firsts.1 hj).1 e), List.append_nil]
  exact h.ord
theorem Gr.start {ls : List Lk} {wo : List Int} {m i : Nat} {c0 : Nat → Nat} (hi : i < ls.length) (hc : c0 i = 0) : Gr ls wo m i c0 (upd c0 i m) where
 old := fun j _ h => by
  have : j ≠ i := fun e => h (by rw [e]; exact hc)
  simp [upd, this]
 new := fun j _ h => by
  by_cases e : j = i
  · right; subst e; exact ⟨by simp [upd], .refl hi⟩
  · left; simp [upd, e, h]
 self := by simp [upd]
theorem Gr.lcon {ls : List Lk} {wo : List Int} {many i : Nat} {c0 c : Nat → Nat} (hF : Fl ls wo many i c0) (h : Gr ls wo (many + 1) i c0 c) {a : Nat} (ha : a < ls.length) (hc : c a = many + 1) : c0 a = 0 ∧ LCon ls wo i a := by
 have h0 : c0 a = 0 := Classical.byContradiction fun hn => by
  have := h.old a ha hn
  have := hF.le a ha
  omega
 rcases h.new a ha h0 with e | ⟨_, e⟩
 · omega
 · exact ⟨h0, e⟩
theorem Gr.step {ls : List Lk} {wo : List Int} {many i : Nat} {c0 c : Nat → Nat} (hF : Fl ls wo many i c0) (h : Gr ls wo (many + 1) i c0 c) {a b : Nat} {x y : Lk} (ha : ls[a]? = some x) (hb : ls[b]? = some y)
  (hca : c a = many + 1) (hcb : c b = 0) (ht : touchB wo x y = true) : Gr ls wo (many + 1) i c0 (upd c b (many + 1)) where
 old := fun j hj hn => by
  have e : j ≠ b := fun e => by subst e; rw [h.old j hj hn] at hcb; exact hn hcb
  simp only [upd, e, if_false]
  exact h.old j hj hn
 new := fun j hj hn => by
  by_cases e : j = b
  ·
   right; subst e
   exact ⟨by simp [upd], lcon_touch (h.lcon hF (List.getElem?_eq_some_iff.1 ha).1 hca).2 ha hb ht⟩
  ·
   simp only [upd, e, if_false]
   exact h.new j hj hn
 self := by
  have e : i ≠ b := fun e => by subst e; have := h.self; omega
  simp only [upd, e, if_false]
  exact h.self
theorem Gr.close {ls : List Lk} {wo : List Int} {many i : Nat} {c0 c : Nat → Nat} (hF : Fl ls wo many i c0) (hi : i < ls.length) (h0 : c0 i = 0) (h : Gr ls wo (many + 1) i c0 c)
  (hcl : ∀ a b x y, ls[a]? = some x → ls[b]? = some y → ¬ (c a = many + 1 ∧ c b = 0 ∧ touchB wo x y = true)) : Fl ls wo (many + 1) (i + 1) c where
 le := fun j hj => by
  by_cases e : c0 j = 0
  · rcases h.new j hj e with e | ⟨e, _⟩ <;> omega
  · rw [h.old j hj e]; have := hF.le j hj; omega
 full := fun a b ha hb hca => by
  by_cases e : c0 a = 0
  ·
   rcases h.new a ha e with e1 | ⟨e1, hia⟩
   · exact absurd e1 hca
   ·
    rw [e1]
    constructor
    ·
     intro hb1
     exact (lcon_symm hia).trans (h.lcon hF hb hb1).2
    ·
     intro hab
     refine Con.closed (fun t => c t = many + 1) ?_ e1 hab
     intro p q hp hq hql
     obtain ⟨x, y, hx, hy, ht⟩ := mem_bsL.1 hq
     have hpl := (List.getElem?_eq_some_iff.1 hx).1
     have hcq : c q ≠ 0 := fun e2 => hcl p q x y hx hy ⟨hp, e2, ht⟩
     by_cases e3 : c0 q = 0
     ·
      rcases h.new q hql e3 with e4 | ⟨e4, _⟩
      · exact absurd e4 hcq
      · exact e4
     ·
      have hqp : LCon ls wo q p := Con.step (.refl hql) (bsL_symm ls wo _ _ hq) hpl
      have := (hF.full q p hql hpl e3).2 hqp
      have := (h.lcon hF hpl hp).1
      omega
  ·
   rw [h.old a ha e]
   have hfa := hF.full a b ha hb e
   have hla := hF.le a ha
   by_cases e2 : c0 b = 0
   ·
    constructor
    ·
     intro hb1
     rcases h.new b hb e2 with e3 | ⟨e3, _⟩ <;> omega
    · intro hab; have := hfa.2 hab; omega
   · rw [h.old b hb e2]; exact hfa
 done := fun j hj => by
  by_cases e : j < i
  ·
   have hn := hF.done j e
   rw [h.old j (by omega) hn]; exact hn
  ·
   obtain rfl : j = i := by omega
   rw [h.self]; omega
 ord := by
  have hc : ∀ j, j < i → c j = c0 j := fun j hj => h.old j (by omega) (hF.done j hj)
  have hall : ∀ j, j < i → c j ≠ c i := fun j hj => by
   rw [hc j hj, h.self]; have := hF.le j (by omega); omega
  rw [firsts_succ, if_pos hall, List.map_append, firsts_congr hc]
  have hm : (firsts c0 i).map c = (firsts c0 i).map c0 := List.map_congr_left fun j hj => hc j (mem_firsts.1 hj).1
  rw [hm, hF.ord]
  simp only [List.map_cons, List.map_nil, h.self]
  rw [List.range'_concat]
  simp [Nat.add_comm]
theorem Fl.groups {ls : List Lk} {wo : List Int} {many : Nat} {c : Nat → Nat} (hr : rightL ls = true) (h : Fl ls wo many ls.length c) : groupsL ls wo = (List.range' 1 many).map fun g => pickL ls (ofCol c ls.length g) := by
 rw [groupsL_by hr (c := c) (fun i j hi hj => by rw [← h.full i j hi hj (h.done i hi)]; exact eq_comm), ← h.ord]
 unfold gIdx
 rw [List.map_map, List.map_map]
 rfl
theorem Fl.many_le {ls : List Lk} {wo : List Int} {many i : Nat} {c : Nat → Nat} (h : Fl ls wo many i c) : many ≤ i := by
 have h1 := congrArg List.length h.ord
 rw [List.length_map, List.length_range'] at h1
 have := firsts_length_le c i
 omega
def zerosC (c : Nat → Nat) (n : Nat) : Nat := ((List.range n).filter fun j => decide (c j = 0)).length
theorem zerosC_succ (c : Nat → Nat) (n : Nat) : zerosC c (n + 1) = zerosC c n + if c n = 0 then 1 else 0 := by
 unfold zerosC
 rw [List.range_succ, List.filter_append, List.length_append]
 congr 1
 by_cases h : c n = 0 <;> simp [h]
theorem zerosC_same {c d : Nat → Nat} {n : Nat} (h : ∀ j, j < n → c j = d j) : zerosC c n = zerosC d n := by
 unfold zerosC
 congr 1
 refine List.filter_congr fun a ha => ?_
 rw [List.mem_range] at ha
 rw [h a ha]
theorem zerosC_upd {c : Nat → Nat} {n b m : Nat} (hb : b < n) (hc : c b = 0) (hm : m ≠ 0) : zerosC (upd c b m) n + 1 = zerosC c n := by
 induction n with
 | zero => omega
 | succ n ih =>
  rw [zerosC_succ, zerosC_succ]
  by_cases e : b = n
  ·
   subst e; rw [zerosC_same (c := upd c b m) (d := c) (fun j hj => by simp [upd, show j ≠ b by omega])]; simp [upd, hc, hm]
  ·
   have := ih (by omega); simp only [upd, show n ≠ b from fun x => e x.symm, if_false]; unfold upd at this; omega
end Go.Proofs.YtagcbnpahgfgmaaGreat
namespace Go.Proofs.YtagcbnpahgfgmaaGreat
open Go Go.RowKit
def NoTrig (ls : List Lk) (wo : List Int) (m : Nat) (c : Nat → Nat) (p q : Nat) : Prop := ∀ x y, ls[p]? = some x → ls[q]? = some y → ¬ (c p = m ∧ c q = 0 ∧ touchB wo x y = true)
theorem zerosC_le (c : Nat → Nat) (n : Nat) : zerosC c n ≤ n := by
 unfold zerosC
 have := List.length_filter_le (fun j => decide (c j = 0)) (List.range n)
 simpa using this
def PassOk (ls : List Lk) (wo : List Int) (m : Nat) (cS c : Nat → Nat) (ag : Bool) (x y : Nat) : Prop :=
 (ag = true → zerosC c ls.length < zerosC cS ls.length) ∧ (ag = false → c = cS ∧ (∀ p q, p < x → q < ls.length → NoTrig ls wo m c p q) ∧ (∀ q, q < y → NoTrig ls wo m c x q))
theorem PassOk.next {ls : List Lk} {wo : List Int} {m : Nat} {cS c : Nat → Nat} {ag : Bool} {x y : Nat} (h : PassOk ls wo m cS c ag x y) (hn : NoTrig ls wo m c x y) : PassOk ls wo m cS c ag x (y + 1) :=
 ⟨h.1, fun e => ⟨(h.2 e).1, (h.2 e).2.1, fun q hq => by
  by_cases e2 : q < y
  · exact (h.2 e).2.2 q e2
  ·
   obtain rfl : q = y := by omega
   exact hn⟩⟩
theorem PassOk.row {ls : List Lk} {wo : List Int} {m : Nat} {cS c : Nat → Nat} {ag : Bool} {x : Nat} (h : PassOk ls wo m cS c ag x ls.length) : PassOk ls wo m cS c ag (x + 1) 0 :=
 ⟨h.1, fun e => ⟨(h.2 e).1, fun p q hp hq => by
  by_cases e2 : p < x
  · exact (h.2 e).2.1 p q e2 hq
  ·
   obtain rfl : p = x := by omega
   exact (h.2 e).2.2 q hq, fun q hq => absurd hq (by omega)⟩⟩
theorem PassOk.start {ls : List Lk} {wo : List Int} {m : Nat} {cS : Nat → Nat} : PassOk ls wo m cS cS false 0 0 :=
 ⟨nofun, fun _ => ⟨rfl, fun p q hp => absurd hp (by omega), fun q hq => absurd hq (by omega)⟩⟩
theorem PassOk.hit {ls : List Lk} {wo : List Int} {m : Nat} {cS c : Nat → Nat} {ag : Bool} {x y x' y' : Nat} (h : PassOk ls wo m cS c ag x y) (hy : y < ls.length) (hc : c y = 0) (hm : m ≠ 0) : PassOk ls wo m cS (upd c y m) true x' y' :=
 ⟨fun _ => by
  have h1 := zerosC_upd (n := ls.length) hy hc hm
  cases ag with
  | true => have := h.1 rfl; omega
  | false => have := (h.2 rfl).1; rw [← this]; omega, nofun⟩
set_option maxRecDepth 100000 in
set_option maxHeartbeats 8000000 in
theorem refGroups12_walk (a : Option Addr) (cap : Nat) (ls : List Lk) (aw : Option Addr) (capw : Nat) (wo : List Int) (w : World) (hr : RdL w a ls) (hcap : ls.length ≤ 9223372036854775807) (hw : RdI w aw wo) (hwl : wo.length ≤ 1000000) :
  Calls Tryz.prog 83 #[.slice a ls.length cap, .slice aw wo.length capw] w (RetGs w (groupsL ls wo)) := by
 cases hrt : rightL ls with
 | false =>
  have hg : groupsL ls wo = [] := by unfold groupsL; rw [hrt]; rfl
  rw [hg]
  have Hrt := Lib.hid hrt; clear hrt hg
  go_enter Tryz.func83, Tryz.ntmps83
  go_wp2_with fail
  refine (refRight12_walk a cap ls _ hr hcap).mono ?_
  rw [Hrt.out]
  rintro e w1 ⟨rfl, hb1⟩
  go_wp2_with fail
  go_ret
  exact ⟨_, [], rfl, LRows.start _ _, hb1⟩
 | true =>
  have hR := (rightL_iff ls).1 hrt
  have hn := hR.1
  have HR := Lib.hid hR; have Hrt := Lib.hid hrt
  have hmk := run_make_row' (P := Tryz.prog) 33 3 (.int .i64 0) 8 Tryz.underlying33 int_info rfl .i64 .i64 ls.length (by omega) (by omega)
  clear hR hrt
  go_enter Tryz.func83, Tryz.ntmps83
  go_wp2_with fail
  refine (refRight12_walk a cap ls _ hr hcap).mono ?_
  rw [Hrt.out]
  rintro e w1 ⟨rfl, hb1⟩
  have hw1 := hw.below hb1
  have hr1 := hr.below hb1
  clear hw hr
  have hrow0 : Row (w1.alloc (.cells (madeCells #[.int .i64 0] ls.length) 3)) w1.heap.size 3 1 ls.length (rowN ls.length fun _ => 0) := by
   have := row_made w1 (.int .i64 0) ls.length 3 (by unfold maxLen; omega); rwa [rowN_zero] at this
  have hbA := bl_alloc w1 (.cells (madeCells #[.int .i64 0] ls.length) 3)
  go_upto_region 4 with (fail)
  clear hmk
  generalize w1.alloc (.cells (madeCells #[.int .i64 0] ls.length) 3) = w2 at hrow0 hbA ⊢
  go_wp2_with fail
  go_loopg [6, 7] ls.length (fun r mv i wr => ∃ (k many : Nat) (c : Nat → Nat), mv = .int .i64 many ∧ k + r = ls.length ∧ i = .int .i64 k ∧ Fl ls wo many k c ∧ Row wr w1.heap.size 3 1 ls.length (rowN ls.length c) ∧ Below w1.heap.size w1 wr)
  case atStart => exact ⟨0, 0, _, rfl, by omega, rfl, Fl.start ls wo, hrow0, hbA⟩
  case round =>
   clear hrow0 hbA; obtain ⟨k, many, c0, rfl, hk, rfl, hF, hrw, hb⟩ := hrel; have hml := hF.many_le; by_cases hlt : k < ls.length
   ·
    have c0k := hrw.atN hlt; have hf0 := hrw.frozen k; have hgl := hrw.lt; obtain ⟨gA, rfl⟩ : ∃ n : Nat, n = gk := ⟨_, rfl⟩
    have Hk := Lib.hid hk; clear hk; by_cases hck : c0 k = 0
    ·
     have q1 : decide (0 < c0 k) = false := by rw [hck]; rfl
     have q2 : decide ((0 : Int) < (c0 k : Int)) = false := by rw [hck]; rfl
     obtain ⟨m, hm⟩ : ∃ m : Nat, m = many + 1 := ⟨_, rfl⟩
     have i1 : IntKind.i64.wrap ((many : Int) + 1) = (m : Int) := by rw [show ((many : Int) + 1) = (m : Int) by omega]; exact IntWalk.i64_in _ (by omega)
     have hrw2 : Row (wr.setCell ⟨w1.heap.size, k, none⟩ (.int .i64 (m : Int))) w1.heap.size 3 1 ls.length (rowN ls.length (upd c0 k m)) := by
      have := hrw.set k (.int .i64 (m : Int)); rw [show (Value.int .i64 (m : Int)) = vN m from rfl, rowN_set] at this; exact this
     have hb2 : Below w1.heap.size w1 (wr.setCell ⟨w1.heap.size, k, none⟩ (.int .i64 (m : Int))) := hb.setCell (Nat.le_refl _) _; have hgr0 : Gr ls wo m k c0 (upd c0 k m) := Gr.start hlt hck; have Hm := Lib.hid hm; have HF := Lib.hid hF; have Hck := Lib.hid hck; have hm2 : m ≤ 1001 := by omega
     have Hlt := Lib.hid hlt; clear hm hF hck hml; obtain ⟨cS, hcS⟩ : ∃ cS, cS = upd c0 k m := ⟨_, rfl⟩
     rw [← hcS] at hrw2 hgr0; clear hcS; go_upto_region 11 with (fail)
     clear c0k hf0 hrw hb i1 q1 q2 hgl hlt; generalize wr.setCell ⟨w1.heap.size, k, none⟩ (.int .i64 (m : Int)) = w3 at hrw2 hb2 ⊢; go_wp2_with fail; go_loopg [8] (ls.length + 1) (fun r av wr => ∃ (ag : Bool) (c : Nat → Nat), av = .bool ag ∧ Gr ls wo m k c0 c ∧ Row wr w1.heap.size 3 1 ls.length (rowN ls.length c) ∧ Below w1.heap.size w1 wr ∧ (ag = true → zerosC c ls.length < r) ∧ (ag = false → ∀ p q, p < ls.length → q < ls.length → NoTrig ls wo m c p q))
     case atStart => exact ⟨true, _, rfl, hgr0, hrw2, hb2, fun _ => by have := zerosC_le cS ls.length; omega, nofun⟩
     case round =>
      clear hgr0 hrw2 hb2; obtain ⟨ag, cP, rfl, hgr, hrow, hb, hz, hcl⟩ := hrel; cases ag with
      | false =>
       have hgr' : Gr ls wo (many + 1) k c0 cP := by rw [← Hm.out]; exact hgr
       have hfl := hgr'.close HF.out Hlt.out Hck.out (fun p q X Y hp hq => by
        have := hcl rfl p q (List.getElem?_eq_some_iff.1 hp).1 (List.getElem?_eq_some_iff.1 hq).1 X Y hp hq
        rw [Hm.out] at this; exact this)
       rw [← Hm.out] at hfl; have Hfl := Lib.hid hfl; clear hfl hgr' hgr hz hcl; have hlt := Hlt.out; go_wp2_with fail; go_roundg (gA - 1)
       case measure => have := Hk.out; have := Hlt.out; omega
       case rel => exact ⟨k + 1, m, cP, rfl, by have := Hk.out; have := Hlt.out; omega, by go_num, Hfl.out, hrow, hb⟩
      | true =>
       have hz1 := hz rfl; have HZ := Lib.hid hz1; have Hgr0 := Lib.hid hgr; clear hz hcl hz1 hgr; obtain ⟨gP, rfl⟩ : ∃ n : Nat, n = gk := ⟨_, rfl⟩
       go_wp2_with fail; go_loopg [8, 9] ls.length (fun r av xv wr => ∃ (x : Nat) (ag : Bool) (c : Nat → Nat), x + r = ls.length ∧ xv = .int .i64 x ∧ av = .bool ag ∧ Gr ls wo m k c0 c ∧ Row wr w1.heap.size 3 1 ls.length (rowN ls.length c) ∧ Below w1.heap.size w1 wr ∧ PassOk ls wo m cP c ag x 0)
       case atStart => exact ⟨0, false, cP, by omega, rfl, rfl, Hgr0.out, hrow, hb, PassOk.start⟩
       case round =>
        clear hrow hb; obtain ⟨x, ag, c, hx, rfl, rfl, hgr, hrow, hb, hpass⟩ := hrel; by_cases hxl : x < ls.length
        ·
         obtain ⟨gX, rfl⟩ : ∃ n : Nat, n = gk := ⟨_, rfl⟩
         have Hx := Lib.hid hx; have Hgr1 := Lib.hid hgr; have Hpass1 := Lib.hid hpass; clear hx hgr hpass; go_wp2_with fail; go_loopg [8, 10] ls.length (fun r av yv wr => ∃ (y : Nat) (ag : Bool) (c : Nat → Nat), y + r = ls.length ∧ yv = .int .i64 y ∧ av = .bool ag ∧ Gr ls wo m k c0 c ∧ Row wr w1.heap.size 3 1 ls.length (rowN ls.length c) ∧ Below w1.heap.size w1 wr ∧ PassOk ls wo m cP c ag x y)
         case atStart => exact ⟨0, ag, c, by omega, rfl, rfl, Hgr1.out, hrow, hb, Hpass1.out⟩
         case round =>
          clear hrow hb; clear Hgr1 Hpass1; clear c ag; obtain ⟨y, ag, c, hy, rfl, rfl, hgr, hrow, hb, hpass⟩ := hrel; have Hy := Lib.hid hy; have Hgr := Lib.hid hgr; clear hgr; by_cases hyl : y < ls.length
          ·
           have cx := hrow.atN hxl; have cy := hrow.atN hyl; clear hy; by_cases e1 : c x = m
           ·
            by_cases e2 : c y = 0
            ·
             have q1 : ((c x : Int) == (m : Int)) = true := by rw [e1]; simp
             have q1' : (c x == m) = true := by rw [e1]; simp
             have q2 : ((c y : Int) == 0) = true := by rw [e2]; rfl
             have q2' : (c y == 0) = true := by rw [e2]; rfl
             obtain ⟨b, o, rfl, l0, l1, l2⟩ := (hr1.below hb).at x hxl; obtain ⟨b', o', eb, l3, l4, l5⟩ := (hr1.below hb).at y hyl; cases eb; obtain ⟨⟨x1, x2, x3⟩, hX⟩ : ∃ X : Lk, ls[x] = X := ⟨_, rfl⟩
             obtain ⟨⟨y1, y2, y3⟩, hY⟩ : ∃ Y : Lk, ls[y] = Y := ⟨_, rfl⟩
             rw [hX] at l0 l1 l2; rw [hY] at l3 l4 l5; simp only at l0 l1 l2 l3 l4 l5; have gX' : ls[x]? = some (x1, x2, x3) := by rw [List.getElem?_eq_getElem hxl, hX]
             have gY' : ls[y]? = some (y1, y2, y3) := by rw [List.getElem?_eq_getElem hyl, hY]
             have hwo := hw1.below hb; have GX := Lib.hid gX'; have GY := Lib.hid gY'; have E1 := Lib.hid e1; have E2 := Lib.hid e2; have Hpass := Lib.hid hpass; clear gX' gY' hX hY e1 e2 hpass; go_wp2_with fail
             go_region_held3 (fun w' => RdI w' aw wo ∧ w'.cell? ⟨w1.heap.size, x, none⟩ = some (.int .i64 (c x : Int)) ∧ w'.cell? ⟨w1.heap.size, y, none⟩ = some (.int .i64 (c y : Int)) ∧
               w'.cell? ⟨b, o + x * 3, none⟩ = some (.int .i64 x1) ∧ w'.cell? ⟨b, o + x * 3 + 1, none⟩ = some (.int .i64 x2) ∧ w'.cell? ⟨b, o + x * 3 + 2, none⟩ = some (.int .i64 x3) ∧
               w'.cell? ⟨b, o + y * 3, none⟩ = some (.int .i64 y1) ∧ w'.cell? ⟨b, o + y * 3 + 1, none⟩ = some (.int .i64 y2) ∧ w'.cell? ⟨b, o + y * 3 + 2, none⟩ = some (.int .i64 y3))
              (first | (go_split_ands; refine ⟨RdI.below (by assumption) (by assumption), ?_, ?_, ?_, ?_, ?_, ?_, ?_, ?_⟩ <;> (refine keep_cell (by assumption) ?_; assumption)) | (refine ⟨hwo, ?_⟩; go_keep) | go_keep)
              (first | (go_at_call 125; refine (touch12_walk _ _ _ _ _ _ _ _ _ _ (by first | assumption | (go_split_ands; assumption)) (by omega)).mono ?_; rintro e w' ⟨rfl, hbw⟩))
             have hbw2 : Below wr.heap.size wr w' := bl_trans ((bl_refl wr).drew) hbw; have hrow' := hrow.below hbw2 hrow.lt; have hb' := bl_trans hb hbw2; cases ht : touchB wo (x1, x2, x3) (y1, y2, y3) with
             | false =>
              have hno : NoTrig ls wo m c x y := fun X Y hX hY h => by
               rw [GX.out] at hX; rw [GY.out] at hY; cases hX; cases hY; rw [ht] at h; exact Bool.noConfusion h.2.2
              have hpn := Hpass.out.next hno; have Hpn := Lib.hid hpn; clear hno hpn ht; go_wp2_with fail; go_roundg (gk - 1)
              case measure => have := Hy.out; omega
              case rel => exact ⟨y + 1, ag, c, by have := Hy.out; omega, by go_num, rfl, Hgr.out, hrow', hb', Hpn.out⟩
             | true =>
              have hgs : Gr ls wo m k c0 (upd c y m) := by
               have h1 := Hgr.out; have h2 := E1.out; have h3 := Hm.out; subst h3; exact h1.step HF.out GX.out GY.out h2 E2.out ht
              have hph := Hpass.out.hit (x' := x) (y' := y + 1) hyl E2.out (by have := Hm.out; omega); have Hgs := Lib.hid hgs; have Hph := Lib.hid hph; have cy' := hrow'.atN hyl; have fy' := hrow'.frozen y; have hgl := hrow'.lt; have hrs : Row (w'.setCell ⟨w1.heap.size, y, none⟩ (.int .i64 (m : Int))) w1.heap.size 3 1 ls.length (rowN ls.length (upd c y m)) := by
               have := hrow'.set y (.int .i64 (m : Int)); rw [show (Value.int .i64 (m : Int)) = vN m from rfl, rowN_set] at this; exact this
              have hbs : Below w1.heap.size w1 (w'.setCell ⟨w1.heap.size, y, none⟩ (.int .i64 (m : Int))) := hb'.setCell (Nat.le_refl _) _; clear hgs hph ht; go_wp2_with fail; go_roundg (gk - 1)
              case measure => have := Hy.out; omega
              case rel => exact ⟨y + 1, true, _, by have := Hy.out; omega, by go_num, rfl, Hgs.out, hrs, hbs, Hph.out⟩
            ·
             have q1 : ((c x : Int) == (m : Int)) = true := by rw [e1]; simp
             have q1' : (c x == m) = true := by rw [e1]; simp
             have q2 : ((c y : Int) == 0) = false := by rw [beq_eq_false_iff_ne]; omega
             have q2' : (c y == 0) = false := by simpa using e2
             have hno : NoTrig ls wo m c x y := fun _ _ _ _ h => e2 h.2.1; have hpn := hpass.next hno; have Hpn := Lib.hid hpn; clear hpn hpass hno e1 e2; go_wp2_with fail; go_quiet (fail)
             go_wp2_with fail; go_roundg (gk - 1)
             case measure => have := Hy.out; omega
             case rel => exact ⟨y + 1, ag, c, by have := Hy.out; omega, by go_num, rfl, Hgr.out, hrow, bl_trans hb (below_drewN (bl_refl _) _), Hpn.out⟩
           ·
            have q1 : ((c x : Int) == (m : Int)) = false := by rw [beq_eq_false_iff_ne]; omega
            have q1' : (c x == m) = false := by simpa using e1
            have hno : NoTrig ls wo m c x y := fun _ _ _ _ h => e1 h.1; have hpn := hpass.next hno; have Hpn := Lib.hid hpn; clear hpn hpass hno e1; go_wp2_with fail; go_quiet (fail)
            go_wp2_with fail; go_roundg (gk - 1)
            case measure => have := Hy.out; omega
            case rel => exact ⟨y + 1, ag, c, by have := Hy.out; omega, by go_num, rfl, Hgr.out, hrow, bl_trans hb (below_drewN (bl_refl _) _), Hpn.out⟩
          ·
           have hyn : y = ls.length := by omega
           subst hyn; have hp := hpass.row; have Hp := Lib.hid hp; clear hp hpass hy; go_wp2_with fail; go_roundg (gX - 1)
           case measure => have := Hx.out; omega
           case rel => exact ⟨x + 1, ag, c, by have := Hx.out; omega, by go_num, rfl, Hgr.out, hrow, hb, Hp.out⟩
        ·
         have hxn : x = ls.length := by omega
         subst hxn; have Hgr := Lib.hid hgr; have Hp := Lib.hid hpass; clear hgr hpass hx; go_wp2_with fail; go_roundg (gP - 1)
         case measure => have := HZ.out; omega
         case rel => exact ⟨ag, c, rfl, Hgr.out, hrow, hb, fun e => by have := Hp.out.1 e; have := HZ.out; omega, fun e p q hp hq => (Hp.out.2 e).2.1 p q hp hq⟩
    ·
     have q1 : decide (0 < c0 k) = true := by rw [decide_eq_true_eq]; omega
     have q2 : decide ((0 : Int) < (c0 k : Int)) = true := by rw [decide_eq_true_eq]; omega
     have hsk := hF.skip hlt hck; have Hsk := Lib.hid hsk; clear hsk hF hck; go_wp2_with fail; go_roundg (gA - 1)
     case measure => have := Hk.out; omega
     case rel => exact ⟨k + 1, many, c0, rfl, by have := Hk.out; omega, by go_num, Hsk.out, hrw, hb⟩
   ·
    have hkl : k = ls.length := by omega
    subst hkl; have hgrp := hF.groups Hrt.out; have Hgrp := Lib.hid hgrp; have hgl := hrw.lt; have hrC := hr1.below hb; obtain ⟨wC, rfl⟩ : ∃ wo : World, wo = wr := ⟨_, rfl⟩
    have hCsz := hb.size; clear hgrp hF hk hlt hr1; go_wp2_with fail; go_loopg [11, 12] many (fun r so gv wj => ∃ (g : Nat) (vo : Value) (vals : List Value), vo = so ∧ g + r = many + 1 ∧ 1 ≤ g ∧ gv = .int .i64 g ∧ LRows wj wC.heap.size vo vals ((List.range' 1 (g - 1)).map fun t => pickL ls (ofCol c0 ls.length t)) ∧ Below wC.heap.size wC wj)
    case atStart => exact ⟨1, _, [], rfl, by omega, by omega, rfl, by simpa using LRows.start _ _, bl_refl _⟩
    case round =>
     obtain ⟨g, vo, vals, rfl, hg, hg1, rfl, hL, hbl⟩ := hrel; by_cases hgm : g ≤ many
     ·
      have hvl : vals.length ≤ 1000 := by have := hL.len; rw [List.length_map, List.length_range'] at this; omega
      obtain ⟨wS, rfl⟩ : ∃ wo : World, wo = wr := ⟨_, rfl⟩
      obtain ⟨gO, rfl⟩ : ∃ n : Nat, n = gk := ⟨_, rfl⟩
      have Hg := Lib.hid hg; clear hg; have hgt : ((List.range' 1 (g - 1)).map fun t => pickL ls (ofCol c0 ls.length t)) ++ [pickL ls (ofCol c0 ls.length g)] = (List.range' 1 g).map fun t => pickL ls (ofCol c0 ls.length t) := by
       obtain ⟨d, rfl⟩ : ∃ d, g = d + 1 := ⟨g - 1, by omega⟩
       rw [Nat.add_sub_cancel, List.range'_concat, List.map_append]; simp [Nat.add_comm]
      have Hgt := Lib.hid hgt; clear hgt; obtain ⟨GS, hGS⟩ : ∃ GS, GS = (List.range' 1 (g - 1)).map fun t => pickL ls (ofCol c0 ls.length t) := ⟨_, rfl⟩
      rw [← hGS] at hL Hgt; clear hGS; go_wp2_with fail; go_loopg [13, 14] ls.length (fun r xv iv wj => ∃ (i : Nat) (u : Value), u = xv ∧ i + r = ls.length ∧ iv = .int .i64 i ∧ OwnL wj u (pickL ls (ofCol c0 i g)) ∧ (∀ b, u.ownBlock = some b → wS.heap.size ≤ b) ∧ Below wS.heap.size wS wj)
      case atStart => exact ⟨0, _, rfl, by omega, rfl, own_nil _ _ _, fun b h => by simp [Value.ownBlock] at h, bl_refl _⟩
      case round =>
       obtain ⟨i, u, rfl, hi, rfl, hu, hub, hbS⟩ := hrel; have hbC := bl_trans hbl hbS; have Hu := Lib.hid hu; have Hub := Lib.hid hub; by_cases hil : i < ls.length
       ·
        have ci := (hrw.below hbC hgl).atN hil; have Hi := Lib.hid hi; clear hi hu hub; by_cases hci : c0 i = g
        ·
         have q1 : ((c0 i : Int) == (g : Int)) = true := by rw [hci]; simp
         have q1' : (c0 i == g) = true := by rw [hci]; simp
         obtain ⟨b, o, rfl, l0, l1, l2⟩ := (hrC.below hbC).at i hil; obtain ⟨⟨x, y, z⟩, hX⟩ : ∃ X : Lk, ls[i] = X := ⟨_, rfl⟩
         rw [hX] at l0 l1 l2; simp only at l0 l1 l2; have hkx : ls[i]? = some (x, y, z) := by rw [List.getElem?_eq_getElem hil, hX]
         have hnx : pickL ls (ofCol c0 (i + 1) g) = pickL ls (ofCol c0 i g) ++ [(x, y, z)] := by
          rw [ofCol_succ, if_pos hci, pickL_append, pickL_one hkx]
         have hrl : (pickL ls (ofCol c0 i g)).length ≤ 1000 := by have := pickL_length_le ls (ofCol c0 i g); have := ofCol_length_le c0 i g; omega
         have Hnx := Lib.hid hnx; clear hnx hX hkx hci; obtain ⟨rr, hrr⟩ : ∃ rr, rr = pickL ls (ofCol c0 i g) := ⟨_, rfl⟩
         rw [← hrr] at Hu Hnx hrl; clear hrr; have hone3 : ∀ u ∈ [Value.int .i64 x, Value.int .i64 y, Value.int .i64 z], u.oneCell' = true := by intro u hu; simp only [List.mem_cons, List.not_mem_nil, or_false] at hu; rcases hu with rfl | rfl | rfl <;> rfl
         have hnews3 : ∀ (j : Nat) v, [Value.int .i64 x, Value.int .i64 y, Value.int .i64 z][j]? = some v → (wr.alloc (.cells #[.int .i64 x, .int .i64 y, .int .i64 z] 38)).cell? ((⟨wr.heap.size, 0, none⟩ : Addr).add j) = some v := by
          intro j v hj; match j with
          | 0 => simp at hj; subst hj; simp [Addr.add]
          | 1 => simp at hj; subst hj; simp [Addr.add]
          | 2 => simp at hj; subst hj; simp [Addr.add]
          | j + 3 => simp at hj
         have hown : Own (wr.alloc (.cells #[.int .i64 x, .int .i64 y, .int .i64 z] 38)) u 38 3 rr.length (lkCells rr) := Own.alloc Hu.out _; have Hone3 := Lib.hid hone3; have Hnews3 := Lib.hid hnews3; clear hone3 hnews3; go_wp2_with (at_builtin; refine wpList_append_row _ rfl (.tmp 97) (.tmp 102) 22 rfl 38 (.agg #[.int .i64 0, .int .i64 0, .int .i64 0]) 3 24 Tryz.underlying22 link_info rfl u rr.length _ rfl hown ⟨wr.heap.size, 0, none⟩ 1 1 [.int .i64 x, .int .i64 y, .int .i64 z] rfl rfl Hnews3.out Hone3.out (by omega) (by unfold maxLen; omega) (by omega) ?_); intro g5 c5 w5 hr5 hc5 hg5 hor5; have hb5 : Below wS.heap.size wS w5 := (bl_trans hbS (bl_alloc _ _)).grown hg5 (by have := hbS.size; simp; omega) (fun j hj => Hub.out j hj); have hg6 : wS.heap.size ≤ g5 := by
          rcases hor5 with h | h
          · exact Hub.out g5 h
          · have := hbS.size; first | omega | (simp at h; omega)
         have hr6 : OwnL w5 (.slice (some ⟨g5, 0, none⟩) (rr.length + 1) c5) (pickL ls (ofCol c0 (i + 1) g)) := by
          rw [Hnx.out]; have h1 : Row w5 g5 38 3 c5 (lkCells (rr ++ [(x, y, z)])) := by rw [lkCells_append]; exact hr5
          have := h1.own (n := rr.length + 1) (by rw [lkCells_length]; simp) hc5; unfold OwnL; rw [List.length_append]; exact this
         clear hr5 hg5 hor5 hown; go_wp2_with fail; go_roundg (gk - 1)
         case measure => have := Hi.out; omega
         case rel => exact ⟨i + 1, _, rfl, by have := Hi.out; omega, by go_num, hr6, fun b h => by cases h; exact hg6, hb5⟩
        ·
         have q1 : ((c0 i : Int) == (g : Int)) = false := by rw [beq_eq_false_iff_ne]; omega
         have q1' : (c0 i == g) = false := by simpa using hci
         have hnx : pickL ls (ofCol c0 (i + 1) g) = pickL ls (ofCol c0 i g) := by
          rw [ofCol_succ, if_neg hci, List.append_nil]
         have Hnx := Lib.hid hnx; clear hnx hci; go_wp2_with fail; go_roundg (gk - 1)
         case measure => have := Hi.out; omega
         case rel => exact ⟨i + 1, _, rfl, by have := Hi.out; omega, by go_num, by rw [Hnx.out]; exact Hu.out, Hub.out, hbS⟩
       ·
        have hin : i = ls.length := by omega
        subst hin; clear hi hu hub; obtain ⟨rr, hrr⟩ : ∃ rr, rr = pickL ls (ofCol c0 ls.length g) := ⟨_, rfl⟩
        rw [← hrr] at Hu Hgt; clear hrr; obtain ⟨au, cu, rfl, _⟩ := OwnL.read Hu.out; have hLr := hL.ext hbS; have hbA1 := bl_alloc wr (.cells #[.slice au rr.length cu] 22); have hL4 := hLr.ext hbA1; have hown1 : OwnL (wr.alloc (.cells #[.slice au rr.length cu] 22)) (.slice au rr.length cu) rr := Own.alloc Hu.out _; have hol := hL4.outer; have hn1 : (wr.alloc (.cells #[.slice au rr.length cu] 22)).cell? ⟨wr.heap.size, 0, none⟩ = some (.slice au rr.length cu) := by simp
        have hone : ∀ v ∈ [Value.slice au rr.length cu], v.oneCell' = true := by
         intro v hv; rw [List.mem_singleton] at hv; subst hv; rfl
        have hnews := one_new hn1; have Hone := Lib.hid hone; have Hnews := Lib.hid hnews; clear hone hnews hn1; go_wp2_with (at_builtin; refine wpList_append_row _ rfl (.tmp 104) (.tmp 106) 50 rfl 22 (.slice none 0 0) 1 24 Tryz.underlying50 links_info rfl vo vals.length vals rfl hol ⟨wr.heap.size, 0, none⟩ 1 1 [.slice au rr.length cu] rfl rfl Hnews.out Hone.out (by omega) (by unfold maxLen; omega) (by omega) ?_); intro g' cap' w5 hr5 hc5 hg5 hor5
        have hL5 := hL4.push hown1 (fun b hb' => by
         have h1 := Hub.out b hb'; have h2 := hbl.size; refine ⟨by omega, fun e => ?_, fun i v hv e => ?_⟩
         · have := Own.lt hL.outer e; omega
         · have := hL.rlt hv e; omega) hr5 hc5 hg5 (hor5.imp id (fun h => by simpa using h)) (by have := (bl_trans hbC hbA1).size; exact this)
        have hbl5 : Below wC.heap.size wC w5 := (bl_trans hbC hbA1).grown hg5 (by have := (bl_trans hbC hbA1).size; exact this) (fun j hj => hL.lo j hj); clear hL4 hLr hg5 hor5 hr5 hown1 hol hL; go_wp2_with fail; go_roundg (gO - 1)
        case measure => have := Hg.out; omega
        case rel => exact ⟨g + 1, _, _, rfl, by have := Hg.out; omega, by omega, by go_num, by rw [Nat.add_sub_cancel, ← Hgt.out]; exact hL5, hbl5⟩
     ·
      have hgn : g = many + 1 := by omega
      subst hgn; rw [Nat.add_sub_cancel, ← Hgrp.out] at hL; clear hg; go_wp2_with fail; go_ret; exact ⟨vo, vals, rfl, { hL with lo := fun g hg => by have := hL.lo g hg; have := hb1.size; omega, rlo := fun i u g hu hg => by have h1 := hL.rlo i u g hu hg; have := hb1.size; exact ⟨by omega, h1.2⟩ }, bl_trans hb1 (bl_trans hb hbl)⟩
end Go.Proofs.YtagcbnpahgfgmaaGreat
namespace Go.Proofs.YtagcbnpahgfgmaaGreat
open Go Go.RowKit
theorem refJoined12_walk (a : Option Addr) (cap : Nat) (ls : List Lk) (w : World) (hr : RdL w a ls) (hcap : ls.length ≤ 9223372036854775807) :
  Calls Tryz.prog 61 #[.slice a ls.length cap] w fun e w' => e = .returned (.bool (joinedL ls)) ∧ Below w.heap.size w w' := by
 obtain ⟨g, hg⟩ : ∃ g, g = groupsL ls [] := ⟨_, rfl⟩
 have hgl : g.length ≤ 1000000 := by rw [hg]; have := groups_len_le ls []; omega
 have hj : ((g.length : Int) == 1) = joinedL ls := by unfold joinedL; rw [← hg, Bool.eq_iff_iff]; simp; omega
 have Hj := Lib.hid hj; have Hg := Lib.hid hg; clear hj
 go_enter Tryz.func61, Tryz.ntmps61
 go_wp2_with fail
 refine (refGroups12_walk a cap ls none 0 [] _ hr hcap (by intro i u hu; simp at hu) (by simp)).mono ?_
 rintro e w1 ⟨vo, vals, rfl, hL, hb⟩
 rw [← Hg.out] at hL
 obtain ⟨ao, co, rfl, _⟩ := hL.read
 clear hL hg
 go_wp2_with fail
 go_ret
 exact ⟨by rw [Hj.out] <;> rfl, hb⟩
theorem joined_right {ls : List Lk} (h : joinedL ls = true) : rightL ls = true := by
 unfold joinedL groupsL at h
 cases hr : rightL ls with
 | true => rfl
 | false => rw [hr] at h; simp at h
theorem refTwo12_walk (a : Option Addr) (cap : Nat) (ls : List Lk) (w : World) (hr : RdL w a ls) (hcap : ls.length ≤ 9223372036854775807) :
  Calls Tryz.prog 51 #[.slice a ls.length cap] w fun e w' => e = .returned (.bool (twoL ls)) ∧ Below w.heap.size w w' := by
 cases hj : joinedL ls with
 | false =>
  have h2 : twoL ls = false := by unfold twoL; rw [hj]; rfl
  have Hj := Lib.hid hj; have H2 := Lib.hid h2; clear hj h2
  go_enter Tryz.func51, Tryz.ntmps51
  go_wp2_with fail
  refine (refJoined12_walk a cap ls _ hr hcap).mono ?_
  rw [Hj.out]
  rintro e w1 ⟨rfl, hb1⟩
  go_wp2_with fail
  go_ret
  exact ⟨by rw [H2.out] <;> rfl, hb1⟩
 | true =>
  have hn := ((rightL_iff ls).1 (joined_right hj)).1
  obtain ⟨vs, hvs⟩ : ∃ vs, vs = vertsL ls := ⟨_, rfl⟩
  have hvl : vs.length ≤ 2000 := by rw [hvs]; have := vertsL_length ls; omega
  have ht2 : twoL ls = (decide (vs.length ≤ 2) || vs.all fun v => (groupsL ls [v]).length == 1) := by unfold twoL; rw [hj, ← hvs]; rfl
  have Hvs := Lib.hid hvs; have Hj := Lib.hid hj; have Ht2 := Lib.hid ht2; clear hvs hj ht2
  go_enter Tryz.func51, Tryz.ntmps51
  go_wp2_with fail
  refine (refJoined12_walk a cap ls _ hr hcap).mono ?_
  rw [Hj.out]
  rintro e w1 ⟨rfl, hb1⟩
  have hr1 := hr.below hb1
  go_wp2_with fail
  refine (refVerts12_walk a cap ls _ hr1 (by omega)).mono ?_
  rw [← Hvs.out]
  rintro e w2 ⟨av, cv, rfl, hv, _, hcv, hcm, hb2⟩
  have hr2 := hr1.below hb2
  have hb12 := bl_trans hb1 hb2
  clear hr hr1 hb1 hb2
  unfold maxLen at hcm
  go_wp2_with fail
  go_loopg [4] vs.length (fun r iv wj => ∃ i : Nat, i + r = vs.length ∧ iv = .int .i64 i ∧ (∀ j (h : j < vs.length), j < i → (groupsL ls [vs[j]]).length = 1) ∧ Below w2.heap.size w2 wj)
  case atStart => exact ⟨0, by omega, rfl, fun j h hj => absurd hj (by omega), bl_refl _⟩
  case round =>
   obtain ⟨i, hi, rfl, hall, hb⟩ := hrel; have Hall := Lib.hid hall; have Hi := Lib.hid hi; clear hall; by_cases hil : i < vs.length
   ·
    by_cases h2 : 2 < vs.length
    ·
     clear hi; obtain ⟨b, o, rfl, c0⟩ := (hv.below hb).at i hil; obtain ⟨v, hvi⟩ : ∃ v, vs[i] = v := ⟨_, rfl⟩
     rw [hvi] at c0; have Hvi := Lib.hid hvi; clear hvi; have hrj := hr2.below hb; have hw1 : RdI wr (some ⟨b, o + i, none⟩) [v] := by
      intro j u hu; match j with
      | 0 => simp at hu; subst hu; exact ⟨b, o + i, rfl, c0⟩
      | j + 1 => simp at hu
     obtain ⟨G, hG⟩ : ∃ G, G = groupsL ls [v] := ⟨_, rfl⟩
     have hGl : G.length ≤ 1000 := by rw [hG]; exact groups_len_le _ _
     have HG := Lib.hid hG; clear hG; have hone : i + 1 - i = 1 := by omega
     have hiv : i ≤ cv := by omega
     have hciv : ¬ cv = i := by omega
     go_wp2_with fail; refine (refGroups12_walk a cap ls (some ⟨b, o + i, none⟩) (cv - i) [v] _ hrj hcap hw1 (by simp)).mono ?_; rintro e w4 ⟨vo, vals, rfl, hL, hb4⟩; rw [← HG.out] at hL; obtain ⟨ao, co, rfl, _⟩ := hL.read; clear hL; by_cases hg1 : G.length = 1
     ·
      have q1 : ((G.length : Int) != 1) = false := by rw [hg1]; rfl
      have q2 : (G.length != 1) = false := by rw [hg1]; rfl
      have hst : ∀ j (h : j < vs.length), j < i + 1 → (groupsL ls [vs[j]]).length = 1 := fun j h hj => by
       by_cases e : j < i
       · exact Hall.out j h e
       ·
        obtain rfl : j = i := by omega
        rw [Hvi.out, ← HG.out]; exact hg1
      have Hst := Lib.hid hst; clear hst hg1; go_wp2_with fail; go_roundg (gk - 1)
      case measure => have := Hi.out; omega
      case rel => exact ⟨i + 1, by have := Hi.out; omega, by go_num, Hst.out, bl_trans hb hb4⟩
     ·
      have q1 : ((G.length : Int) != 1) = true := by simp only [bne_iff_ne, ne_eq]; omega
      have q2 : (G.length != 1) = true := by simp only [bne_iff_ne, ne_eq]; omega
      have hfin : twoL ls = false := by
       rw [Ht2.out, Bool.or_eq_false_iff]; refine ⟨by simpa using h2, ?_⟩; rw [List.all_eq_false]; exact ⟨v, by rw [← Hvi.out]; exact List.getElem_mem _, by rw [← HG.out]; simpa using hg1⟩
      have Hfin := Lib.hid hfin; clear hfin hg1; go_wp2_with fail; go_ret; exact ⟨by rw [Hfin.out] <;> rfl, bl_trans hb12 (bl_trans hb hb4)⟩
    ·
     have hfin : twoL ls = true := by
      rw [Ht2.out, decide_eq_true (show vs.length ≤ 2 by omega)]; rfl
     have d2 : decide ((2 : Int) < (vs.length : Int)) = false := by simp; omega
     have d3 : decide (2 < vs.length) = false := by simp; omega
     have Hfin := Lib.hid hfin; clear hfin hi h2; go_wp2_with fail; go_ret; exact ⟨by rw [Hfin.out] <;> rfl, bl_trans hb12 hb⟩
   ·
    have hin : i = vs.length := by omega
    subst hin; have hfin : twoL ls = true := by
     rw [Ht2.out, Bool.or_eq_true]; right; rw [List.all_eq_true]; intro v hv'; obtain ⟨j, hj, rfl⟩ := List.getElem_of_mem hv'; simpa using Hall.out j hj hj
    have Hfin := Lib.hid hfin; clear hfin hi; go_wp2_with fail; go_ret; exact ⟨by rw [Hfin.out] <;> rfl, bl_trans hb12 hb⟩
end Go.Proofs.YtagcbnpahgfgmaaGreat
namespace Go.Proofs.YtagcbnpahgfgmaaGreat
open Go Go.RowKit
theorem take_contains (wo : List Int) (i : Nat) (h : i < wo.length) (x : Int) : (wo.take (i + 1)).contains x = ((wo.take i).contains x || x == wo[i]) := by
 rw [List.take_succ_eq_append_getElem h, List.contains_append, List.contains_cons, List.contains_nil, Bool.or_false]
end Go.Proofs.YtagcbnpahgfgmaaGreat
namespace Go.Proofs.YtagcbnpahgfgmaaGreat
open Go Go.RowKit
theorem take_contains2 (wo : List Int) (i : Nat) (h : i < wo.length) (x : Int) : (wo.take (i + 1)).contains x = ((wo.take i).contains x || wo[i] == x) := by
 rw [take_contains wo i h, show (x == wo[i]) = (wo[i] == x) from BEq.comm]
set_option maxRecDepth 100000 in
set_option maxHeartbeats 4000000 in
theorem may_walk (a : Option Addr) (cap : Nat) (ls : List Lk) (p q : Int) (w : World) (hr : RdL w a ls) (hcap : ls.length ≤ 9223372036854775807) :
  Calls Tryz.prog 141 #[.slice a ls.length cap, .int .i64 p, .int .i64 q] w fun e w' => e = .returned (.bool (mayB ls p q)) ∧ Below w.heap.size w w' := by
 by_cases hpq : p = q
 ·
  have hm : mayB ls p q = false := by unfold mayB; rw [hpq]; simp
  have e1 : (p == q) = true := by simpa using hpq
  have Hm := Lib.hid hm; clear hm hpq
  go_enter Tryz.func141, Tryz.ntmps141
  go_wp2_with fail
  go_ret
  exact ⟨by rw [Hm.out] <;> rfl, bl_refl _⟩
 have e1 : (p == q) = false := by simpa using hpq
 cases h2 : twoL ls with
 | false =>
  have hm : mayB ls p q = false := by unfold mayB; rw [h2]; simp
  have H2 := Lib.hid h2; have Hm := Lib.hid hm; clear h2 hm hpq
  go_enter Tryz.func141, Tryz.ntmps141
  go_wp2_with fail
  refine (refTwo12_walk a cap ls _ hr hcap).mono ?_
  rw [H2.out]
  rintro e w1 ⟨rfl, hb1⟩
  go_wp2_with fail
  go_ret
  exact ⟨by rw [Hm.out] <;> rfl, hb1⟩
 | true =>
  obtain ⟨vs, hvs⟩ : ∃ vs, vs = vertsL ls := ⟨_, rfl⟩
  have hn := (two_right h2).1
  have hvl : vs.length ≤ 2000 := by rw [hvs]; have := vertsL_length ls; omega
  have hm : mayB ls p q = (vs.contains p && vs.contains q) := by unfold mayB; rw [h2, e1, ← hvs]; simp
  have Hvs := Lib.hid hvs; have Hm := Lib.hid hm; have H2 := Lib.hid h2
  clear hvs hm h2 hpq
  go_enter Tryz.func141, Tryz.ntmps141
  go_wp2_with fail
  refine (refTwo12_walk a cap ls _ hr hcap).mono ?_
  rw [H2.out]
  rintro e w1 ⟨rfl, hb1⟩
  go_wp2_with fail
  refine (refVerts12_walk a cap ls _ (hr.below hb1) (by omega)).mono ?_
  rw [← Hvs.out]
  rintro e w2 ⟨av, cv, rfl, hrv, _, hvc, hvm, hb2⟩
  have hB2 := bl_trans hb1 hb2
  clear hb1 hb2 hr
  go_wp2_with fail
  go_loopg [8, 9, 10] vs.length (fun r xv yv iv wj => ∃ (i : Nat) (c d : Bool), i + r = vs.length ∧ iv = .int .i64 i ∧ xv = .bool c ∧ yv = .bool d ∧ c = (vs.take i).contains p ∧ d = (vs.take i).contains q ∧ w2 = wj)
  case atStart => exact ⟨0, false, false, by omega, rfl, rfl, rfl, by simp, by simp, rfl⟩
  case round =>
   obtain ⟨i, c, d, hi, rfl, rfl, rfl, hc, hd, rfl⟩ := hrel; have Hi := Lib.hid hi; by_cases hil : i < vs.length
   ·
    clear hi; obtain ⟨b, o, rfl, c0⟩ := hrv.at i hil; have hst1 := take_contains2 vs i hil p; have hst2 := take_contains2 vs i hil q; obtain ⟨x, hx⟩ : ∃ x, vs[i] = x := ⟨_, rfl⟩
    rw [hx] at c0 hst1 hst2; rw [← hc] at hst1; rw [← hd] at hst2; clear hx hc hd; obtain ⟨t1, ht1⟩ : ∃ t, (x == p) = t := ⟨_, rfl⟩
    obtain ⟨t2, ht2⟩ : ∃ t, (x == q) = t := ⟨_, rfl⟩
    rw [ht1] at hst1; rw [ht2] at hst2; cases c with
    | true =>
     rw [Bool.true_or] at hst1; cases d with
     | true =>
      rw [Bool.true_or] at hst2; have Hst1 := Lib.hid hst1; have Hst2 := Lib.hid hst2; clear hst1 hst2; go_wp2_with fail; go_roundg (gk - 1)
      case measure => have := Hi.out; omega
      case rel => exact ⟨i + 1, _, _, by have := Hi.out; omega, by go_num, rfl, rfl, Hst1.out.symm, Hst2.out.symm, rfl⟩
     | false =>
      rw [Bool.false_or] at hst2; have Hst1 := Lib.hid hst1; have Hst2 := Lib.hid hst2; clear hst1 hst2; go_wp2_with fail; go_roundg (gk - 1)
      case measure => have := Hi.out; omega
      case rel => exact ⟨i + 1, _, _, by have := Hi.out; omega, by go_num, rfl, rfl, Hst1.out.symm, Hst2.out.symm, rfl⟩
    | false =>
     rw [Bool.false_or] at hst1; cases d with
     | true =>
      rw [Bool.true_or] at hst2; have Hst1 := Lib.hid hst1; have Hst2 := Lib.hid hst2; clear hst1 hst2; go_wp2_with fail; go_roundg (gk - 1)
      case measure => have := Hi.out; omega
      case rel => exact ⟨i + 1, _, _, by have := Hi.out; omega, by go_num, rfl, rfl, Hst1.out.symm, Hst2.out.symm, rfl⟩
     | false =>
      rw [Bool.false_or] at hst2; have Hst1 := Lib.hid hst1; have Hst2 := Lib.hid hst2; clear hst1 hst2; go_wp2_with fail; go_roundg (gk - 1)
      case measure => have := Hi.out; omega
      case rel => exact ⟨i + 1, _, _, by have := Hi.out; omega, by go_num, rfl, rfl, Hst1.out.symm, Hst2.out.symm, rfl⟩
   ·
    have hin : i = vs.length := by omega
    subst hin; rw [List.take_length] at hc hd; have hm := Hm.out; rw [← hc, ← hd] at hm; have Hm2 := Lib.hid hm; clear hm hc hd hi; cases c with
    | true =>
     go_wp2_with fail; go_ret; exact ⟨by rw [Hm2.out] <;> rfl, hB2⟩
    | false =>
     go_wp2_with fail; go_ret; exact ⟨by rw [Hm2.out] <;> rfl, hB2⟩
set_option maxRecDepth 100000 in
set_option maxHeartbeats 4000000 in
theorem refClasses_walk (a : Option Addr) (cap : Nat) (ls : List Lk) (p q : Int) (w : World) (hr : RdL w a ls) (hcap : ls.length ≤ 9223372036854775807) :
  Calls Tryz.prog 127 #[.slice a ls.length cap, .int .i64 p, .int .i64 q] w (RetC w (classesL ls p q)) := by
 cases hm : mayB ls p q with
 | false =>
  have hc : classesL ls p q = ([], 130) := by unfold classesL; rw [hm]; rfl
  have Hm := Lib.hid hm; have Hc := Lib.hid hc; clear hm hc
  go_enter Tryz.func127, Tryz.ntmps127
  go_wp2_with fail
  refine (may_walk a cap ls p q _ hr hcap).mono ?_
  rw [Hm.out]
  rintro e w1 ⟨rfl, hb1⟩
  go_wp2_with fail
  go_ret2
  rw [Hc.out]
  exact ⟨_, [], rfl, LRows.start _ _, hb1⟩
 | true =>
  have hc : classesL ls p q = (groupsL ls [p, q], 0) := by unfold classesL; rw [hm]; rfl
  have Hm := Lib.hid hm; have Hc := Lib.hid hc; clear hm hc
  go_enter Tryz.func127, Tryz.ntmps127
  go_wp2_with fail
  refine (may_walk a cap ls p q _ hr hcap).mono ?_
  rw [Hm.out]
  rintro e w1 ⟨rfl, hb1⟩
  have hbA := bl_trans hb1 (bl_alloc w1 (.cells #[.int .i64 p, .int .i64 q] 3))
  have hpq2 : RdI (w1.alloc (.cells #[.int .i64 p, .int .i64 q] 3)) (some ⟨w1.heap.size, 0, none⟩) [p, q] := by
   intro j v hj; refine ⟨w1.heap.size, 0, rfl, ?_⟩; match j with
   | 0 => simp at hj; subst hj; exact (two_cells _ _ _ _ rfl).1
   | 1 => simp at hj; subst hj; exact (two_cells _ _ _ _ rfl).2
   | j + 2 => simp at hj
  have hr3 := hr.below hbA
  go_wp2_with fail
  refine (refGroups12_walk a cap ls _ _ [p, q] _ hr3 hcap hpq2 (by simp)).mono ?_
  rintro e w3 ⟨vo, vals, rfl, hL, hb3⟩
  have hB4 := bl_trans hbA hb3
  have hszB := hbA.size
  go_wp2_with fail
  go_ret2
  rw [Hc.out]
  exact ⟨vo, vals, rfl, { hL with lo := fun g hg => by have := hL.lo g hg; omega, rlo := fun i u g hu hg => by have h1 := hL.rlo i u g hu hg; exact ⟨by omega, h1.2⟩ }, hB4⟩
end Go.Proofs.YtagcbnpahgfgmaaGreat
