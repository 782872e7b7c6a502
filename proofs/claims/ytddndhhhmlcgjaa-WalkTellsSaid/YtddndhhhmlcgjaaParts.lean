/- walk.Parts. -/
import Derived.Test.YtddndhhhmlcgjaaPartsM
namespace Go.Proofs.Ytddndhhhmlcgjaa
open Go Go.RowKit

def RetPartsFn (w : World) (n : Int) (es : List (Int × Int)) (e : Ending) (w' : World) : Prop :=
  Below w.heap.size w w' ∧
  ((rightB n es = false ∧ e = .returned (.slice none 0 0)) ∨
   (rightB n es = true ∧ ∃ G c vals, e = .returned (.slice (some ⟨G, 0, none⟩) (partsL (besideL n.toNat es)).length c) ∧ FRows w' w.heap.size G 27 3 c vals (rowsV (partsL (besideL n.toNat es)))))

theorem seen_set {met : List Bool} {seen : List Nat} {n x : Nat} (hl : met.length = n) (h : ∀ y, y < n → met[y]? = some (seen.contains y)) : ∀ y, y < n → (met.set x true)[y]? = some ((seen ++ [x]).contains y) := by
  intro y hy
  rw [List.getElem?_set]
  by_cases hxy : x = y
  · subst hxy; rw [if_pos rfl, if_pos (by omega)]; simp
  · rw [if_neg hxy, h y hy]; simp [Ne.symm hxy]

set_option maxHeartbeats 2000000 in
theorem partsFn_walk (n : Int) (a : Option Addr) (cap : Nat) (es : List (Int × Int)) (w : World) (hr : RdP w a es) (hcap : es.length ≤ 9223372036854775807) :
    Calls Try.prog 20 #[.agg #[.int .i64 n, .slice a es.length cap]] w (RetPartsFn w n es) := by
  go_enter Try.func20, Try.ntmps20
  go_wp2_with fail
  refine (start_walk n a cap es none [] 0 _ (hr.below (bl_alloc _ _)) (by intro i u hu; simp at hu) hcap (by simp)).mono ?_
  rintro e w1 ⟨hb1, hcase⟩
  have hB : Below w.heap.size w w1 := bl_trans (bl_alloc _ _) hb1
  obtain ⟨c0, c1⟩ : w1.cell? ⟨w.heap.size, 0, none⟩ = some (.int .i64 n) ∧ w1.cell? ⟨w.heap.size, 1, none⟩ = some (.slice a es.length cap) := ⟨keep_cell hb1 (by simp), keep_cell hb1 (by simp)⟩
  have hz1 : w.heap.size < w1.heap.size := by have := hb1.size; simp at this; omega
  rcases hcase with ⟨hright, rfl⟩ | ⟨hright, hin, rfl⟩ | ⟨hright, hin, G, vals, rfl, hG, hrows⟩
  · have Hr := Lib.hid hright; clear hright
    go_wp2_with fail
    go_ret
    exact ⟨hB, .inl ⟨Hr.out, rfl⟩⟩
  · simp at hin
  · obtain ⟨h0, hn2, _⟩ := (rightB_iff _ _).1 hright
    obtain ⟨m, rfl⟩ : ∃ m : Nat, n = m := ⟨n.toNat, by omega⟩
    have hok := beside_ok (m := m) rfl hright
    rw [Int.toNat_natCast] at hrows
    obtain ⟨bs, hbs⟩ : ∃ bs, bs = besideL m es := ⟨_, rfl⟩
    have hbl : bs.length = m := by rw [hbs, besideL_length]
    rw [← hbs] at hrows hok
    have Hr := Lib.hid hright; have Hok := Lib.hid hok; have Hbs := Lib.hid hbs; have Hbl := Lib.hid hbl; clear hright hok hbs hbl hin
    have hmb := run_make_row' (P := Try.prog) 44 4 (.bool false) 1 Try.underlying44 bool_info rfl .i64 .i64 m (by omega) (by omega)
    go_wp2_with fail
    have hGl : G < w1.heap.size := hrows.outer.lt
    go_loopg [5, 25] m (fun r vp vi wr => ∃ (v gp cp : Nat) (pv : List Value) (met : List Bool) (s : List Nat × List (List Nat)), vp = .slice (some ⟨gp, 0, none⟩) s.2.length cp ∧ vi = .int .i64 v ∧ v + r = m ∧
      s = (List.range v).foldl (parts1 bs) ([], []) ∧ FRows wr w1.heap.size gp 27 3 cp pv (rowsV s.2) ∧ Row wr (w1.heap.size + 1) 4 1 m (met.map Value.bool) ∧ met.length = m ∧
      (∀ y, y < m → met[y]? = some (s.1.contains y)) ∧ Below w1.heap.size w1 wr ∧ gp ≠ w1.heap.size + 1 ∧ (∀ (i : Nat) (u : Value), pv[i]? = some u → u.ownBlock ≠ some (w1.heap.size + 1)))
    case atStart =>
      refine ⟨0, w1.heap.size, 0, [], List.replicate m false, ([], []), rfl, rfl, by omega, rfl, ?_, ?_, by simp, ?_, ?_, by omega, by simp⟩
      · refine ⟨rfl, ?_, ?_, ?_, Nat.le_refl _⟩
        · refine Row.alloc ?_ _
          have := row_new w1 #[] 27 1 0 rfl (by unfold maxLen; omega)
          simpa using this
        · intro i u r hu; simp at hu
        · intro i j g u v _ hu; simp at hu
      · have := row_made (w1.alloc (.cells #[] 27)) (.bool false) m 4 (by unfold maxLen; omega)
        simpa using this
      · intro y hy; simp [hy]
      · exact bl_trans (bl_alloc _ _) (bl_alloc _ _)
    case round =>
      obtain ⟨v, gp, cp, pv, met, s, rfl, rfl, hvr, hs, hfr, hrm, hml, hmet, hb2, hne, hpv⟩ := hrel
      have hz2 : w1.heap.size + 1 < wr.heap.size := hrm.lt
      by_cases hlt : v < m
      · have hsl : s.2.length ≤ v := by rw [hs]; have := parts_take_len (bs := bs) (List.range v) ([], []); simpa using this
        have hmv := hmet v hlt
        have hcm : wr.cell? ⟨w1.heap.size + 1, v, none⟩ = some (.bool (s.1.contains v)) := by rw [hrm.cell? v (by simp; omega)]; simp only [List.getElem?_map, hmv]; rfl
        have hsn : (List.range (v + 1)).foldl (parts1 bs) ([], []) = parts1 bs s v := by rw [List.range_succ, List.foldl_append, ← hs]; rfl
        have Hsn := Lib.hid hsn; have Hs := Lib.hid hs; have Hmv := Lib.hid hmv; have Hmet := Lib.hid hmet; have Hml := Lib.hid hml; have Hvr := Lib.hid hvr
        clear hsn hs hmv hmet hml hvr
        have iv0 : (0 : Int) ≤ (v : Int) := by omega
        have iv1 : (v : Int) < (m : Int) := by omega
        cases hcon : s.1.contains v with
        | true =>
          rw [hcon] at hcm
          have hp1 : parts1 bs s v = s := by unfold parts1; rw [if_pos hcon]
          have Hp1 := Lib.hid hp1; clear hp1 hcon
          go_wp2_with fail
          go_roundg (gk - 1)
          case measure => have := Hvr.out; omega
          case rel => exact ⟨v + 1, gp, cp, pv, met, s, rfl, by go_num, by have := Hvr.out; omega, by rw [Hsn.out, Hp1.out], hfr, hrm, Hml.out, Hmet.out, hb2, hne, hpv⟩
        | false =>
          rw [hcon] at hcm
          have hp1 : parts1 bs s v = (s.1 ++ (walkL bs v).1, s.2 ++ [sortN (walkL bs v).1]) := by unfold parts1; rw [hcon]; rfl
          have hpl : (walkL bs v).1.length ≤ 401 := by have := walkL_len (bs := bs) (st := v); rw [Hbl.out] at this; omega
          have hpx : ∀ x ∈ (walkL bs v).1, x < m := walkL_lt (fun v r h => (Hok.out v r h).2) hlt
          have Hp1 := Lib.hid hp1; have Hpx := Lib.hid hpx; clear hp1 hcon hpx
          go_wp2_with (go_at_call 27; refine (walk_walk G m vals bs v _ (hrows.below hb2) Hbl.out Hok.out hlt (by omega)).mono ?_; rintro e w2 ⟨go, co, gu, rfl, hro, hru, hul, hgo, hgu, hneg, hb3⟩)
          have hrm2 := hrm.below hb3 hrm.lt
          obtain ⟨part, hpart⟩ : ∃ part, part = (walkL bs v).1 := ⟨_, rfl⟩
          rw [← hpart] at hpl hro
          simp only [← hpart]
          have hpx : ∀ x ∈ part, x < m := by rw [hpart]; exact Hpx.out
          have Hpart := Lib.hid hpart; clear hpart
          have hz3 : wr.heap.size ≤ w2.heap.size := hb3.size
          go_loopg [40] part.length (fun q vj wi => ∃ (j : Nat) (mt : List Bool), vj = .int .i64 j ∧ j + q = part.length ∧ w2.grownBy wi (some (w1.heap.size + 1)) ∧ Row wi (w1.heap.size + 1) 4 1 m (mt.map Value.bool) ∧ mt.length = m ∧
            (∀ y, y < m → mt[y]? = some ((s.1 ++ part.take j).contains y)))
          case atStart => exact ⟨0, met, rfl, by omega, World.grownBy.refl _ _, hrm2, Hml.out, by simpa using Hmet.out⟩
          case round =>
            obtain ⟨j, mt, rfl, hjq, hgr, hrm3, hmtl, hmt⟩ := hrel
            by_cases hjl : j < part.length
            · obtain ⟨x, hx⟩ : ∃ x, part[j]? = some x := ⟨part[j], by simp⟩
              have hxm := hpx x (List.mem_of_getElem? hx)
              have hro2 := hro.grown hgr (by simp; omega)
              have hcx : wr.cell? ⟨go, j, none⟩ = some (.int .i64 x) := by rw [hro2.cell? j (by simpa using hjl)]; simp [hx, vN]
              have hcy : ∃ y, wr.cell? ⟨w1.heap.size + 1, x, none⟩ = some y := ⟨_, hrm3.cell x (by simp; omega)⟩
              obtain ⟨y, hcy⟩ := hcy
              have hfx : wr.frozen? ⟨w1.heap.size + 1, x, none⟩ = false := hrm3.frozen x
              have hmt2 : ∀ y, y < m → (mt.set x true)[y]? = some ((s.1 ++ part.take (j + 1)).contains y) := by
                have h := seen_set hmtl hmt (x := x)
                have e : s.1 ++ part.take (j + 1) = s.1 ++ part.take j ++ [x] := by
                  rw [List.take_succ_eq_append_getElem hjl, List.append_assoc]
                  rw [List.getElem?_eq_getElem hjl] at hx
                  cases hx; rfl
                rw [e]; exact h
              have hrm4 := hrm3.set x (.bool true)
              rw [← List.map_set] at hrm4
              have Hmt2 := Lib.hid hmt2; have Hx := Lib.hid hx; have Hjq := Lib.hid hjq; have Hmtl := Lib.hid hmtl; clear hmt2 hx hmt hjq hmtl
              have ix0 : (0 : Int) ≤ (x : Int) := by omega
              have ix1 : (x : Int) < (m : Int) := by omega
              go_wp2_with fail
              go_roundg (gk - 1)
              case measure => have := Hjq.out; omega
              case rel => exact ⟨j + 1, mt.set x true, by go_num, by have := Hjq.out; omega, grownBy_trans hgr (grownBy_set _ _ _ _), hrm4, by simpa using Hmtl.out, Hmt2.out⟩
            · have hj : part.take j = part := List.take_of_length_le (by omega)
              rw [hj] at hmt
              have Hmt := Lib.hid hmt; have Hmtl := Lib.hid hmtl; clear hmt hj hmtl
              have hro2 := hro.grown hgr (by simp; omega)
              have hfr2 := (hfr.ext hb3).grown hgr (by simp; exact fun e => hne e.symm) (fun i g u hu hg e => hpv i u hu (by rw [hg]; exact e.symm))
              have hsz : w2.heap.size ≤ wr.heap.size := hgr.size
              go_upto_region 17 with (go_at_call 33; refine (sort_rowN go co part _ hro2 (by omega)).mono ?_; rintro e w4 ⟨rfl, hro4, hgr4⟩)
              have hlt2 : ∀ (i g : Nat) (u : Value), pv[i]? = some u → u.ownBlock = some g → g < go := fun i g u hu hg => by
                have := (hfr.lt hu hg).1; omega
              have hgpl : gp < go := by have := hfr.outer.lt; omega
              have hfr4 := hfr2.grown hgr4 (by simp; omega) (fun i g u hu hg e => by have := hlt2 i g u hu hg; have := Option.some.inj e; omega)
              have hrm5 := hrm3.grown hgr4 (by simp; omega)
              have hb5 : Below w1.heap.size w1 w4 := ((bl_trans hb2 hb3).grown hgr (by omega) (fun k hk => by cases hk; omega)).grown hgr4 (by omega) (fun k hk => by cases hk; omega)
              have hz4 : wr.heap.size ≤ w4.heap.size := hgr4.size
              have hpvl : pv.length = s.2.length := by rw [hfr.len]; simp [rowsV]
              have hown := (hfr4.outer.alloc (.cells #[.slice (some ⟨go, 0, none⟩) part.length co] 27)).own1
              rw [hpvl] at hown
              go_wp2_with (at_builtin; refine wpList_append_row _ rfl (.tmp 50) (.tmp 52) 36 rfl 27 (.slice none 0 0) 1 24 Try.underlying36 ints_info rfl _ _ _ rfl hown ⟨w4.heap.size, 0, none⟩ 1 1 [.slice (some ⟨go, 0, none⟩) part.length co] rfl rfl (one_new (by simp)) (by intro u hu; simp at hu; subst hu; rfl) (by omega) (by unfold maxLen; omega) (by omega) ?_)
              intro g1 c1 w5 hr1 hc1 hgr1 hor1
              have hrl : ((sortN part).map vN).length = part.length := by simp [sortN_length]
              have hext : Below w4.heap.size w4 (w4.alloc (.cells #[.slice (some ⟨go, 0, none⟩) part.length co] 27)) := bl_alloc _ _
              have hpush := (hfr4.ext hext).push (hro4.alloc _) (by omega) (by omega) (fun i u hu e => by have := hlt2 i go u hu e; omega) (by rw [hrl]; exact hr1) hgr1 (hor1.imp id (fun h => by simpa using h))
              have hrm6 := (hrm5.alloc (.cells #[.slice (some ⟨go, 0, none⟩) part.length co] 27)).grown hgr1 (by simp [Value.ownBlock]; exact hne)
              have hb6 : Below w1.heap.size w1 w5 := (bl_trans hb5 hext).grown hgr1 (by simp; omega) (fun k hk => by cases hk; exact hfr.lo)
              have hg1 : g1 ≠ w1.heap.size + 1 := by
                rcases hor1 with h | h
                · have h' : some gp = some g1 := h
                  have := Option.some.inj h'; omega
                · omega
              clear hfr4 hfr2 hown hr1 hgr1 hor1 hro2 hro4 hgr4 hgr hrm5 hrm3 hrm2 hfr hb5 hext
              go_wp2_with fail
              go_roundg (m - (v + 1))
              case measure => have := Hvr.out; omega
              case rel =>
                refine ⟨v + 1, g1, c1, pv ++ [.slice (some ⟨go, 0, none⟩) part.length co], mt, (s.1 ++ part, s.2 ++ [sortN part]), by simp, by go_num, by omega, ?_, ?_, hrm6, Hmtl.out, Hmt.out, hb6, hg1, ?_⟩
                · rw [Hsn.out, Hp1.out, ← Hpart.out]
                · have h := hpush
                  rw [hrl] at h
                  simpa [rowsV] using h
                · intro i u hu
                  by_cases hi : i < pv.length
                  · rw [List.getElem?_append_left hi] at hu; exact hpv i u hu
                  · have h1 := (List.getElem?_eq_some_iff.1 hu).1
                    simp at h1
                    obtain rfl : i = pv.length := by omega
                    simp at hu
                    subst hu
                    intro e
                    have h' : some go = some (w1.heap.size + 1) := e
                    have := Option.some.inj h'; omega
      · have hvm : v = m := by omega
        subst hvm
        have Hs := Lib.hid hs; clear hs
        have hz0 : w.heap.size ≤ w1.heap.size := by omega
        go_wp2_with fail
        go_ret
        refine ⟨bl_trans hB hb2, .inr ⟨Hr.out, gp, cp, pv, ?_, ?_⟩⟩
        · simp only [Int.toNat_natCast]; rw [← Hbs.out]; unfold partsL; rw [Hbl.out, ← Hs.out]; rfl
        · simp only [Int.toNat_natCast]; rw [← Hbs.out]; unfold partsL; rw [Hbl.out, ← Hs.out]; exact hfr.mono hz0
end Go.Proofs.Ytddndhhhmlcgjaa
