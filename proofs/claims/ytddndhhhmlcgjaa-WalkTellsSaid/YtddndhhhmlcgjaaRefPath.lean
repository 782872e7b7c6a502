/- fretworkref04.Path. -/
import Derived.Test.YtddndhhhmlcgjaaRefLess
import Derived.Outline
namespace Go.Proofs.Ytddndhhhmlcgjaa
open Go Go.RowKit

def pathR (n : Int) (es : List (Int × Int)) (st tt : Int) : List Int × Int :=
  if askE n es st ≠ 0 then ([], askE n es st) else if askE n es tt ≠ 0 then ([], askE n es tt) else
    if (awayL (besideL n.toNat es) st.toNat).getD tt.toNat 0 < 0 then ([], 60) else (castL (pathL (besideL n.toNat es) st.toNat tt.toNat), 0)

theorem rdI_news {w : World} {b o : Nat} {xs : List Int} (h : RdI w (some ⟨b, o, none⟩) xs) : ∀ j u, (xs.map (Value.int .i64))[j]? = some u → w.cell? ((⟨b, o, none⟩ : Addr).add j) = some u := by
  intro j u hu
  obtain ⟨b', o', e, hc⟩ := h j u hu
  simp at e
  obtain ⟨rfl, rfl⟩ := e
  unfold Addr.add
  split <;> simp_all
theorem ints_one (xs : List Int) : ∀ u ∈ xs.map (Value.int .i64), u.oneCell' = true := by
  intro u hu
  obtain ⟨q, _, rfl⟩ := List.mem_map.1 hu
  rfl
theorem castL_snoc (l : List Nat) (x : Nat) : castL (l ++ [x]) = castL l ++ [(x : Int)] := by simp [castL]

set_option maxRecDepth 100000 in
set_option maxHeartbeats 2000000 in
theorem refPath_main (m : Nat) (a : Option Addr) (cap : Nat) (es : List (Int × Int)) (s t : Nat) (w : World) (hr : RdP w a es) (hcap : es.length ≤ 9223372036854775807) (hask : askE m es s = 0) (hask2 : askE m es t = 0) :
    Calls Try.prog 17 #[.agg #[.int .i64 m, .slice a es.length cap], .int .i64 s, .int .i64 t] w (RetL w (pathR m es s t).1 (pathR m es s t).2) := by
  have hbx : Below w.heap.size w (w.alloc (.cells #[.int .i64 m, .slice a es.length cap] 24)) := bl_alloc _ _
  obtain ⟨hright, h0, h1⟩ := ask_zero hask
  obtain ⟨_, h2, h3⟩ := ask_zero hask2
  have hn2 := ((rightB_iff _ _).1 hright).2.1
  have hsm : s < m := by omega
  have htm : t < m := by omega
  have haw := (ask_ok hright hsm).2
  have hds := away_dist hright hsm
  have hdl := hds.len
  have hleast := pathL_least hright hsm htm
  have hsym := hds.symm (adj_sym hright) (away_dist hright htm) htm hsm
  have haww := refAway_walk m a cap es s
  rw [hask, haw] at haww
  have hpr : pathR m es s t = if (awayL (besideL m es) s).getD t 0 < 0 then ([], 60) else (castL (pathL (besideL m es) s t), 0) := by
    unfold pathR
    rw [if_neg (by simp [hask]), if_neg (by simp [hask2])]
    simp only [Int.toNat_natCast]
  obtain ⟨d, hd⟩ : ∃ d, d = awayL (besideL m es) s := ⟨_, rfl⟩
  rw [← hd] at hds hdl hleast haww hsym hpr
  obtain ⟨z, hz⟩ : ∃ z, d[t]? = some z := ⟨d[t]'(by rw [hdl]; exact htm), by simp⟩
  have hz2 : (awayL (besideL m es) t).getD s 0 = z := by rw [List.getD, ← hsym, hz]; rfl
  have hz0 : d.getD t 0 = z := by rw [List.getD, hz]; rfl
  rw [hz2] at hleast
  rw [hz0] at hpr
  have vz := hds.val t z hz
  have Hr := Lib.hid hright; have Hask := Lib.hid hask; have Hask2 := Lib.hid hask2; have Hdl := Lib.hid hdl; have Hds := Lib.hid hds; have Hz := Lib.hid hz
  by_cases hneg : z < 0
  · rw [if_pos hneg] at hpr
    rw [hpr]
    have g1 : decide (z < 0) = true := by simpa using hneg
    clear hpr hright hask hask2 hdl hds hz hz0 hz2 hleast hsym haw hd
    go_enter Try.func17, Try.ntmps17
    go_wp2_with fail
    refine (asked_walk m a cap es s _ (hr.below hbx) hcap).mono ?_
    rw [Hask.out]
    rintro e w1 ⟨rfl, hb1⟩
    have q0 : w1.cell? ⟨w.heap.size, 0, none⟩ = some (.int .i64 m) := keep_cell hb1 (by simp)
    have q1 : w1.cell? ⟨w.heap.size, 1, none⟩ = some (.slice a es.length cap) := keep_cell hb1 (by simp)
    have hB1 := bl_trans hbx hb1
    clear hb1
    go_wp2_with fail
    refine (asked_walk m a cap es t _ (hr.below hB1) hcap).mono ?_
    rw [Hask2.out]
    rintro e w2 ⟨rfl, hb2⟩
    replace q0 := keep_cell hb2 q0; replace q1 := keep_cell hb2 q1
    have hB2 := bl_trans hB1 hb2
    clear hb2
    go_wp2_with fail
    refine (haww _ (hr.below hB2) hcap).mono ?_
    rintro e w3 ⟨hb3, a6, c6, rfl, hrd⟩
    replace q0 := keep_cell hb3 q0; replace q1 := keep_cell hb3 q1
    have hB3 := bl_trans hB2 hb3
    clear hb3 haww
    obtain ⟨b6, o6, rfl, hcx⟩ := hrd.at t (by rw [Hdl.out]; exact htm)
    clear hcx
    have Hcell : ∀ j (hj : j < d.length), w3.cell? ⟨b6, o6 + j, none⟩ = some (.int .i64 d[j]) := by
      intro j hj
      obtain ⟨b', o', e, hc'⟩ := hrd.at j hj
      simp at e
      obtain ⟨rfl, rfl⟩ := e
      exact hc'
    have HC := Lib.hid Hcell; clear Hcell hrd
    have q2 : w3.cell? ⟨b6, o6 + t, none⟩ = some (.int .i64 z) := by
      obtain ⟨hl', e⟩ := List.getElem?_eq_some_iff.1 Hz.out
      rw [HC.out t hl', e]
    rw [Hdl.out]
    go_wp2_with fail
    go_ret2
    exact ⟨hB3, none, 0, rfl, rdI_nil _ _⟩
  · rw [if_neg hneg] at hpr
    rw [hpr]
    have g1 : decide (z < 0) = false := by simpa using hneg
    obtain ⟨D, rfl⟩ := Int.eq_ofNat_of_zero_le (show 0 ≤ z by omega)
    have hL := hleast (by omega)
    obtain ⟨L, hLe⟩ : ∃ L, L = pathL (besideL m es) s t := ⟨_, rfl⟩
    rw [← hLe] at hL ⊢
    have HL := Lib.hid hL
    have hmk := run_make_row' (P := Try.prog) 36 27 (.slice none 0 0) 24 Try.underlying36 ints_info rfl .i64 .i64 m (by omega) (by omega)
    clear hpr hright hask hask2 hdl hds hz hz0 hz2 hleast hsym haw hd hL hLe
    go_enter Try.func17, Try.ntmps17
    go_wp2_with fail
    refine (asked_walk m a cap es s _ (hr.below hbx) hcap).mono ?_
    rw [Hask.out]
    rintro e w1 ⟨rfl, hb1⟩
    have q0 : w1.cell? ⟨w.heap.size, 0, none⟩ = some (.int .i64 m) := keep_cell hb1 (by simp)
    have q1 : w1.cell? ⟨w.heap.size, 1, none⟩ = some (.slice a es.length cap) := keep_cell hb1 (by simp)
    have hB1 := bl_trans hbx hb1
    clear hb1
    go_wp2_with fail
    refine (asked_walk m a cap es t _ (hr.below hB1) hcap).mono ?_
    rw [Hask2.out]
    rintro e w2 ⟨rfl, hb2⟩
    replace q0 := keep_cell hb2 q0; replace q1 := keep_cell hb2 q1
    have hB2 := bl_trans hB1 hb2
    clear hb2
    go_wp2_with fail
    refine (haww _ (hr.below hB2) hcap).mono ?_
    rintro e w3 ⟨hb3, a6, c6, rfl, hrd⟩
    replace q0 := keep_cell hb3 q0; replace q1 := keep_cell hb3 q1
    have hB3 := bl_trans hB2 hb3
    clear hb3 haww
    obtain ⟨b6, o6, rfl, hcx⟩ := hrd.at t (by rw [Hdl.out]; exact htm)
    clear hcx
    have Hcell : ∀ j (hj : j < d.length), w3.cell? ⟨b6, o6 + j, none⟩ = some (.int .i64 d[j]) := by
      intro j hj
      obtain ⟨b', o', e, hc'⟩ := hrd.at j hj
      simp at e
      obtain ⟨rfl, rfl⟩ := e
      exact hc'
    have HC := Lib.hid Hcell; clear Hcell hrd
    have q2 : w3.cell? ⟨b6, o6 + t, none⟩ = some (.int .i64 (D:Int)) := by
      obtain ⟨hl', e⟩ := List.getElem?_eq_some_iff.1 Hz.out
      rw [HC.out t hl', e]
    rw [Hdl.out]
    have szw := World.block_lt_of_cell? _ _ q0
    have sz6 := World.block_lt_of_cell? _ _ q2
    go_upto_region 10 with (fail)
    have hrow := row_made w3 (.slice none 0 0) m 27 (by unfold maxLen; omega)
    have hW0 : WS w3 (w3.alloc (.cells (madeCells #[.slice none 0 0] m) 27)) w3.heap.size m (List.replicate m (.slice none 0 0)) (fun _ => []) := by
      refine ⟨hrow, by simp, fun i u hu => ?_, Nat.le_refl _, bl_alloc _ _⟩
      obtain ⟨hl', e⟩ := List.getElem?_eq_some_iff.1 hu
      simp at e
      exact ⟨none, 0, by rw [← e]; rfl, rdI_nil _ _, fun ad h => by cases h⟩
    generalize w3.alloc (.cells (madeCells #[.slice none 0 0] m) 27) = w4 at hW0 ⊢
    have C0 := q0; have C1 := q1; have Q2 := q2
    have szw3 : w.heap.size < w3.heap.size := szw
    have sz63 : b6 < w3.heap.size := sz6
    clear q0 q1 q2 hrow hmk szw sz6
    obtain ⟨gw, hgw⟩ : ∃ gw, gw = w3.heap.size := ⟨_, rfl⟩
    rw [← hgw] at hW0 ⊢
    have Hgw := Lib.hid hgw; clear hgw
    have hgwl := hW0.outer.lt
    have r0 : w4.cell? ⟨gw, s, none⟩ = some (.slice none 0 0) := by rw [hW0.outer.cell? s (by simpa using hsm)]; simp [hsm]
    have r1 : w4.frozen? ⟨gw, s, none⟩ = false := hW0.outer.frozen s
    have hW1 := (hW0.ext (bl_alloc w4 (.cells #[.int .i64 s] 3))).store s (a := some ⟨w4.heap.size, 0, none⟩) (c := 1) (l := [s]) (rdI_one (by simp)) (fun ad h => by cases h; simp; omega)
    go_upto_region 11 with (fail)
    clear r0 r1
    have e1 : ((w4.alloc (.cells #[.int .i64 s] 3)).setCell ⟨gw, s, none⟩ (.slice (some ⟨w4.heap.size, 0, none⟩) [s].length 1)) = (w4.alloc (.cells #[.int .i64 s] 3)).setCell ⟨gw, s, none⟩ (.slice (some ⟨w4.heap.size, 0, none⟩) 1 1) := rfl
    rw [e1, World.setCell_alloc_past _ _ _ _ hgwl] at hW1
    have hU := UptoW.start (bs := besideL m es) Hds.out
    clear hW0 hgwl e1
    generalize (List.replicate m (Value.slice none 0 0)).set s _ = vals0 at hW1
    generalize updW (fun _ => []) s [s] = ways0 at hW1 hU
    go_wp2_with fail
    go_loopg [12] D (fun r fv wr => ∃ (f : Nat) (vals : List Value) (ways : Nat → List Nat), fv = .int .i64 ((f : Int) + 1) ∧ f + r = D ∧ UptoW (besideL m es) d s f 0 ways ∧ WS w3 wr gw m vals ways)
    case atStart => exact ⟨0, vals0, ways0, rfl, by omega, hU, hW1⟩
    case round =>
      obtain ⟨f, vals, ways, rfl, hfr, hU, hW⟩ := hrel
      clear hW1
      have c0 := keep_cell hW.bl C0; have c1 := keep_cell hW.bl C1; have q2 := keep_cell hW.bl Q2
      have HU := Lib.hid hU; have HW := Lib.hid hW
      clear hU hW
      by_cases hlt : f < D
      · have g5 : decide ((f : Int) + 1 ≤ (D : Int)) = true := by simp; omega
        have Hfr := Lib.hid hfr; clear hfr
        have hfm : f ≤ 200 := by rcases vz with h | h <;> omega
        go_wp2_with fail
        go_loopg [13] m (fun r wv wr => ∃ (wi : Nat) (vals : List Value) (ways : Nat → List Nat), wv = .int .i64 wi ∧ wi + r = m ∧ UptoW (besideL m es) d s f wi ways ∧ WS w3 wr gw m vals ways)
        case atStart => exact ⟨0, vals, ways, rfl, by omega, HU.out, HW.out⟩
        case round =>
          obtain ⟨wi, vals, ways, rfl, hwr, hU, hW⟩ := hrel
          clear HU HW c0 c1 q2
          have c0 := keep_cell hW.bl C0; have c1 := keep_cell hW.bl C1
          have HU := Lib.hid hU; have HW := Lib.hid hW; have Hwr := Lib.hid hwr
          clear hU hW hwr
          by_cases hwm : wi < m
          · obtain ⟨y, hy⟩ : ∃ y, d[wi]? = some y := ⟨d[wi]'(by rw [Hdl.out]; exact hwm), by simp⟩
            have Hq3 : w3.cell? ⟨b6, o6 + wi, none⟩ = some (.int .i64 y) := by
              obtain ⟨hl', e⟩ := List.getElem?_eq_some_iff.1 hy
              rw [HC.out wi hl', e]
            by_cases hyf : y = (f : Int) + 1
            · subst hyf
              have hcur : ways wi = [] := HU.out.2 wi fun j hj => by
                rw [hy] at hj
                have := Option.some.inj hj
                exact ⟨by omega, fun _ => Nat.le_refl _⟩
              have hbest := BestTo.start (besideL m es) d ways wi (f + 1)
              rw [← hcur] at hbest
              have Hy := Lib.hid hy; have Hbest := Lib.hid hbest
              clear hy hcur hbest
              go_wp2_with fail
              go_loopg [14] m (fun r vv wr => ∃ (v : Nat) (vals' : List Value) (ways' : Nat → List Nat), vv = .int .i64 v ∧ v + r = m ∧ (∀ u, u ≠ wi → ways' u = ways u) ∧ BestTo (besideL m es) d ways wi (f + 1) v (ways' wi) ∧ WS w3 wr gw m vals' ways')
              case atStart => exact ⟨0, vals, ways, rfl, by omega, fun u _ => rfl, Hbest.out, HW.out⟩
              case round =>
                obtain ⟨v, vals', ways', rfl, hvr, hsame, hbest, hW⟩ := hrel
                clear HW Hbest c0 c1
                have c0 := keep_cell hW.bl C0; have c1 := keep_cell hW.bl C1; have q3 := keep_cell hW.bl Hq3
                have Hsame := Lib.hid hsame; have Hbest := Lib.hid hbest; have HW := Lib.hid hW; have Hvr := Lib.hid hvr
                have hrg := hr.below (bl_trans hB3 hW.bl)
                clear hsame hbest hvr
                by_cases hvm : v < m
                · obtain ⟨x, hx⟩ : ∃ x, d[v]? = some x := ⟨d[v]'(by rw [Hdl.out]; exact hvm), by simp⟩
                  have q4 : wr.cell? ⟨b6, o6 + v, none⟩ = some (.int .i64 x) := by
                    obtain ⟨hl', e⟩ := List.getElem?_eq_some_iff.1 hx
                    rw [keep_cell hW.bl (HC.out v hl'), e]
                  have hx200 := Hds.out.val v x hx
                  have iv : (v : Int) < (m : Int) := by omega
                  have iw : (wi : Int) < (m : Int) := by omega
                  have g6 : decide ((v : Int) < (m : Int)) = true := by simpa using iv
                  by_cases hxf : x = (f : Int)
                  · subst hxf
                    have g7 : ((f : Int) != (f : Int)) = false := by simp
                    cases hhas : hasB m es v wi with
                    | false =>
                      have hno : ¬ wi ∈ (besideL m es).getD v [] := by
                        rw [beside_getD hvm]
                        rw [has_adj Hr.out] at hhas
                        simpa using hhas
                      have hpass := Hbest.out.pass (k := v) (fun h => hno h.2)
                      have Hpass := Lib.hid hpass; have Hhas := Lib.hid hhas; clear hpass hx hno hhas
                      go_wp2_with (go_at_call 31; refine (refHas_walk m a cap es v wi _ hrg hcap).mono ?_; rw [Hhas.out]; rintro e w7 ⟨rfl, hb7⟩)
                      go_roundg (m - (v + 1))
                      case measure => have := Hvr.out; omega
                      case rel => exact ⟨v + 1, vals', ways', by go_num, by omega, Hsame.out, Hpass.out, HW.out.ext hb7⟩
                    | true =>
                      have hyes : wi ∈ (besideL m es).getD v [] := by
                        rw [beside_getD hvm]
                        rw [has_adj Hr.out] at hhas
                        simpa using hhas
                      have hvw : v ≠ wi := by
                        intro e
                        rw [e, Hy.out] at hx
                        have := Option.some.inj hx; omega
                      have hLv := HU.out.1 v f hx (.inl (Nat.le_refl _))
                      rw [← Hsame.out v hvw] at hLv
                      have hvlen : ((ways' v).length : Int) = (f : Int) + 1 := by
                        have := hLv.1.len
                        rw [hx] at this
                        have := Option.some.inj this; omega
                      obtain ⟨uv, huv⟩ : ∃ u, vals'[v]? = some u := ⟨_, List.getElem?_eq_getElem (by rw [hW.len]; exact hvm)⟩
                      obtain ⟨av, cv, rfl, hrv, _⟩ := hW.row v uv huv
                      obtain ⟨uw, huw⟩ : ∃ u, vals'[wi]? = some u := ⟨_, List.getElem?_eq_getElem (by rw [hW.len]; exact hwm)⟩
                      obtain ⟨aw, cw, rfl, hrw, _⟩ := hW.row wi uw huw
                      have p1 : wr.cell? ⟨gw, v, none⟩ = some (.slice av (ways' v).length cv) := by rw [hW.outer.cell? v (by rw [hW.len]; exact hvm), huv]
                      have p2 : wr.cell? ⟨gw, wi, none⟩ = some (.slice aw (ways' wi).length cw) := by rw [hW.outer.cell? wi (by rw [hW.len]; exact hwm), huw]
                      obtain ⟨bv, ov, rfl, _⟩ := hrv.at 0 (by rw [castL_len]; omega)
                      have Hhas := Lib.hid hhas; have Hyes := Lib.hid hyes; have Hx := Lib.hid hx; have Hvl := Lib.hid hvlen; have HLv := Lib.hid hLv
                      clear hhas hyes hx hLv huv huw
                      have hvne : 0 < (ways' v).length := by omega
                      have hv201 : (ways' v).length ≤ 201 := by omega
                      go_upto_region 22 with (first
                        | (go_at_call 31; refine (refHas_walk m a cap es v wi _ hrg hcap).mono ?_; rw [Hhas.out]; rintro e w7 ⟨rfl, hb7⟩; obtain ⟨p3⟩ : PLift (w7.cell? ⟨gw, v, none⟩ = some (.slice (some ⟨bv, ov, none⟩) (ways' v).length cv)) := ⟨keep_cell hb7 p1⟩; obtain ⟨p4⟩ : PLift (w7.cell? ⟨gw, wi, none⟩ = some (.slice aw (ways' wi).length cw)) := ⟨keep_cell hb7 p2⟩; obtain ⟨szg⟩ : PLift (gw < w7.heap.size) := ⟨World.block_lt_of_cell? _ _ p3⟩; obtain ⟨hrv7⟩ : PLift (RdI (w7.alloc (.cells #[] 3)) (some ⟨bv, ov, none⟩) (castL (ways' v))) := ⟨(hrv.below hb7).below (bl_alloc _ _)⟩)
                        | (at_builtin; refine wpList_append_row _ rfl (.tmp 88) (.tmp 92) 27 rfl 3 (.int .i64 0) 1 8 Try.underlying27 int_info rfl _ 0 [] rfl (row_lit w7 [] 3 (by simp [maxLen])).own1 ⟨bv, ov, none⟩ (ways' v).length cv ((castL (ways' v)).map (Value.int .i64)) rfl (by simp [castL]) (rdI_news hrv7) (ints_one _) hvne (by unfold maxLen; omega) (by omega) ?_; intro g8 c8 w8 hr8 hc8 hgr8 hor8; rw [List.nil_append] at hr8; rw [Nat.zero_add] at hc8)
                        | (at_builtin; refine wpList_append_row _ rfl (.tmp 93) (.tmp 95) 27 rfl 3 (.int .i64 0) 1 8 Try.underlying27 int_info rfl _ (ways' v).length ((castL (ways' v)).map (Value.int .i64)) rfl ((hr8.alloc (.cells #[.int .i64 wi] 3)).own (by simp [castL]) hc8) ⟨w8.heap.size, 0, none⟩ 1 1 [.int .i64 wi] rfl rfl (one_new (by simp)) (one_ok _ _) (by omega) (by unfold maxLen; omega) (by omega) ?_; intro g9 c9 w9 hr9 hc9 hgr9 hor9))
                      have hb78 : Below w7.heap.size w7 w8 := (bl_alloc w7 (.cells #[] 3)).grown hgr8 (by simp) (fun k hk => by have : w7.heap.size = k := Option.some.inj hk; omega)
                      have hg8 : w7.heap.size ≤ g8 := by
                        rcases hor8 with h | h
                        · have : w7.heap.size = g8 := Option.some.inj h; omega
                        · simp at h; omega
                      have hb79 : Below w7.heap.size w7 w9 := (bl_trans hb78 (bl_alloc w8 (.cells #[.int .i64 wi] 3))).grown hgr9 (by have := hb78.size; simp; omega) (fun k hk => by have : g8 = k := Option.some.inj hk; omega)
                      have hg9 : g9 ≠ gw := by
                        rcases hor9 with h | h
                        · have : g8 = g9 := Option.some.inj h; omega
                        · have := hb78.size; simp at h; omega
                      have p6 := keep_cell hb79 p4
                      have hW9 := HW.out.ext (bl_trans hb7 hb79)
                      have HW9 := Lib.hid hW9
                      have hr9' : RdI w9 (some ⟨g9, 0, none⟩) (castL (ways' v ++ [wi])) := by
                        rw [castL_snoc]
                        have h := hr9.at_
                        unfold RdI
                        rw [List.map_append]; exact h
                      have HR9 := Lib.hid hr9'
                      have hrw9 := hrw.below (bl_trans hb7 hb79)
                      have hx2 : d[v]? = some (((f + 1 : Nat) : Int) - 1) := by rw [Hx.out]; congr 1; omega
                      have Hx2 := Lib.hid hx2
                      clear hW9 hr9 hr8 hc8 hc9 hgr8 hgr9 hor8 hor9 hb78 hrv7 p1 p2 p3 p4 hx2 hrg q3 q4
                      by_cases hc : ways' wi = []
                      · have g8' : (((ways' wi).length : Int) == 0) = true := by rw [hc]; rfl
                        have htake := Hbest.out.take Hx2.out Hyes.out (Or.inl hc)
                        rw [← Hsame.out v hvw] at htake
                        have Htake := Lib.hid htake; clear htake
                        have r0 : w9.cell? ⟨gw, wi, none⟩ = some (.slice aw (ways' wi).length cw) := p6
                        have r1 : w9.frozen? ⟨gw, wi, none⟩ = false := HW9.out.outer.frozen wi
                        have hW10 := (HW9.out.store wi (a := some ⟨g9, 0, none⟩) (c := c9) (l := ways' v ++ [wi]) HR9.out (fun ad h => by cases h; exact hg9))
                        rw [show (ways' v ++ [wi]).length = (ways' v).length + 1 by simp] at hW10
                        have HW10 := Lib.hid hW10; clear hW10
                        have Hc := Lib.hid hc; clear hc
                        go_wp2_with fail
                        go_roundg (m - (v + 1))
                        case measure => have := Hvr.out; omega
                        case rel => exact ⟨v + 1, _, updW ways' wi (ways' v ++ [wi]), by go_num, by omega, fun u hu => by unfold updW; rw [if_neg hu]; exact Hsame.out u hu, by unfold updW; rw [if_pos rfl]; exact Htake.out, HW10.out⟩
                      · have hlen : (ways' v ++ [wi]).length = (ways' wi).length := by
                          rcases Hbest.out with ⟨h, _⟩ | ⟨v2, _, hd2, _, hcur2, _⟩
                          · exact absurd h hc
                          · have h2 := HU.out.1 v2 f (by rw [hd2]; congr 1; omega) (.inl (Nat.le_refl _))
                            have h3 := h2.1.len
                            rw [hd2] at h3
                            have := Option.some.inj h3
                            rw [hcur2]; simp; omega
                        have g8' : (((ways' wi).length : Int) == 0) = false := by rw [beq_eq_false_iff_ne, ← hlen]; simp; omega
                        have hlw := less_walk (some ⟨g9, 0, none⟩) aw c9 cw (ways' v ++ [wi]) (ways' wi) w9 HR9.out hrw9 hlen (by simp; omega)
                        rw [show (ways' v ++ [wi]).length = (ways' v).length + 1 by simp] at hlw
                        cases hls : lessB (ways' v ++ [wi]) (ways' wi) with
                        | true =>
                          rw [hls] at hlw
                          have htake := Hbest.out.take Hx2.out Hyes.out (Or.inr (by rw [Hsame.out v hvw] at hls; exact hls))
                          rw [← Hsame.out v hvw] at htake
                          have Htake := Lib.hid htake; clear htake
                          have r0 : w9.cell? ⟨gw, wi, none⟩ = some (.slice aw (ways' wi).length cw) := p6
                          have r1 : w9.frozen? ⟨gw, wi, none⟩ = false := HW9.out.outer.frozen wi
                          have hW10 := (HW9.out.store wi (a := some ⟨g9, 0, none⟩) (c := c9) (l := ways' v ++ [wi]) HR9.out (fun ad h => by cases h; exact hg9))
                          rw [show (ways' v ++ [wi]).length = (ways' v).length + 1 by simp] at hW10
                          have HW10 := Lib.hid hW10; clear hW10
                          clear hc hlen hls
                          go_wp2_with (go_at_call 32; refine hlw.mono ?_; rintro e w11 ⟨rfl, nq, rfl⟩)
                          go_roundg (m - (v + 1))
                          case measure => have := Hvr.out; omega
                          case rel => exact ⟨v + 1, _, updW ways' wi (ways' v ++ [wi]), by go_num, by omega, fun u hu => by unfold updW; rw [if_neg hu]; exact Hsame.out u hu, by unfold updW; rw [if_pos rfl]; exact Htake.out, HW10.out.ext (below_drewN (bl_refl _) _)⟩
                        | false =>
                          rw [hls] at hlw
                          have hlv := Hbest.out.leave (k := v) hc (by rw [← Hsame.out v hvw]; exact hlen) (by rw [← Hsame.out v hvw]; unfold Lt; rw [hls]; simp)
                          have Hlv := Lib.hid hlv
                          clear hc hlen hls hlv
                          go_wp2_with (go_at_call 32; refine hlw.mono ?_; rintro e w11 ⟨rfl, nq, rfl⟩)
                          go_roundg (m - (v + 1))
                          case measure => have := Hvr.out; omega
                          case rel => exact ⟨v + 1, vals', ways', by go_num, by omega, Hsame.out, Hlv.out, HW9.out.ext (below_drewN (bl_refl _) _)⟩
                  · have g7 : (x != (f : Int)) = true := by rw [bne_iff_ne]; exact hxf
                    have hpass := Hbest.out.pass (k := v) (fun h => by rw [hx] at h; have := Option.some.inj h.1; omega)
                    have Hpass := Lib.hid hpass; clear hpass hx hW
                    go_wp2_with fail
                    go_roundg (m - (v + 1))
                    case measure => have := Hvr.out; omega
                    case rel => exact ⟨v + 1, vals', ways', by go_num, by omega, Hsame.out, Hpass.out, HW.out⟩
                · have hve : v = m := by have := Hvr.out; omega
                  subst hve
                  have hl := BestTo.least Hds.out Hbest.out Hy.out (fun u hu => HU.out.1 u f hu (.inl (Nat.le_refl _)))
                  have hadd := HU.out.add Hy.out hl Hsame.out
                  have Hadd := Lib.hid hadd
                  have g6 : decide ((v : Int) < (v : Int)) = false := by simp
                  clear hl hadd hW
                  go_wp2_with fail
                  go_roundg (v - (wi + 1))
                  case measure => have := Hwr.out; omega
                  case rel => exact ⟨wi + 1, vals', ways', by go_num, by omega, Hadd.out, HW.out⟩
            · have hpass := HU.out.pass (w := wi) (fun h => by rw [hy] at h; exact hyf (Option.some.inj h))
              have Hpass := Lib.hid hpass; clear hpass hy
              have g6 : (y == (f : Int) + 1) = false := by simpa using hyf
              obtain ⟨wo, rfl⟩ : ∃ wo : World, wo = wr := ⟨_, rfl⟩
              have q3 := keep_cell HW.out.bl Hq3
              have iw : (wi : Int) < (m : Int) := by omega
              go_wp2_with fail
              go_loopg [14] 0 (fun r vv wr => vv = .int .i64 0 ∧ wr = wo)
              case atStart => exact ⟨rfl, rfl⟩
              case round =>
                obtain ⟨rfl, rfl⟩ := hrel
                go_wp2_with fail
                go_roundg (m - (wi + 1))
                case measure => have := Hwr.out; omega
                case rel => exact ⟨wi + 1, vals, ways, by go_num, by omega, Hpass.out, HW.out⟩
          · have hwe : wi = m := by have := Hwr.out; omega
            subst hwe
            go_wp2_with fail
            go_roundg (D - (f + 1))
            case measure => have := Hfr.out; omega
            case rel => exact ⟨f + 1, vals, ways, by go_num, by omega, HU.out.next Hds.out, HW.out⟩
      · have hfD : f = D := by omega
        subst hfD
        have g5 : decide ((f : Int) + 1 ≤ (f : Int)) = false := by simp; omega
        have hlt' := HU.out.1 t f Hz.out (.inl (Nat.le_refl _))
        have hLe := hlt'.unique HL.out
        obtain ⟨u, hu⟩ : ∃ u, vals[t]? = some u := ⟨_, List.getElem?_eq_getElem (by rw [HW.out.len]; exact htm)⟩
        obtain ⟨ao, co, rfl, hrd, _⟩ := HW.out.row t u hu
        rw [hLe] at hu hrd
        have q5 : wr.cell? ⟨gw, t, none⟩ = some (.slice ao L.length co) := by rw [HW.out.outer.cell? t (by rw [HW.out.len]; exact htm), hu]
        have hB9 := bl_trans hB3 HW.out.bl
        have HLe := Lib.hid hLe
        clear hlt' hLe hu hfr
        go_wp2_with fail
        go_ret2
        exact ⟨hB9, ao, co, by rw [castL_len]; rfl, hrd⟩

set_option maxRecDepth 100000 in
set_option maxHeartbeats 2000000 in
theorem refPath_walk (n : Int) (a : Option Addr) (cap : Nat) (es : List (Int × Int)) (st tt : Int) (w : World) (hr : RdP w a es) (hcap : es.length ≤ 9223372036854775807) :
    Calls Try.prog 17 #[.agg #[.int .i64 n, .slice a es.length cap], .int .i64 st, .int .i64 tt] w (RetL w (pathR n es st tt).1 (pathR n es st tt).2) := by
  have hbx : Below w.heap.size w (w.alloc (.cells #[.int .i64 n, .slice a es.length cap] 24)) := bl_alloc _ _
  by_cases hask : askE n es st = 0
  · by_cases hask2 : askE n es tt = 0
    · obtain ⟨hright, h0, h1⟩ := ask_zero hask
      obtain ⟨_, h2, h3⟩ := ask_zero hask2
      obtain ⟨m, rfl⟩ : ∃ m : Nat, n = m := ⟨n.toNat, by omega⟩
      obtain ⟨s, rfl⟩ : ∃ s : Nat, st = s := ⟨st.toNat, by omega⟩
      obtain ⟨t, rfl⟩ : ∃ t : Nat, tt = t := ⟨tt.toNat, by omega⟩
      exact refPath_main m a cap es s t w hr hcap hask hask2
    · have hp : pathR n es st tt = ([], askE n es tt) := by simp [pathR, hask, hask2]
      rw [hp]
      have g0 : (askE n es tt != 0) = true := by simpa using hask2
      obtain ⟨er, her⟩ : ∃ er, er = askE n es tt := ⟨_, rfl⟩
      rw [← her] at g0 ⊢
      have Her := Lib.hid her; have Hask := Lib.hid hask; clear her hask hask2 hp
      go_enter Try.func17, Try.ntmps17
      go_wp2_with fail
      refine (asked_walk n a cap es st _ (hr.below hbx) hcap).mono ?_
      rw [Hask.out]
      rintro e w1 ⟨rfl, hb1⟩
      have q0 : w1.cell? ⟨w.heap.size, 0, none⟩ = some (.int .i64 n) := keep_cell hb1 (by simp)
      have q1 : w1.cell? ⟨w.heap.size, 1, none⟩ = some (.slice a es.length cap) := keep_cell hb1 (by simp)
      have hB1 := bl_trans hbx hb1
      clear hb1
      go_wp2_with fail
      refine (asked_walk n a cap es tt _ (hr.below hB1) hcap).mono ?_
      rw [← Her.out]
      rintro e w2 ⟨rfl, hb2⟩
      go_wp2_with fail
      go_ret2
      exact ⟨bl_trans hB1 hb2, none, 0, rfl, rdI_nil _ _⟩
  · have hp : pathR n es st tt = ([], askE n es st) := by simp [pathR, hask]
    rw [hp]
    have g0 : (askE n es st != 0) = true := by simpa using hask
    have g1 : (askE n es st == 0) = false := by simpa using hask
    obtain ⟨er, her⟩ : ∃ er, er = askE n es st := ⟨_, rfl⟩
    rw [← her] at g0 g1 ⊢
    have Her := Lib.hid her; clear her hask hp
    go_enter Try.func17, Try.ntmps17
    go_wp2_with fail
    refine (asked_walk n a cap es st _ (hr.below hbx) hcap).mono ?_
    rw [← Her.out]
    rintro e w1 ⟨rfl, hb1⟩
    go_wp2_with fail
    go_ret2
    exact ⟨bl_trans hbx hb1, none, 0, rfl, rdI_nil _ _⟩
end Go.Proofs.Ytddndhhhmlcgjaa
