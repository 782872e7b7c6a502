/- WalkMet returns true at every input, and leaves its arguments alone. No condition. -/
import Derived.Test.YtddndhhhmlcgjaaThere
import Derived.Test.YtddndhhhmlcgjaaRow
import Derived.Test.YtddndhhhmlcgjaaTop
import Derived.Test.YtddndhhhmlcgjaaHas
import Derived.Test.YtddndhhhmlcgjaaMetQ
import Derived.Test.YtddndhhhmlcgjaaMapI
import Derived.BigRegion
namespace Go.Proofs.Ytddndhhhmlcgjaa
open Go Go.RowKit

set_option maxRecDepth 100000 in
set_option maxHeartbeats 4000000 in
theorem walkMet_walk (n : Int) (a : Option Addr) (cap : Nat) (es : List (Int × Int)) (x : Int) (w : World) (hr : RdP w a es) (hl : es.length ≤ cap) (hm : cap ≤ maxLen) (wn : (Lit.int .i64 n).wf = true) (wx : (Lit.int .i64 x).wf = true) :
    Calls Try.prog 8 #[.agg #[.int .i64 n, .slice a es.length cap], .int .i64 x] w (RetT w true) := by
  have hcap : es.length ≤ 9223372036854775807 := by unfold maxLen at hm; omega
  clear wn wx hm hl
  cases hth : thereB n es [x] with
  | false =>
    have Hth := Lib.hid hth; clear hth
    go_enter Try.func8, Try.ntmps8
    go_wp2_with fail
    refine (there_walk n a cap es _ [x] 1 _ ((hr.below (bl_alloc _ _)).below (bl_alloc _ _)) (rdI_one (by simp)) hcap (by simp)).mono ?_
    rw [Hth.out]
    rintro e w1 ⟨rfl, hb1⟩
    have hB1 : Below w.heap.size w w1 := bl_trans (bl_trans (bl_alloc _ _) (bl_alloc _ _)) hb1
    go_wp2_with (go_at_call 10; refine (awake_walk _).mono ?_; rintro e w2 ⟨rfl, hb2⟩)
    go_ret
    exact ⟨rfl, bl_trans hB1 hb2⟩
  | true =>
    obtain ⟨hright, hin, h60⟩ := there_say hth
    obtain ⟨hx0, hx1⟩ := hin x (by simp)
    obtain ⟨m, rfl⟩ : ∃ m : Nat, n = m := ⟨n.toNat, by omega⟩
    obtain ⟨s, rfl⟩ : ∃ s : Nat, x = s := ⟨x.toNat, by omega⟩
    have hsm : s < m := by omega
    have hok := met_ok hright hsm
    have hwd := (away_dist hright hsm).val
    obtain ⟨l, hl⟩ : ∃ l, l = (walkL (besideL m es) s).1 := ⟨_, rfl⟩
    obtain ⟨up, hup⟩ : ∃ up, up = (walkL (besideL m es) s).2 := ⟨_, rfl⟩
    obtain ⟨d, hd⟩ : ∃ d, d = awayL (besideL m es) s := ⟨_, rfl⟩
    rw [← hl, ← hup, ← hd] at hok
    rw [← hd] at hwd
    obtain ⟨ix, hix⟩ : ∃ ix : Nat → Nat, ix = fun x => l.idxOf x := ⟨_, rfl⟩
    rw [← hix] at hok
    clear hix
    have hll := hok.len; have hdl := hok.dl; have hul := hok.ul
    have hl0 : 0 < l.length := (List.getElem?_eq_some_iff.1 hok.head).1
    have hri1 : inR (m : Int) (s : Int) = true := (inR_iff _ _).2 ⟨by omega, by omega⟩
    have Hth := Lib.hid hth; have Hr := Lib.hid hright; have Hok := Lib.hid hok; have Hl := Lib.hid hl; have Hup := Lib.hid hup; have Hd := Lib.hid hd; have Hi1 := Lib.hid hri1
    have Hdl := Lib.hid hdl; have Hul := Lib.hid hul; have Hwd := Lib.hid hwd
    clear hth hright hok hl hup hd hin hri1 hdl hul hwd
    have hmm := @run_makeMap Try.prog
    go_enter Try.func8, Try.ntmps8
    go_wp2_with fail
    refine (there_walk m a cap es _ [(s : Int)] 1 _ ((hr.below (bl_alloc _ _)).below (bl_alloc _ _)) (rdI_one (by simp)) hcap (by simp)).mono ?_
    rw [Hth.out]
    rintro e w1 ⟨rfl, hb1⟩
    have hB1 : Below w.heap.size w w1 := bl_trans (bl_trans (bl_alloc _ _) (bl_alloc _ _)) hb1
    have c0 : w1.cell? ⟨w.heap.size, 0, none⟩ = some (.int .i64 m) := keep_cell hb1 (keep_cell (bl_alloc _ _) (by simp))
    have c1 : w1.cell? ⟨w.heap.size, 1, none⟩ = some (.slice a es.length cap) := keep_cell hb1 (keep_cell (bl_alloc _ _) (by simp))
    have sz1 : w.heap.size < w1.heap.size := by have := hb1.size; simp at this; omega
    clear hb1
    go_wp2_with fail
    refine (walkFn_walk m a cap es s _ (hr.below hB1) hcap).mono ?_
    rintro e w2 ⟨hb2, hcase⟩
    rcases hcase with ⟨h1, _⟩ | ⟨_, h1, _⟩ | ⟨_, _, go, co, gu, rfl, hro, hru, _, _, _, _⟩
    · exact absurd Hr.out (by rw [h1]; simp)
    · exact absurd Hi1.out (by rw [h1]; simp)
    simp only [Int.toNat_natCast] at hro hru ⊢
    rw [← Hl.out] at hro ⊢
    rw [← Hup.out] at hru
    have hB2 := bl_trans hB1 hb2
    replace c0 := keep_cell hb2 c0; replace c1 := keep_cell hb2 c1
    have sz2 : w.heap.size < w2.heap.size := by have := hb2.size; omega
    clear hb2 sz1
    go_wp2_with fail
    refine (awayFn_walk m a cap es s _ (hr.below hB2) hcap).mono ?_
    rintro e w3 ⟨hb3, hcase⟩
    rcases hcase with ⟨h1, _⟩ | ⟨_, h1, _⟩ | ⟨_, _, gd, cd, rfl, hrd, hgd⟩
    · exact absurd Hr.out (by rw [h1]; simp)
    · exact absurd Hi1.out (by rw [h1]; simp)
    simp only [Int.toNat_natCast] at hrd ⊢
    rw [← Hd.out] at hrd ⊢
    have hB3 := bl_trans hB2 hb3
    replace c0 := keep_cell hb3 c0; replace c1 := keep_cell hb3 c1
    replace hro := hro.below hb3 hro.lt
    replace hru := hru.below hb3 hru.lt
    have sz3 : w.heap.size < w3.heap.size := by have := hb3.size; omega
    clear hb3 sz2
    have szo := hro.lt; have szu := hru.lt; have szd := hrd.lt
    have l1 : ((d.length : Int) != (m : Int)) = false := by rw [Hdl.out]; simp
    have l2 : ((m : Int) != (m : Int)) = false := by simp
    have l3 : ((l.length : Int) == 0) = false := by rw [beq_eq_false_iff_ne]; omega
    have e1 : w3.cell? ⟨go, 0, none⟩ = some (.int .i64 s) := by rw [hro.cell? 0 (by simpa using hl0)]; simp [Hok.out.head, vN]
    have l4 : ((s : Int) != (s : Int)) = false := by simp
    have l5 : (0 : Int) < (l.length : Int) := by omega
    go_wp2_with fail
    clear e1
    go_loopg [81] l.length (fun r v wr => ∃ (i : Nat), v = .int .i64 i ∧ i + r = l.length ∧ MI wr w3.heap.size (l.take i) ix ∧ Below w3.heap.size w3 wr)
    case atStart => exact ⟨0, rfl, by omega, by simpa using MI.made w3 ix, bl_alloc _ _⟩
    case round =>
      obtain ⟨i, rfl, hir, hmi, hb⟩ := hrel
      have hB4 := bl_trans hB3 hb
      have hro4 := hro.below hb hro.lt
      have hru4 := hru.below hb hru.lt
      have hrd4 := hrd.below hb hrd.lt
      have c0r := keep_cell hb c0
      have c1r := keep_cell hb c1
      have mil := hmi.lt
      by_cases hlt : i < l.length
      · obtain ⟨v, hv⟩ : ∃ v, l[i]? = some v := ⟨l[i], by simp⟩
        obtain ⟨hnew, hixv⟩ := Hok.out.new i v hv
        have hvl := List.mem_of_getElem? hv
        have hvm := Hok.out.lt v hvl
        obtain ⟨dv, hdv⟩ : ∃ dv, d[v]? = some dv := ⟨d[v]'(by rw [Hdl.out]; exact hvm), by simp⟩
        have hdv0 := (Hok.out.reach v dv hdv).1 hvl
        have q0 : wr.cell? ⟨go, i, none⟩ = some (.int .i64 v) := by rw [hro4.cell? i (by simpa using hlt)]; simp [hv, vN]
        have q1 : wr.cell? ⟨gd, v, none⟩ = some (.int .i64 dv) := by rw [hrd4.cell? v (by simp [Hdl.out]; omega)]; simp [hdv]
        have g1 : decide ((v : Int) < 0) = false := by simp
        have g2 : decide ((m : Int) ≤ (v : Int)) = false := by simp; omega
        have g3 : decide (dv < 0) = false := by simp; omega
        have iv1 : (v : Int) < (d.length : Int) := by rw [Hdl.out]; omega
        have iv2 : (v : Int) < (m : Int) := by omega
        have hlen : (l.take i).length ≤ 1000000 := by rw [List.length_take]; omega
        have Hv := Lib.hid hv; have Hnew := Lib.hid hnew; have Hixv := Lib.hid hixv; have Hdv := Lib.hid hdv; have Hir := Lib.hid hir; have Hlen := Lib.hid hlen
        clear hv hnew hixv hdv hir hvl hlen
        have htk : l.take (i + 1) = l.take i ++ [v] := by
          obtain ⟨hi', he⟩ := List.getElem?_eq_some_iff.1 Hv.out
          rw [List.take_succ_eq_append_getElem hi', he]
        have Htk := Lib.hid htk; clear htk
        by_cases hi0 : i = 0
        · subst hi0
          have hvs : v = s := by have h1 := Hv.out; rw [Hok.out.head] at h1; cases h1; rfl
          subst hvs
          have q2 : wr.cell? ⟨gu, v, none⟩ = some (.int .i64 (-1)) := by rw [hru4.cell? v (by simp [Hul.out]; omega)]; simp [Hok.out.top]
          go_wp2_with (first
            | (at_lookup; refine wpList_no_MI rfl _ _ rfl hmi (v := v) rfl rfl Hnew.out (by omega) ?_; intro cc)
            | (at_mapUpdate; refine wpList_put_MI rfl _ _ _ rfl hmi (v := v) rfl rfl rfl (by have := Hixv.out; omega) Hnew.out (by omega) (by have := Hixv.out; omega) Hlen.out ?_; intro w5 hmi5 hgr5; obtain ⟨q3⟩ : PLift (w5.cell? ⟨gu, v, none⟩ = some (.int .i64 (-1))) := ⟨grown_cell hgr5 q2 (by simp; omega)⟩))
          go_roundg (gk - 1)
          case measure => have := Hir.out; omega
          case rel => exact ⟨0 + 1, by go_num, by have := Hir.out; omega, by rw [Htk.out]; exact hmi5, hb.grown hgr5 hb.size (fun k hk => by cases hk; exact Nat.le_refl _)⟩
        · obtain ⟨u, hu, hut, hui, hum, huv, hlow⟩ := Hok.out.from_ i v (by omega) Hv.out
          have q2 : wr.cell? ⟨gu, v, none⟩ = some (.int .i64 u) := by rw [hru4.cell? v (by simp [Hul.out]; omega)]; simp [hu]
          have g4 : ((i : Int) == 0) = false := by rw [beq_eq_false_iff_ne]; omega
          have g5 : decide (i ≤ ix u) = false := by simp; omega
          have hut2 : u ∈ l.take i ++ [v] := by simp [hut]
          have Hu := Lib.hid hu; have Hut := Lib.hid hut2; have Huv := Lib.hid huv; have Hlow := Lib.hid hlow
          clear hu hut hut2 huv hlow
          have htok : True := trivial
          go_wp2_with (first
            | (at_lookup; clear htok; refine wpList_no_MI rfl _ _ rfl hmi (v := v) rfl rfl Hnew.out (by omega) ?_; intro cc)
            | (at_mapUpdate; refine wpList_put_MI rfl _ _ _ rfl hmi (v := v) rfl rfl rfl (by have := Hixv.out; omega) Hnew.out (by omega) (by have := Hixv.out; omega) Hlen.out ?_; intro w5 hmi5 hgr5; obtain ⟨q3⟩ : PLift (w5.cell? ⟨gu, v, none⟩ = some (.int .i64 u)) := ⟨grown_cell hgr5 q2 (by simp; omega)⟩; obtain ⟨q4⟩ : PLift (w5.cell? ⟨w.heap.size, 0, none⟩ = some (.int .i64 m)) := ⟨grown_cell hgr5 c0r (by simp; omega)⟩; obtain ⟨q5⟩ : PLift (w5.cell? ⟨w.heap.size, 1, none⟩ = some (.slice a es.length cap)) := ⟨grown_cell hgr5 c1r (by simp; omega)⟩; obtain ⟨hb5⟩ : PLift (Below w3.heap.size w3 w5) := ⟨hb.grown hgr5 hb.size (fun k hk => by cases hk; exact Nat.le_refl _)⟩)
            | (at_lookup; refine wpList_yes_MI rfl _ _ rfl hmi5 (v := u) rfl rfl Hut.out (by omega) ?_)
            | (go_at_call 25; refine (has_walk m a cap es u v _ (hr.below (bl_trans hB3 hb5)) hcap).mono ?_; rw [Huv.out]; rintro e w6 ⟨rfl, hb6⟩))
          have hb7 := bl_trans hb5 hb6
          have hmi7 := hmi5.below hb6
          obtain ⟨wo, rfl⟩ : ∃ wo : World, wo = w6 := ⟨_, rfl⟩
          have C0 := keep_cell hb6 q4; have C1 := keep_cell hb6 q5
          clear q0 q1 q2 q3 q4 q5 c0r c1r hro4 hru4 hrd4 hmi hb hb5 hb6 hgr5 hB4 mil hmi5
          have szw : w.heap.size < wo.heap.size := by have := hb7.size; omega
          go_loopg [142] v (fun r y wi => ∃ (k : Nat), y = .int .i64 k ∧ k + r = v ∧ Below wo.heap.size wo wi)
          case atStart => exact ⟨0, rfl, by omega, bl_refl _⟩
          case round =>
            obtain ⟨k, rfl, hkr, hbk⟩ := hrel
            by_cases hkv : k < v
            · have hmi8 := hmi7.below hbk
              have c0k := keep_cell hbk C0; have c1k := keep_cell hbk C1
              have hrk := hr.below (bl_trans hB3 (bl_trans hb7 hbk))
              have Hkr := Lib.hid hkr; clear hkr
              have szk : w.heap.size < wr.heap.size := by have := hbk.size; omega
              cases hhk : hasB m es u k with
              | true =>
                obtain ⟨hk1, hk2⟩ := Hlow.out k hkv hhk
                have hk3 : k ∈ l.take i ++ [v] := by simp [hk1]
                have g6 : decide (i ≤ ix k) = false := by simp; omega
                have Hk3 := Lib.hid hk3; have Hhk := Lib.hid hhk
                clear hk1 hk3 hhk
                go_wp2_with (first
                  | (at_lookup; refine wpList_yes_MI rfl _ _ rfl hmi8 (v := k) rfl rfl Hk3.out (by omega) ?_)
                  | (go_at_call 25; refine (has_walk m a cap es u k _ hrk hcap).mono ?_; rw [Hhk.out]; rintro e w9 ⟨rfl, hb9⟩))
                go_roundg (gk - 1)
                case measure => have := Hkr.out; omega
                case rel => exact ⟨k + 1, by go_num, by have := Hkr.out; omega, bl_trans hbk hb9⟩
              | false =>
                have Hhk := Lib.hid hhk
                clear hhk
                go_wp2_with (first
                  | (at_lookup; refine wpList_ok_MI rfl _ _ rfl hmi8 (v := k) rfl rfl (by omega) ?_; intro cc _)
                  | (go_at_call 25; refine (has_walk m a cap es u k _ hrk hcap).mono ?_; rw [Hhk.out]; rintro e w9 ⟨rfl, hb9⟩))
                go_roundg (gk - 1)
                case measure => have := Hkr.out; omega
                case rel => exact ⟨k + 1, by go_num, by have := Hkr.out; omega, bl_trans hbk hb9⟩
            · go_wp2_with fail
              go_roundg (l.length - (i + 1))
              case measure => have := Hir.out; omega
              case rel => exact ⟨i + 1, by go_num, by omega, by rw [Htk.out]; exact hmi7.below hbk, bl_trans hb7 hbk⟩
      · have hie : i = l.length := by omega
        subst hie
        clear hir
        rw [List.take_length] at hmi
        obtain ⟨wo, rfl⟩ : ∃ wo : World, wo = wr := ⟨_, rfl⟩
        have C1 := c1r; have C0 := c0r; have HRU := hru4; have HRD := hrd4
        have szw : w.heap.size < wo.heap.size := by have := hb.size; omega
        clear c0r c1r hru4 hrd4 hro4
        go_wp2_with fail
        go_loopg [168] d.length (fun r y wi => ∃ (v : Nat), y = .int .i64 v ∧ v + r = d.length ∧ wi = wo)
        case atStart => exact ⟨0, rfl, by omega, rfl⟩
        case round =>
          obtain ⟨v, rfl, hvr, rfl⟩ := hrel
          by_cases hvl : v < d.length
          · obtain ⟨dv, hdv⟩ : ∃ dv, d[v]? = some dv := ⟨d[v], by simp⟩
            have hvm : v < m := by rw [← Hdl.out]; exact hvl
            have q1 : wr.cell? ⟨gd, v, none⟩ = some (.int .i64 dv) := by rw [HRD.cell? v (by simpa using hvl)]; simp [hdv]
            have hreach := Hok.out.reach v dv hdv
            have iv2 : (v : Int) < (m : Int) := by omega
            have Hvr := Lib.hid hvr; have Hdv := Lib.hid hdv
            clear hvr
            by_cases hmem : v ∈ l
            · have g1 : decide (0 ≤ dv) = true := by simpa using hreach.1 hmem
              have Hmem := Lib.hid hmem; clear hmem hreach hdv
              go_wp2_with (first
                | (at_lookup; refine wpList_yes_MI rfl _ _ rfl hmi (v := v) rfl rfl Hmem.out (by omega) ?_))
              go_roundg (gk - 1)
              case measure => have := Hvr.out; omega
              case rel => exact ⟨v + 1, by go_num, by have := Hvr.out; omega, rfl⟩
            · have g1 : decide (0 ≤ dv) = false := by
                rw [decide_eq_false_iff_not]; intro h0; exact hmem (hreach.2 h0)
              have hun := Hok.out.unmet v hvm hmem
              have q2 : wr.cell? ⟨gu, v, none⟩ = some (.int .i64 (-1)) := by rw [HRU.cell? v (by simp [Hul.out]; omega)]; simp [hun]
              have Hmem := Lib.hid hmem; clear hmem hreach hun hdv
              go_wp2_with (first
                | (at_lookup; refine wpList_no_MI rfl _ _ rfl hmi (v := v) rfl rfl Hmem.out (by omega) ?_; intro cc))
              go_roundg (gk - 1)
              case measure => have := Hvr.out; omega
              case rel => exact ⟨v + 1, by go_num, by have := Hvr.out; omega, rfl⟩
          · have hve : v = d.length := by omega
            subst hve
            clear hvr hvl
            go_wp2_with fail
            go_loopg [199] es.length (fun r v wi => ∃ (k : Nat), v = .int .i64 k ∧ k + r = es.length ∧ Below wr.heap.size wr wi)
            case atStart => exact ⟨0, rfl, by omega, bl_refl _⟩
            case round =>
              obtain ⟨k, rfl, hkr, hbk⟩ := hrel
              have hB5 := bl_trans hB4 hbk
              have hmi5 := hmi.below hbk
              have f0 := keep_cell hbk C0
              have f1 := keep_cell hbk C1
              have hru5 := HRU.below hbk HRU.lt
              have hrd5 := HRD.below hbk HRD.lt
              by_cases hlt : k < es.length
              · obtain ⟨bb, oo, rfl, p0, p1⟩ := (hr.below hB5).at k hlt
                obtain ⟨e0, e1, e2⟩ := ((rightB_iff _ _).1 Hr.out).2.2.2.1 k hlt
                obtain ⟨x, hx⟩ : ∃ x : Nat, es[k].1 = (x : Int) := ⟨es[k].1.toNat, by omega⟩
                obtain ⟨y, hy⟩ : ∃ y : Nat, es[k].2 = (y : Int) := ⟨es[k].2.toNat, by omega⟩
                rw [hx] at p0 e0 e1
                rw [hy] at p1 e1 e2
                have hxm : x < m := by omega
                have hym : y < m := by omega
                have hek : es[k] = ((x : Int), (y : Int)) := by ext <;> simp [hx, hy]
                have hab1 := (mem_adj Hr.out x y).2 ⟨k, hlt, Or.inl hek⟩
                have hab2 := (mem_adj Hr.out y x).2 ⟨k, hlt, Or.inr hek⟩
                obtain ⟨dx, hdx⟩ : ∃ dx, d[x]? = some dx := ⟨d[x]'(by rw [Hdl.out]; exact hxm), by simp⟩
                have hreach := Hok.out.reach x dx hdx
                have q1 : wr.cell? ⟨gd, x, none⟩ = some (.int .i64 dx) := by rw [hrd5.cell? x (by simp [Hdl.out]; omega)]; simp [hdx]
                have ix1 : (x : Int) < (d.length : Int) := by rw [Hdl.out]; omega
                have szd5 := hrd5.lt; have szu5 := hru5.lt
                clear hek hx hy hdx hrd5
                by_cases hneg : dx < 0
                · have g1 : decide (dx < 0) = true := by simpa using hneg
                  have Hkr := Lib.hid hkr
                  clear hab1 hab2 hreach hkr hneg
                  go_wp2_with fail
                  go_quiet (fail)
                  go_wp2_with fail
                  go_roundg (gk - 1)
                  case measure => have := Hkr.out; omega
                  case rel => exact ⟨k + 1, by go_num, by have := Hkr.out; omega, bl_trans hbk (below_drewN (bl_alloc _ _) _)⟩
                · have g1 : decide (dx < 0) = false := by simpa using hneg
                  have hao := hreach.2 (by omega)
                  have hbo2 := Hok.out.edge x y hao hab1
                  have hne := Hok.out.ixne x y hao hab1
                  have Hao := Lib.hid hao; have Hbo := Lib.hid hbo2; have Hab1 := Lib.hid hab1; have Hab2 := Lib.hid hab2; have Hkr := Lib.hid hkr
                  clear hreach hao hbo2 hab1 hab2 hkr hneg
                  have hmi6 : ∀ q, MI ((wr.alloc (.cells #[.int .i64 x, .int .i64 y] 43)).drewN q) w3.heap.size l ix := fun q => hmi5.below (below_drewN (bl_alloc _ _) q)
                  by_cases hgt : ix y < ix x
                  · have g2 : decide (ix y < ix x) = true := by simpa using hgt
                    go_wp2_with fail
                    go_quiet (fail)
                    go_wp2_with (first
                      | (at_lookup; refine wpList_look_MI rfl _ _ rfl (hmi6 _) (v := x) rfl rfl Hao.out (by omega) ?_)
                      | (at_lookup; refine wpList_look_MI rfl _ _ rfl (hmi6 _) (v := y) rfl rfl Hbo.out (by omega) ?_))
                    have hcl := Hok.out.climb y x Hbo.out Hao.out Hab2.out (by omega)
                    have ixb := Hok.out.ixlt x Hao.out
                    have Hcl := Lib.hid hcl
                    clear hcl hmi6
                    generalize hw : World.drewN _ nq = wo
                    have hbo : Below wr.heap.size wr wo := by rw [← hw]; exact below_drewN (bl_alloc _ _) _
                    have hru6 := hru5.below hbo hru5.lt
                    have f0o := keep_cell hbo f0
                    have hbo2 := bl_trans hbk hbo
                    clear hw hbo hru5 f0 f1 p0 p1 q1 hmi5 hbk hB5
                    go_loopg [27, 28] (ix x) (fun r b st wi => ∃ (z q : Nat), b = .int .i64 z ∧ st = .int .i64 q ∧ ix z = r ∧ q + r ≤ m ∧ z ∈ l ∧ Anc up y z ∧ wi = wo)
                    case atStart => exact ⟨x, 0, rfl, rfl, rfl, by omega, Hao.out, Hcl.out, rfl⟩
                    case round =>
                      obtain ⟨z, q, rfl, rfl, hzr, hqr, hzl, hza, rfl⟩ := hrel
                      by_cases hzA : z = y
                      · have g7 : ((z : Int) != (y : Int)) = false := by rw [hzA]; simp
                        clear hzA hza hzl
                        go_wp2_with fail
                        go_roundg (es.length - (k + 1))
                        case measure => have := Hkr.out; omega
                        case rel => exact ⟨k + 1, by go_num, by have := Hkr.out; omega, hbo2⟩
                      · obtain ⟨u, hu, hua⟩ := hza.next hzA
                        obtain ⟨hul, hui⟩ := Hok.out.par z hzl u hu
                        have hzm := Hok.out.lt z hzl
                        have q2 : wr.cell? ⟨gu, z, none⟩ = some (.int .i64 u) := by rw [hru6.cell? z (by simp [Hul.out]; omega)]; simp [hu]
                        have g7 : ((z : Int) != (y : Int)) = true := by rw [bne_iff_ne]; omega
                        have g8 : decide (m < q) = false := by simp; omega
                        have Hu := Lib.hid hu; have Hua := Lib.hid hua; have Hulm := Lib.hid hul; have Hzr := Lib.hid hzr
                        clear hu hua hul hza hzl hzr
                        go_wp2_with fail
                        go_roundg (ix u)
                        case measure => have := Hzr.out; omega
                        case rel => exact ⟨u, q + 1, rfl, by go_num, rfl, by have := Hzr.out; omega, Hulm.out, Hua.out, rfl⟩
                  · have g2 : decide (ix y < ix x) = false := by simpa using hgt
                    go_wp2_with fail
                    go_quiet (fail)
                    go_wp2_with (first
                      | (at_lookup; refine wpList_look_MI rfl _ _ rfl (hmi6 _) (v := x) rfl rfl Hao.out (by omega) ?_)
                      | (at_lookup; refine wpList_look_MI rfl _ _ rfl (hmi6 _) (v := y) rfl rfl Hbo.out (by omega) ?_))
                    have hcl := Hok.out.climb x y Hao.out Hbo.out Hab1.out (by omega)
                    have ixb := Hok.out.ixlt y Hbo.out
                    have Hcl := Lib.hid hcl
                    clear hcl hmi6
                    generalize hw : World.drewN _ nq = wo
                    have hbo : Below wr.heap.size wr wo := by rw [← hw]; exact below_drewN (bl_alloc _ _) _
                    have hru6 := hru5.below hbo hru5.lt
                    have f0o := keep_cell hbo f0
                    have hbo2 := bl_trans hbk hbo
                    clear hw hbo hru5 f0 f1 p0 p1 q1 hmi5 hbk hB5
                    go_loopg [27, 28] (ix y) (fun r b st wi => ∃ (z q : Nat), b = .int .i64 z ∧ st = .int .i64 q ∧ ix z = r ∧ q + r ≤ m ∧ z ∈ l ∧ Anc up x z ∧ wi = wo)
                    case atStart => exact ⟨y, 0, rfl, rfl, rfl, by omega, Hbo.out, Hcl.out, rfl⟩
                    case round =>
                      obtain ⟨z, q, rfl, rfl, hzr, hqr, hzl, hza, rfl⟩ := hrel
                      by_cases hzA : z = x
                      · have g7 : ((z : Int) != (x : Int)) = false := by rw [hzA]; simp
                        clear hzA hza hzl
                        go_wp2_with fail
                        go_roundg (es.length - (k + 1))
                        case measure => have := Hkr.out; omega
                        case rel => exact ⟨k + 1, by go_num, by have := Hkr.out; omega, hbo2⟩
                      · obtain ⟨u, hu, hua⟩ := hza.next hzA
                        obtain ⟨hul, hui⟩ := Hok.out.par z hzl u hu
                        have hzm := Hok.out.lt z hzl
                        have q2 : wr.cell? ⟨gu, z, none⟩ = some (.int .i64 u) := by rw [hru6.cell? z (by simp [Hul.out]; omega)]; simp [hu]
                        have g7 : ((z : Int) != (x : Int)) = true := by rw [bne_iff_ne]; omega
                        have g8 : decide (m < q) = false := by simp; omega
                        have Hu := Lib.hid hu; have Hua := Lib.hid hua; have Hulm := Lib.hid hul; have Hzr := Lib.hid hzr
                        clear hu hua hul hza hzl hzr
                        go_wp2_with fail
                        go_roundg (ix u)
                        case measure => have := Hzr.out; omega
                        case rel => exact ⟨u, q + 1, rfl, by go_num, rfl, by have := Hzr.out; omega, Hulm.out, Hua.out, rfl⟩
              · go_wp2_with (go_at_call 10; refine (awake_walk _).mono ?_; rintro e w2 ⟨rfl, hb2⟩)
                go_ret
                exact ⟨rfl, bl_trans hB5 hb2⟩
namespace walkMet
open Go Go.RowKit Go.ChangeShapes Go.WideShapes Go.ChangeAt
set_option maxRecDepth 100000 in
theorem lifted (os : Os) (started : os.Started) (H : Type) (enc : TypeId × Value → H) :
    ReturnsInHanded {} Try.checked os 8 .any (Rows.walkMetSpec.pre6 enc Try.prog Try.f8 Rows.walkMetRow.domain false) (Rows.walkMetSpec.post enc Try.prog Try.f8 false true false false) := by
  refine returnsInHanded_of_change (C := Try.checked) rowOwn started (by kernel_rfl) Try.func8
    (ChangeSpec.witness6 (enc := enc) (C := Try.checked) false ⟨#[], #[.agg #[.int .i64 0, .slice none 0 0], .int .i64 0], []⟩ 8 (by kernel_rfl) (by kernel_rfl) (by kernel_rfl) (by kernel_rfl)) ?_
  intro W base args ds gs before hval0 hW hcnd _
  have hval : ∀ (j : Nat) t v, Try.f8.params[j]? = some t → args[j]? = some v → Value.okWide Try.prog W .any base t v := hval0
  have hW' := hW
  obtain ⟨p, q, hA0, hV, rfl, hfz, hnd⟩ := hW
  have hA : DataW.TrodAll enc Try.prog W 0 (fun _ => true) true Try.f8.params.toList args.toList ds p := hA0
  rw [Try.params8] at hA hval
  obtain ⟨v0, vs0, d0, ds0, p0, q0, hargs, rfl, rfl, h0, r0⟩ := trodAll_cons hA
  obtain ⟨v1, vs1, d1, ds1, p1, q1, rfl, rfl, rfl, h1, r1⟩ := trodAll_cons r0
  obtain ⟨rfl, rfl, rfl⟩ := trodAll_nil r1
  obtain rfl : args = #[v0, v1] := by cases args; simp_all
  obtain ⟨rfl, rfl⟩ := trodVars_none hV
  have k0 := h0
  have lt0 : ∀ x ∈ p0, x.block < W.heap.size := by obtain ⟨m, hm⟩ := k0; exact DataW.trod_lt m _ _ _ hm
  obtain ⟨n0, a0, cap0, es0, rfl, rd0, hl0, hm0, wn0⟩ := open_graph (hval 0 24 v0 rfl rfl) h0
  obtain ⟨x1, rfl, rfl, rfl, wn1⟩ := open_int Try.underlying3 (hval 1 3 v1 rfl rfl) h1
  clear hA0 hval0
  refine (walkMet_walk n0 a0 cap0 es0 x1 W rd0 hl0 hm0 wn0 wn1).mono fun e W' ⟨he, bel⟩ => ?_
  subst he
  exact ⟨_, rfl, _, _, _, [], _, [], hW', trodAll_mk1 (shut_bool Try.underlying4 _), (trodAll_cons_mk (Below.trod rowLaid (by kernel_rfl) (of_decide_eq_true (by kernel_rfl)) k0 bel lt0) (trodAll_cons_mk (shut_int Try.underlying3 wn1) trodAll_mk0)), rfl, bel.frame _, fun h => by cases h⟩
theorem over : Rows.walkMetRow.holds Try.pinned (OpenSpec.ofChange Rows.walkMetSpec) :=
  OpenClaim.holds_of_wide 8 Try.f8 rfl rfl rfl rfl rfl rfl rfl ⟨rfl, rfl, rfl, rfl, rfl⟩ rfl rfl rfl rfl rfl (by kernel_rfl) Try.func8 (by kernel_rfl)
    (of_decide_eq_true (by kernel_rfl)) (by unfold Func.isWrapper; first | (rw [if_pos (by decide +kernel)]; kernel_rfl) | (rw [if_neg (by decide +kernel)]; exact ⟨rfl, rfl⟩))
    (fun os started H enc _ => lifted os started H enc)
/-- The statement. -/
theorem proved : Rows.WalkMetSaid := over
#print axioms proved
end walkMet
end Go.Proofs.Ytddndhhhmlcgjaa
