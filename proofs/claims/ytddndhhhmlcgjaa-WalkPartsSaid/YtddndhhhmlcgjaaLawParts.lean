/- WalkParts returns true at every input, and leaves its arguments alone. No condition. -/
import Derived.Test.YtddndhhhmlcgjaaThere
import Derived.Test.YtddndhhhmlcgjaaRow
import Derived.Test.YtddndhhhmlcgjaaParts
import Derived.Test.YtddndhhhmlcgjaaPath
import Derived.Test.YtddndhhhmlcgjaaPathQ
import Derived.Test.YtddndhhhmlcgjaaPartsQ
import Derived.Test.YtddndhhhmlcgjaaMapI
namespace Go.Proofs.Ytddndhhhmlcgjaa
open Go Go.RowKit

theorem len_flatten {p : List Nat} : ∀ {ps : List (List Nat)}, p ∈ ps → p.length ≤ ps.flatten.length
  | [], h => by simp at h
  | q :: ps, h => by
    rcases List.mem_cons.1 h with rfl | h
    · simp
    · have := len_flatten h; simp at this ⊢; omega

set_option maxRecDepth 100000 in
set_option maxHeartbeats 4000000 in
theorem walkParts_walk (n : Int) (a : Option Addr) (cap : Nat) (es : List (Int × Int)) (x y : Int) (w : World) (hr : RdP w a es) (hl : es.length ≤ cap) (hm : cap ≤ maxLen) (wn : (Lit.int .i64 n).wf = true) (wx : (Lit.int .i64 x).wf = true) (wy : (Lit.int .i64 y).wf = true) :
    Calls Try.prog 4 #[.agg #[.int .i64 n, .slice a es.length cap], .int .i64 x, .int .i64 y] w (RetT w true) := by
  have hcap : es.length ≤ 9223372036854775807 := by unfold maxLen at hm; omega
  clear wn wx wy hm hl
  cases hth : thereB n es [x, y] with
  | false =>
    have Hth := Lib.hid hth; clear hth
    go_enter Try.func4, Try.ntmps4
    go_wp2_with fail
    refine (there_walk n a cap es _ [x, y] 2 _ ((hr.below (bl_alloc _ _)).below (bl_alloc _ _)) (rdI_two (by simp) (by simp)) hcap (by simp)).mono ?_
    rw [Hth.out]
    rintro e w1 ⟨rfl, hb1⟩
    have hB1 : Below w.heap.size w w1 := bl_trans (bl_trans (bl_alloc _ _) (bl_alloc _ _)) hb1
    go_wp2_with (go_at_call 10; refine (awake_walk _).mono ?_; rintro e w2 ⟨rfl, hb2⟩)
    go_ret
    exact ⟨rfl, bl_trans hB1 hb2⟩
  | true =>
    obtain ⟨hright, hin, h60⟩ := there_say hth
    obtain ⟨hx0, hx1⟩ := hin x (by simp)
    obtain ⟨hy0, hy1⟩ := hin y (by simp)
    obtain ⟨m, rfl⟩ : ∃ m : Nat, n = m := ⟨n.toNat, by omega⟩
    obtain ⟨s, rfl⟩ : ∃ s : Nat, x = s := ⟨x.toNat, by omega⟩
    obtain ⟨t, rfl⟩ : ∃ t : Nat, y = t := ⟨y.toNat, by omega⟩
    have hsm : s < m := by omega
    have htm : t < m := by omega
    obtain ⟨pid, hok⟩ := parts_ok hright
    have hway := hok.way s t hsm htm
    obtain ⟨ps, hps⟩ : ∃ ps, ps = partsL (besideL m es) := ⟨_, rfl⟩
    rw [← hps] at hok
    have hpl := hok.len
    have hri1 : inR (m : Int) (s : Int) = true := (inR_iff _ _).2 ⟨by omega, by omega⟩
    have hri2 : inR (m : Int) (t : Int) = true := (inR_iff _ _).2 ⟨by omega, by omega⟩
    have Hth := Lib.hid hth; have Hr := Lib.hid hright; have Hok := Lib.hid hok; have Hps := Lib.hid hps; have Hway := Lib.hid hway
    have Hi1 := Lib.hid hri1; have Hi2 := Lib.hid hri2
    clear hth hright hok hps hway hin hri1 hri2
    have hmm := @run_makeMap Try.prog
    go_enter Try.func4, Try.ntmps4
    go_wp2_with fail
    refine (there_walk m a cap es _ [(s : Int), (t : Int)] 2 _ ((hr.below (bl_alloc _ _)).below (bl_alloc _ _)) (rdI_two (by simp) (by simp)) hcap (by simp)).mono ?_
    rw [Hth.out]
    rintro e w1 ⟨rfl, hb1⟩
    have hB1 : Below w.heap.size w w1 := bl_trans (bl_trans (bl_alloc _ _) (bl_alloc _ _)) hb1
    have c0 : w1.cell? ⟨w.heap.size, 0, none⟩ = some (.int .i64 m) := keep_cell hb1 (keep_cell (bl_alloc _ _) (by simp))
    have c1 : w1.cell? ⟨w.heap.size, 1, none⟩ = some (.slice a es.length cap) := keep_cell hb1 (keep_cell (bl_alloc _ _) (by simp))
    have sz1 : w.heap.size < w1.heap.size := by have := hb1.size; simp at this; omega
    clear hb1
    go_wp2_with fail
    refine (partsFn_walk m a cap es _ (hr.below hB1) hcap).mono ?_
    rintro e w2 ⟨hb2, hcase⟩
    rcases hcase with ⟨h1, _⟩ | ⟨_, G, cG, vals, rfl, hfr⟩
    · exact absurd Hr.out (by rw [h1]; simp)
    simp only [Int.toNat_natCast] at hfr ⊢
    rw [← Hps.out] at hfr ⊢
    have hB2 := bl_trans hB1 hb2
    replace c0 := keep_cell hb2 c0; replace c1 := keep_cell hb2 c1
    have sz2 : w.heap.size < w2.heap.size := by have := hb2.size; omega
    clear hb2 sz1
    have szG := hfr.outer.lt
    go_wp2_with fail
    go_loopg [9, 32] ps.length (fun r la v wr => ∃ (i : Nat) (z : Int), la = .int .i64 z ∧ v = .int .i64 i ∧ i + r = ps.length ∧ (∀ (p : List Nat) (h : Nat), ps[i]? = some p → p[0]? = some h → z < (h : Int)) ∧ z < (m : Int) ∧
      MI wr w2.heap.size (ps.take i).flatten pid ∧ Below w2.heap.size w2 wr)
    case atStart =>
      refine ⟨0, -1, rfl, rfl, by omega, fun p h _ _ => by omega, by omega, by simpa using MI.made w2 pid, bl_alloc _ _⟩
    case round =>
      obtain ⟨i, z, rfl, rfl, hir, hz, hzm, hmi, hb⟩ := hrel
      have hB3 := bl_trans hB2 hb
      by_cases hlt : i < ps.length
      · obtain ⟨p, hp⟩ : ∃ p, ps[i]? = some p := ⟨ps[i], by simp⟩
        obtain ⟨h0, hh0, hh0m⟩ := Hok.out.ne i p hp
        have hz0 := hz p h0 hp hh0
        have hplt := Hok.out.lt i p hp
        have hfr3 := hfr.ext hb
        have hvl : i < vals.length := by rw [hfr.len]; simpa [rowsV] using hlt
        obtain ⟨u, r, g, c, hu, hrr, rfl, hrow, hgB, hgG⟩ := hfr3.rowAt hvl
        have hg2 := (hfr.lt hu rfl).1
        have hrp : r = p.map vN := by simp [rowsV, hp] at hrr; exact hrr.symm
        subst hrp
        have hpos : 0 < p.length := (List.getElem?_eq_some_iff.1 hh0).1
        have q0 : wr.cell? ⟨G, i, none⟩ = some (.slice (some ⟨g, 0, none⟩) p.length c) := by rw [hfr3.outer.cell? i hvl, hu]; simp
        have q1 : wr.cell? ⟨g, 0, none⟩ = some (.int .i64 h0) := by rw [hrow.cell? 0 (by simpa using hpos)]; simp [hh0, vN]
        have g1 : ((p.length : Int) == 0) = false := by rw [beq_eq_false_iff_ne]; omega
        have g2 : decide ((h0 : Int) ≤ z) = false := by simp; omega
        have hgl := hrow.lt
        have hplen : p.length ≤ m := by
          have h1 := Hok.out.all.1
          have h2 := len_flatten (List.mem_of_getElem? hp)
          omega
        have Hp := Lib.hid hp; have Hh0 := Lib.hid hh0; have Hz := Lib.hid hz; have Hir := Lib.hid hir; have Hplt := Lib.hid hplt
        clear hp hh0 hz hir hplt hu hrr
        have mil := hmi.lt
        go_wp2_with fail
        obtain ⟨wo, rfl⟩ : ∃ wo : World, wo = wr := ⟨_, rfl⟩
        go_loopg [52] p.length (fun r v wi => ∃ (k : Nat), v = .int .i64 k ∧ k + r = p.length ∧ MI wi w2.heap.size ((ps.take i).flatten ++ p.take k) pid ∧ wo.grownBy wi (some w2.heap.size))
        case atStart => exact ⟨0, rfl, by omega, by simpa using hmi, grownBy_of (bl_refl _) _⟩
        case round =>
          obtain ⟨k, rfl, hkr, hmi2, hgr⟩ := hrel
          have hrow4 := hrow.grown hgr (by simp; omega)
          have hb2 : Below w2.heap.size w2 wr := hb.grown hgr hb.size (fun k hk => by cases hk; exact Nat.le_refl _)
          have mil2 := hmi2.lt
          by_cases hk : k < p.length
          · obtain ⟨x, hx⟩ : ∃ x, p[k]? = some x := ⟨p[k], by simp⟩
            have hnew := Hok.out.new i p k x Hp.out hx
            have hxm := Hplt.out x (List.mem_of_getElem? hx)
            have hid := Hok.out.id i p Hp.out x (List.mem_of_getElem? hx)
            have hll : ((ps.take i).flatten ++ p.take k).length ≤ 1000000 := by
              have h1 := Hok.out.all.1
              have h2 : ((ps.take i).flatten ++ p.take k).length ≤ ps.flatten.length := by
                obtain ⟨hi', he⟩ := List.getElem?_eq_some_iff.1 Hp.out
                conv => rhs; rw [← List.take_append_drop i ps, List.flatten_append, List.drop_eq_getElem_cons hi', he]
                simp; omega
              omega
            have Hll := Lib.hid hll; clear hll
            have q2 : wr.cell? ⟨g, k, none⟩ = some (.int .i64 x) := by rw [hrow4.cell? k (by simpa using hk)]; simp [hx, vN]
            have Hx := Lib.hid hx; have Hnew := Lib.hid hnew; have Hid := Lib.hid hid; have Hkr := Lib.hid hkr
            clear hx hnew hid hkr
            by_cases hk0 : k = 0
            · subst hk0
              go_wp2_with (first
                | (at_lookup; refine wpList_no_MI rfl _ _ rfl hmi2 (v := x) rfl rfl Hnew.out (by omega) ?_; intro cc)
                | (at_mapUpdate; refine wpList_put_MI rfl _ _ _ rfl hmi2 (v := x) rfl rfl rfl (by rw [Hid.out]) Hnew.out (by omega) (by rw [Hid.out]; omega) Hll.out ?_; intro w5 hmi3 hgr3))
              go_roundg (p.length - (0 + 1))
              case measure => have := Hkr.out; omega
              case rel =>
                refine ⟨0 + 1, by go_num, by have := Hkr.out; omega, ?_, grownBy_trans hgr hgr3⟩
                have e : p.take (0 + 1) = p.take (0) ++ [x] := by
                  obtain ⟨hk', he⟩ := List.getElem?_eq_some_iff.1 Hx.out
                  rw [List.take_succ_eq_append_getElem hk', he]
                rw [e, ← List.append_assoc]; exact hmi3
            · obtain ⟨k', rfl⟩ : ∃ k', k = k' + 1 := ⟨k - 1, by omega⟩
              obtain ⟨y, hy⟩ : ∃ y, p[k']? = some y := ⟨p[k'], by simp⟩
              have hyx := Hok.out.rise i p k' y x Hp.out hy Hx.out
              have q3 : wr.cell? ⟨g, k', none⟩ = some (.int .i64 y) := by rw [hrow4.cell? k' (by simp; omega)]; simp [hy, vN]
              have g3 : decide ((x : Int) ≤ (y : Int)) = false := by simp; omega
              go_wp2_with (first
                | (at_lookup; refine wpList_no_MI rfl _ _ rfl hmi2 (v := x) rfl rfl Hnew.out (by omega) ?_; intro cc)
                | (at_mapUpdate; refine wpList_put_MI rfl _ _ _ rfl hmi2 (v := x) rfl rfl rfl (by rw [Hid.out]) Hnew.out (by omega) (by rw [Hid.out]; omega) Hll.out ?_; intro w5 hmi3 hgr3))
              go_roundg (p.length - (k' + 1 + 1))
              case measure => have := Hkr.out; omega
              case rel =>
                refine ⟨k' + 1 + 1, by go_num, by have := Hkr.out; omega, ?_, grownBy_trans hgr hgr3⟩
                have e : p.take (k' + 1 + 1) = p.take (k' + 1) ++ [x] := by
                  obtain ⟨hk', he⟩ := List.getElem?_eq_some_iff.1 Hx.out
                  rw [List.take_succ_eq_append_getElem hk', he]
                rw [e, ← List.append_assoc]; exact hmi3
          · have hkp : p.take k = p := List.take_of_length_le (by omega)
            rw [hkp] at hmi2
            clear hkr
            have Hkp := Lib.hid hkp; clear hkp
            go_wp2_with fail
            go_roundg (ps.length - (i + 1))
            case measure => have := Hir.out; omega
            case rel =>
              refine ⟨i + 1, (h0 : Int), rfl, by go_num, by omega, ?_, by omega, ?_, hb2⟩
              · intro p' h' hp' hh'
                have := Hok.out.heads i p p' h0 h' Hp.out hp' Hh0.out hh'
                omega
              · have e : (ps.take (i + 1)).flatten = (ps.take i).flatten ++ p := by
                  obtain ⟨hi', he⟩ := List.getElem?_eq_some_iff.1 Hp.out
                  rw [List.take_succ_eq_append_getElem hi', List.flatten_append, he]; simp
                rw [e]; exact hmi2
      · have hi : i = ps.length := by omega
        subst hi
        clear hir hz
        rw [List.take_length] at hmi
        obtain ⟨F, hF⟩ : ∃ F, F = ps.flatten := ⟨_, rfl⟩
        have hFall : F.length = m ∧ ∀ x, x < m → x ∈ F := by rw [hF]; exact Hok.out.all
        rw [← hF] at hmi
        have HF := Lib.hid hFall; clear hF hFall
        obtain ⟨wo, rfl⟩ : ∃ wo : World, wo = wr := ⟨_, rfl⟩
        have f1 := keep_cell hb c1
        go_wp2_with fail
        go_loopg [85] es.length (fun r v wi => ∃ (k : Nat), v = .int .i64 k ∧ k + r = es.length ∧ Below wo.heap.size wo wi)
        case atStart => exact ⟨0, rfl, by omega, bl_refl _⟩
        case round =>
          obtain ⟨k, rfl, hkr, hbk⟩ := hrel
          have hB5 := bl_trans hB3 hbk
          have hmi5 := hmi.below hbk
          have mil5 := hmi5.lt
          have f1r := keep_cell hbk f1
          by_cases hlt : k < es.length
          · obtain ⟨bb, oo, rfl, p0, p1⟩ := (hr.below hB5).at k hlt
            obtain ⟨e0, e1, e2⟩ := ((rightB_iff _ _).1 Hr.out).2.2.2.1 k hlt
            obtain ⟨x, hx⟩ : ∃ x : Nat, es[k].1 = (x : Int) := ⟨es[k].1.toNat, by omega⟩
            obtain ⟨y, hy⟩ : ∃ y : Nat, es[k].2 = (y : Int) := ⟨es[k].2.toNat, by omega⟩
            rw [hx] at p0 e0 e1
            rw [hy] at p1 e1 e2
            have hxm : x < m := by omega
            have hym : y < m := by omega
            have hek : es[k] = ((x : Int), (y : Int)) := by ext <;> simp [hx, hy]
            have hpe := Hok.out.edge x y hxm ((mem_adj Hr.out x y).2 ⟨k, hlt, Or.inl hek⟩)
            have hxa := HF.out.2 x hxm
            have hya := HF.out.2 y hym
            have g4 : ((pid x : Int) != (pid y : Int)) = false := by rw [hpe]; simp
            have Hxa := Lib.hid hxa; have Hya := Lib.hid hya; have Hkr := Lib.hid hkr
            clear hek hx hy hpe hxa hya hkr
            go_wp2_with (first
              | (at_lookup; refine wpList_look_MI rfl _ _ rfl (hmi5.alloc _) (v := x) rfl rfl Hxa.out (by omega) ?_)
              | (at_lookup; refine wpList_look_MI rfl _ _ rfl (hmi5.alloc _) (v := y) rfl rfl Hya.out (by omega) ?_))
            go_roundg (gk - 1)
            case measure => have := Hkr.out; omega
            case rel => exact ⟨k + 1, by go_num, by have := Hkr.out; omega, bl_trans hbk (bl_alloc _ _)⟩
          · have hke : k = es.length := by omega
            subst hke
            clear hkr
            have c0r := keep_cell (bl_trans hb hbk) c0
            have sz5 : w.heap.size < wr.heap.size := by have := (bl_trans hb hbk).size; omega
            go_wp2_with fail
            refine (pathFn_walk m a cap es s t _ (hr.below hB5) hcap).mono ?_
            rintro e w6 ⟨hb6, hcase⟩
            have hB6 := bl_trans hB5 hb6
            have c0s := keep_cell hb6 c0r
            have hmi6 := hmi5.below hb6
            have mil6 := hmi6.lt
            have hsa := HF.out.2 s hsm
            have hta := HF.out.2 t htm
            have g5 : ((F.length : Int) == (m : Int)) = true := by rw [HF.out.1]; simp
            have g6 : decide (z < (m : Int)) = true := by simpa using hzm
            have hl1 := hmi6.look hsa (by omega)
            have hl2 := hmi6.look hta (by omega)
            clear hsa hta
            rcases hcase with ⟨h1, _⟩ | ⟨_, h1, _⟩ | ⟨_, _, _, hneg, rfl⟩ | ⟨_, _, _, hpos, gp, cp, rfl, _, _⟩
            · exact absurd Hr.out (by rw [h1]; simp)
            · exact absurd h1 (by rw [Hi1.out, Hi2.out]; simp)
            · simp only [Int.toNat_natCast] at hneg
              have g7 : ((pid s : Int) == (pid t : Int)) = false := by
                rw [beq_eq_false_iff_ne]; intro h
                have := Hway.out.1 (by omega)
                omega
              clear hneg
              go_wp2_with (first
                | (at_len; refine wpList_len_MI rfl _ rfl hmi6 rfl ?_)
                | (go_at_call 10; refine (awake_walk _).mono ?_; rintro e w7 ⟨rfl, hb7⟩))
              go_ret
              exact ⟨rfl, bl_trans hB6 hb7⟩
            · simp only [Int.toNat_natCast] at hpos
              have g7 : ((pid s : Int) == (pid t : Int)) = true := by
                rw [Hway.out.2 hpos]; simp
              clear hpos
              go_wp2_with (first
                | (at_len; refine wpList_len_MI rfl _ rfl hmi6 rfl ?_)
                | (go_at_call 10; refine (awake_walk _).mono ?_; rintro e w7 ⟨rfl, hb7⟩))
              go_ret
              exact ⟨rfl, bl_trans hB6 hb7⟩
namespace walkParts
open Go Go.RowKit Go.ChangeShapes Go.WideShapes Go.ChangeAt
set_option maxRecDepth 100000 in
theorem lifted (os : Os) (started : os.Started) (H : Type) (enc : TypeId × Value → H) :
    ReturnsInHanded {} Try.checked os 4 .any (Rows.walkPartsSpec.pre6 enc Try.prog Try.f4 Rows.walkPartsRow.domain false) (Rows.walkPartsSpec.post enc Try.prog Try.f4 false true false false) := by
  refine returnsInHanded_of_change (C := Try.checked) rowOwn started (by kernel_rfl) Try.func4
    (ChangeSpec.witness6 (enc := enc) (C := Try.checked) false ⟨#[], #[.agg #[.int .i64 0, .slice none 0 0], .int .i64 0, .int .i64 0], []⟩ 8 (by kernel_rfl) (by kernel_rfl) (by kernel_rfl) (by kernel_rfl)) ?_
  intro W base args ds gs before hval0 hW hcnd _
  have hval : ∀ (j : Nat) t v, Try.f4.params[j]? = some t → args[j]? = some v → Value.okWide Try.prog W .any base t v := hval0
  have hW' := hW
  obtain ⟨p, q, hA0, hV, rfl, hfz, hnd⟩ := hW
  have hA : DataW.TrodAll enc Try.prog W 0 (fun _ => true) true Try.f4.params.toList args.toList ds p := hA0
  rw [Try.params4] at hA hval
  obtain ⟨v0, vs0, d0, ds0, p0, q0, hargs, rfl, rfl, h0, r0⟩ := trodAll_cons hA
  obtain ⟨v1, vs1, d1, ds1, p1, q1, rfl, rfl, rfl, h1, r1⟩ := trodAll_cons r0
  obtain ⟨v2, vs2, d2, ds2, p2, q2, rfl, rfl, rfl, h2, r2⟩ := trodAll_cons r1
  obtain ⟨rfl, rfl, rfl⟩ := trodAll_nil r2
  obtain rfl : args = #[v0, v1, v2] := by cases args; simp_all
  obtain ⟨rfl, rfl⟩ := trodVars_none hV
  have k0 := h0
  have lt0 : ∀ x ∈ p0, x.block < W.heap.size := by obtain ⟨m, hm⟩ := k0; exact DataW.trod_lt m _ _ _ hm
  obtain ⟨n0, a0, cap0, es0, rfl, rd0, hl0, hm0, wn0⟩ := open_graph (hval 0 24 v0 rfl rfl) h0
  obtain ⟨x1, rfl, rfl, rfl, wn1⟩ := open_int Try.underlying3 (hval 1 3 v1 rfl rfl) h1
  obtain ⟨x2, rfl, rfl, rfl, wn2⟩ := open_int Try.underlying3 (hval 2 3 v2 rfl rfl) h2
  clear hA0 hval0
  refine (walkParts_walk n0 a0 cap0 es0 x1 x2 W rd0 hl0 hm0 wn0 wn1 wn2).mono fun e W' ⟨he, bel⟩ => ?_
  subst he
  exact ⟨_, rfl, _, _, _, [], _, [], hW', trodAll_mk1 (shut_bool Try.underlying4 _), (trodAll_cons_mk (Below.trod rowLaid (by kernel_rfl) (of_decide_eq_true (by kernel_rfl)) k0 bel lt0) (trodAll_cons_mk (shut_int Try.underlying3 wn1) (trodAll_cons_mk (shut_int Try.underlying3 wn2) trodAll_mk0))), rfl, bel.frame _, fun h => by cases h⟩
theorem over : Rows.walkPartsRow.holds Try.pinned (OpenSpec.ofChange Rows.walkPartsSpec) :=
  OpenClaim.holds_of_wide 4 Try.f4 rfl rfl rfl rfl rfl rfl rfl ⟨rfl, rfl, rfl, rfl, rfl⟩ rfl rfl rfl rfl rfl (by kernel_rfl) Try.func4 (by kernel_rfl)
    (of_decide_eq_true (by kernel_rfl)) (by unfold Func.isWrapper; first | (rw [if_pos (by decide +kernel)]; kernel_rfl) | (rw [if_neg (by decide +kernel)]; exact ⟨rfl, rfl⟩))
    (fun os started H enc _ => lifted os started H enc)
/-- The statement. -/
theorem proved : Rows.WalkPartsSaid := over
#print axioms proved
end walkParts
end Go.Proofs.Ytddndhhhmlcgjaa
