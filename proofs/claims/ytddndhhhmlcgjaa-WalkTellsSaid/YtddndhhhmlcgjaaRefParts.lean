/- fretworkref04.Parts. -/
import Derived.Test.YtddndhhhmlcgjaaRefPP
namespace Go.Proofs.Ytddndhhhmlcgjaa
open Go Go.RowKit

def partsR (n : Int) (es : List (Int × Int)) : List (List Int) := if rightB n es then (partsL (besideL n.toNat es)).map castL else []
def RetRR (w : World) (L : List (List Int)) (e : Ending) (w' : World) : Prop :=
  Below w.heap.size w w' ∧ ∃ a1 c1, e = .returned (.slice a1 L.length c1) ∧ RdR w' a1 L
theorem contains_cast (l : List Nat) (k : Nat) : (castL l).contains (k : Int) = l.contains k := by
  unfold castL
  rw [Bool.eq_iff_iff]
  simp only [List.contains_iff_mem, List.mem_map]
  constructor
  · rintro ⟨y, hy, e⟩; rw [show k = y by omega]; exact hy
  · intro hk; exact ⟨k, hk, rfl⟩
theorem Own.rdN {w : World} {v : Value} {n : Nat} {l : List Nat} (h : Own w v 3 1 n (l.map vN)) : ∃ a c, v = .slice a l.length c ∧ RdI w a (castL l) := by
  have hn := h.1
  simp at hn
  rcases h.2 with ⟨rfl, h0⟩ | ⟨g, cap, rfl, _, hr⟩
  · have : l = [] := List.eq_nil_of_length_eq_zero (by omega)
    subst this
    exact ⟨none, 0, rfl, rdI_nil _ _⟩
  · rw [vN_cast] at hr
    exact ⟨some ⟨g, 0, none⟩, cap, by rw [hn], hr.rdI2⟩
theorem row_news {w : World} {g : Nat} {e : TypeId} {c : Nat} {vs : List Value} (h : Row w g e 1 c vs) : ∀ j u, vs[j]? = some u → w.cell? ((⟨g, 0, none⟩ : Addr).add j) = some u := by
  intro j u hu
  have e : (⟨g, 0, none⟩ : Addr).add j = ⟨g, j, none⟩ := by unfold Addr.add; split <;> simp_all
  rw [e, h.cell? j (List.getElem?_eq_some_iff.1 hu).1, hu]
theorem vN_one (l : List Nat) : ∀ u ∈ l.map vN, u.oneCell' = true := by
  intro u hu
  obtain ⟨x, _, rfl⟩ := List.mem_map.1 hu
  rfl
theorem ask_ok {n : Nat} {es : List (Int × Int)} {v : Nat} (h : rightB n es = true) (hv : v < n) : askE n es v = 0 ∧ awayR n es v = awayL (besideL n es) v := by
  have h2 : inR (n : Int) (v : Int) = true := (inR_iff _ _).2 ⟨by omega, by omega⟩
  have : askE n es v = 0 := by simp [askE, h, h2]
  exact ⟨this, by simp [awayR, this]⟩

set_option maxRecDepth 100000 in
set_option maxHeartbeats 4000000 in
theorem refParts_walk (n : Int) (a : Option Addr) (cap : Nat) (es : List (Int × Int)) (w : World) (hr : RdP w a es) (hcap : es.length ≤ 9223372036854775807) :
    Calls Try.prog 21 #[.agg #[.int .i64 n, .slice a es.length cap]] w (RetRR w (partsR n es)) := by
  have hbx : Below w.heap.size w (w.alloc (.cells #[.int .i64 n, .slice a es.length cap] 24)) := bl_alloc _ _
  cases hright : rightB n es with
  | false =>
    have hp : partsR n es = [] := by simp [partsR, hright]
    rw [hp]
    have Hr := Lib.hid hright; clear hright hp
    go_enter Try.func21, Try.ntmps21
    go_wp2_with (go_at_call 34; refine (refRight_walk n a cap es _ (hr.below hbx) hcap).mono ?_; rw [Hr.out]; rintro e w1 ⟨rfl, hb1⟩)
    go_ret
    exact ⟨bl_trans hbx hb1, none, 0, rfl, by intro i r h; simp at h⟩
  | true =>
    have h0 := ((rightB_iff _ _).1 hright).1
    have hn2 := ((rightB_iff _ _).1 hright).2.1
    obtain ⟨m, rfl⟩ : ∃ m : Nat, n = m := ⟨n.toNat, by omega⟩
    have hp : partsR m es = (partsL (besideL m es)).map castL := by simp [partsR, hright]
    rw [hp]
    have Hr := Lib.hid hright; clear hright hp
    go_enter Try.func21, Try.ntmps21
    go_wp2_with (go_at_call 34; refine (refRight_walk m a cap es _ (hr.below hbx) hcap).mono ?_; rw [Hr.out]; rintro e w1 ⟨rfl, hb1⟩)
    have hB1 := bl_trans hbx hb1
    have C0 : w1.cell? ⟨w.heap.size, 0, none⟩ = some (.int .i64 m) := keep_cell hb1 (by simp)
    have C1 : w1.cell? ⟨w.heap.size, 1, none⟩ = some (.slice a es.length cap) := keep_cell hb1 (by simp)
    have szw : w.heap.size < w1.heap.size := by have := hb1.size; simp at this; omega
    have hr1 := hr.below hB1
    clear hb1 hbx
    obtain ⟨W1, rfl⟩ : ∃ W1 : World, W1 = w1 := ⟨_, rfl⟩
    go_loopg [3, 4, 5] m (fun r o s i wr => ∃ (k : Nat) (oV sV : Value) (vals : List Value) (seen : List Nat) (out : List (List Nat)), oV = o ∧ sV = s ∧ i = .int .i64 k ∧ k + r = m ∧ PInv m es k seen out ∧ PS W1 wr sV oV vals seen out)
    case atStart => exact ⟨0, _, _, [], [], [], rfl, rfl, rfl, by omega, PInv.start _ _, PS.start _⟩
    case round =>
      obtain ⟨k, oV, sV, vals, seen, out, rfl, rfl, rfl, hkr, hP, hM⟩ := hrel
      have c0 := keep_cell hM.bl C0; have c1 := keep_cell hM.bl C1
      by_cases hlt : k < m
      · obtain ⟨sA, cs, rfl, hrs⟩ := hM.oS.rdN
        have hrg := hr1.below hM.bl
        have hsl := hP.2.2
        have hol := hP.out_len
        have hvl : vals.length ≤ k := by have := hM.len; omega
        have HP := Lib.hid hP; have HM := Lib.hid hM; have Hkr := Lib.hid hkr
        clear hP hM hkr
        have hh := refHas0_walk sA cs (castL seen) k
        rw [contains_cast, castL_len] at hh
        by_cases hmem : k ∈ seen
        · have hc : seen.contains k = true := by simpa using hmem
          have Hmem := Lib.hid hmem; have Hc := Lib.hid hc; clear hmem hc
          go_wp2_with (go_at_call 35; refine (hh _ hrs (by omega)).mono ?_; rw [Hc.out]; rintro e w2 ⟨rfl, rfl⟩)
          go_roundg (gk - 1)
          case measure => have := Hkr.out; omega
          case rel => exact ⟨k + 1, _, _, vals, seen, out, rfl, rfl, by go_num, by have := Hkr.out; omega, HP.out.skip Hmem.out, HM.out⟩
        · have hc : seen.contains k = false := by simpa using hmem
          have hadd := HP.out.add Hr.out hlt hmem
          obtain ⟨hask, haw⟩ := ask_ok Hr.out hlt
          have hself := partOf_self Hr.out hlt
          have hdl := (away_dist Hr.out hlt).len
          have haww := refAway_walk m a cap es k
          rw [hask, haw] at haww
          obtain ⟨d, hd⟩ : ∃ d, d = awayL (besideL m es) k := ⟨_, rfl⟩
          rw [← hd] at hadd hself hdl haww
          have Hc := Lib.hid hc; have Hadd := Lib.hid hadd; have Hself := Lib.hid hself; have Hdl := Lib.hid hdl
          clear hmem hc hadd hask haw hself hdl hd
          go_wp2_with (first
            | (go_at_call 35; refine (hh _ hrs (by omega)).mono ?_; rw [Hc.out]; rintro e w2 ⟨rfl, rfl⟩)
            | (go_at_call 15; refine (haww _ hrg hcap).mono ?_; rintro e w3 ⟨hb3, a6, c6, rfl, hrd⟩))
          rw [Hdl.out]
          obtain ⟨b6, o6, rfl, _⟩ := hrd.at 0 (by rw [Hdl.out]; omega)
          have hM3 := HM.out.ext hb3
          have HM3 := Lib.hid hM3
          have hbl3 := hM3.bl
          clear hM3 c0 c1 hrg hrs hh haww HM
          obtain ⟨W3, rfl⟩ : ∃ W3 : World, W3 = w3 := ⟨_, rfl⟩
          have C03 := keep_cell hbl3 C0; have C13 := keep_cell hbl3 C1
          have Hcell : ∀ j (hj : j < d.length), W3.cell? ⟨b6, o6 + j, none⟩ = some (.int .i64 d[j]) := by
            intro j hj
            obtain ⟨b', o', e, hc'⟩ := hrd.at j hj
            simp at e
            obtain ⟨rfl, rfl⟩ := e
            exact hc'
          have HC := Lib.hid Hcell; clear Hcell hrd
          go_wp2_with fail
          go_loopg [8, 9] m (fun r pV i wr => ∃ j : Nat, i = .int .i64 j ∧ j + r = m ∧ Own wr pV 3 1 (partOf d j).length ((partOf d j).map vN) ∧ (∀ g, pV.ownBlock = some g → W3.heap.size ≤ g) ∧ Below W3.heap.size W3 wr)
          case atStart => exact ⟨0, rfl, by omega, own_nil _ _ _, fun g h => by simp [Value.ownBlock] at h, bl_refl _⟩
          case round =>
            obtain ⟨j, rfl, hjr, hown, hlo, hb⟩ := hrel
            have c0 := keep_cell hb C03
            by_cases hj : j < m
            · obtain ⟨z, hz⟩ : ∃ z, d[j]? = some z := ⟨d[j]'(by rw [Hdl.out]; exact hj), by simp⟩
              have q0 : wr.cell? ⟨b6, o6 + j, none⟩ = some (.int .i64 z) := by
                obtain ⟨hl', e⟩ := List.getElem?_eq_some_iff.1 hz
                rw [keep_cell hb (HC.out j hl'), e]
              have hps := partOf_succ d j
              have hpl := partOf_len d j
              rw [show d.getD j 0 = z by simp [List.getD, hz]] at hps
              have Hjr := Lib.hid hjr; have Hlo := Lib.hid hlo; have Hps := Lib.hid hps
              clear hjr hlo hz hps
              by_cases hz0 : 0 ≤ z
              · have g1 : decide (0 ≤ z) = true := by simpa using hz0
                have hown2 := hown.alloc (.cells #[.int .i64 j] 3)
                go_wp2_with (at_builtin; refine wpList_append_row _ rfl (.tmp 39) (.tmp 41) 27 rfl 3 (.int .i64 0) 1 8 Try.underlying27 int_info rfl _ _ _ rfl hown2 ⟨wr.heap.size, 0, none⟩ 1 1 [.int .i64 j] rfl rfl (one_new (by simp)) (one_ok _ _) (by omega) (by unfold maxLen; omega) (by omega) ?_; intro gq cq w5 hr5 hc5 hgr5 hor5)
                go_roundg (gk - 1)
                case measure => have := Hjr.out; omega
                case rel =>
                  refine ⟨j + 1, by go_num, by have := Hjr.out; omega, ?_, ?_, ?_⟩
                  · rw [Hps.out, if_pos (show 0 ≤ z by omega), List.map_append]
                    have := hr5.own (n := (partOf d j).length + 1) (by simp) hc5
                    simpa [vN] using this
                  · intro q hq
                    have : gq = q := Option.some.inj hq
                    subst this
                    rcases hor5 with h | h
                    · exact Hlo.out _ h
                    · simp at h; have := hb.size; omega
                  · exact (bl_trans hb (bl_alloc _ _)).grown hgr5 (by simp; have := hb.size; omega) (fun q hq => Hlo.out q hq)
              · have g1 : decide (0 ≤ z) = false := by simpa using hz0
                go_wp2_with fail
                go_roundg (gk - 1)
                case measure => have := Hjr.out; omega
                case rel => exact ⟨j + 1, by go_num, by have := Hjr.out; omega, by rw [Hps.out, if_neg (show ¬ 0 ≤ z by omega), List.append_nil]; exact hown, Hlo.out, hb⟩
            · have hjm : j = m := by omega
              subst hjm
              clear hjr hj
              rcases hown.2 with ⟨_, h0⟩ | ⟨gp, cp, rfl, hpc, hrp⟩
              · have := Hself.out; omega
              have hgp : W3.heap.size ≤ gp := hlo gp rfl
              obtain ⟨p, hp⟩ : ∃ p, p = partOf d j := ⟨_, rfl⟩
              have hplen := partOf_len d j
              rw [← hp] at hrp hpc hplen
              have hp0 : 0 < p.length := by rw [hp]; exact Hself.out
              have hadd := Hadd.out
              rw [← hp] at hadd ⊢
              have Hadd2 := Lib.hid hadd
              have hM4 := HM3.out.ext hb
              have hW31 := HM3.out.bl.size
              have hS := hM4.oS
              have hsne : ∀ g, (Value.slice sA seen.length cs).ownBlock = some g → g < W3.heap.size := fun g hg => HM3.out.oS.lt hg
              have hone : ∀ g, oV.ownBlock = some g → g < W3.heap.size := fun g hg => HM3.out.oO.lt hg
              clear hadd hown hlo hp Hadd C03 C13
              have HM4 := Lib.hid hM4; have Hsne := Lib.hid hsne; have Hone := Lib.hid hone
              clear hM4 hsne hone
              obtain ⟨W4, rfl⟩ : ∃ W4 : World, W4 = wr := ⟨_, rfl⟩
              go_upto_region 16 with (fail)
              clear c0
              go_upto_region 17 with (at_builtin; refine wpList_append_row _ rfl (.tmp 43) (.tmp 44) 27 rfl 3 (.int .i64 0) 1 8 Try.underlying27 int_info rfl _ _ _ rfl hS ⟨gp, 0, none⟩ p.length cp (p.map vN) rfl (by simp) (row_news hrp) (vN_one p) (by omega) (by unfold maxLen; omega) (by omega) ?_; intro gs ccs w5 hr5 hc5 hgr5 hor5)
              have hM5 := HM4.out.addSeen hr5 hc5 hgr5 hor5
              have hgpl := hrp.lt
              have hrp5 := hrp.grown hgr5 (fun e => by have := Hsne.out gp e; omega)
              have hgsp : gs ≠ gp := by
                rcases hor5 with h | h
                · have := Hsne.out gs h; omega
                · omega
              have hM6 := hM5.ext (bl_alloc w5 (.cells #[.slice (some ⟨gp, 0, none⟩) p.length cp] 27))
              have hrp6 := hrp5.alloc (.cells #[.slice (some ⟨gp, 0, none⟩) p.length cp] 27)
              have hO := hM6.oO
              have HM6 := Lib.hid hM6
              clear hM5 hM6 hS hr5 hc5 hgr5 hor5 hrp5 hrp
              go_wp2_with (at_builtin; refine wpList_append_row _ rfl (.tmp 46) (.tmp 48) 36 rfl 27 (.slice none 0 0) 1 24 Try.underlying36 ints_info rfl _ _ _ rfl hO ⟨w5.heap.size, 0, none⟩ 1 1 [.slice (some ⟨gp, 0, none⟩) p.length cp] rfl rfl (one_new (by simp)) (by intro u hu; simp at hu; subst hu; rfl) (by omega) (by unfold maxLen; omega) (by omega) ?_; intro go cco w7 hr7 hc7 hgr7 hor7)
              have hM7 := HM6.out.addOut hrp6 (by omega) (by intro e; exact hgsp (Option.some.inj e)) (fun e => by have := Hone.out gp e; omega) hr7 hc7 hgr7 hor7
              go_roundg (j - (k + 1))
              case measure => have := Hkr.out; omega
              case rel => exact ⟨k + 1, _, _, _, _, _, rfl, rfl, by go_num, by omega, Hadd2.out, hM7⟩
      · have hkm : k = m := by omega
        subst hkm
        have hfin := hP.finish
        have hlen := hM.len
        have hshape : ∃ ao co, oV = .slice ao vals.length co ∧ CellsAt wr ao vals := hM.oO.shape
        obtain ⟨ao, co, rfl, hcells⟩ := hshape
        have hrows : RdR wr ao (out.map castL) := by
          intro i r hr'
          rw [List.getElem?_map] at hr'
          cases hri : out[i]? with
          | none => rw [hri] at hr'; cases hr'
          | some r0 =>
            rw [hri] at hr'
            have hil : i < vals.length := by rw [hlen]; exact (List.getElem?_eq_some_iff.1 hri).1
            obtain ⟨u, hu⟩ : ∃ u, vals[i]? = some u := ⟨_, List.getElem?_eq_getElem hil⟩
            obtain ⟨g, c, rfl, hrow, _⟩ := hM.row i u r0 hu hri
            obtain ⟨bo, oo, hao, hc⟩ := hcells i _ hu
            have hr0 : r = castL r0 := by simpa using hr'.symm
            subst hr0
            rw [vN_cast] at hrow
            refine ⟨bo, oo, hao, some ⟨g, 0, none⟩, c, by rw [castL_len]; exact hc, hrow.rdI2, ?_⟩
            have h1 := hrow.len_le; have h2 := hrow.cap_le
            simp [maxLen] at h1 h2 ⊢
            omega
        have hl2 : vals.length = ((partsL (besideL k es)).map castL).length := by rw [hlen, ← hfin]; simp
        rw [hfin] at hrows
        have Hl2 := Lib.hid hl2
        have hB9 := bl_trans hB1 hM.bl
        clear hkr hlt hP hM hfin hlen hl2 hcells
        go_wp2_with fail
        go_ret
        exact ⟨hB9, ao, co, by rw [← Hl2.out]; rfl, hrows⟩
end Go.Proofs.Ytddndhhhmlcgjaa
