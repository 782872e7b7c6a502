/- fretworkref04.Away. -/
import Derived.Test.YtddndhhhmlcgjaaRefAP
import Derived.Test.YtddndhhhmlcgjaaRefWalk
import Derived.BigRegion
import Derived.Outline
namespace Go.Proofs.Ytddndhhhmlcgjaa
open Go Go.RowKit

def awayR (n : Int) (es : List (Int × Int)) (st : Int) : List Int := if askE n es st = 0 then awayL (besideL n.toNat es) st.toNat else []
def CalmTo (es : List (Int × Int)) (k : Nat) (out : List Int) : Prop := ∀ (j : Nat) (hj : j < es.length), j < k → Calm out es[j].1.toNat es[j].2.toNat ∧ Calm out es[j].2.toNat es[j].1.toNat
def Prog (es : List (Int × Int)) (m k : Nat) (out0 out : List Int) (b : Bool) : Prop := (b = false ∧ out = out0 ∧ CalmTo es k out0) ∨ (b = true ∧ toGain m out < toGain m out0)
theorem CalmTo.next {es : List (Int × Int)} {k : Nat} {out : List Int} (h : CalmTo es k out) (hk : k < es.length) {x y : Nat} (he : es[k] = ((x : Int), (y : Int))) {A B : Int} (hA : out[x]? = some A) (hB : out[y]? = some B)
    (h1 : 0 ≤ A → 0 ≤ B ∧ B ≤ A + 1) (h2 : 0 ≤ B → 0 ≤ A ∧ A ≤ B + 1) : CalmTo es (k + 1) out := by
  intro j hj hjk
  by_cases e : j < k
  · exact h j hj e
  · obtain rfl : j = k := by omega
    rw [he]
    refine ⟨fun A' B' hA' hB' h0 => ?_, fun A' B' hA' hB' h0 => ?_⟩
    · simp only [Int.toNat_natCast] at hA' hB'
      rw [hA] at hA'; rw [hB] at hB'; cases hA'; cases hB'; exact h1 h0
    · simp only [Int.toNat_natCast] at hA' hB'
      rw [hB] at hA'; rw [hA] at hB'; cases hA'; cases hB'; exact h2 h0
theorem Prog.gain {es : List (Int × Int)} {m k k' : Nat} {out0 out out' : List Int} {b : Bool} (h : Prog es m k out0 out b) (hg : toGain m out' < toGain m out) : Prog es m k' out0 out' true := by
  right; refine ⟨rfl, ?_⟩
  rcases h with ⟨_, rfl, _⟩ | ⟨_, h⟩
  · exact hg
  · omega
theorem Prog.calm {es : List (Int × Int)} {m k : Nat} {out0 out : List Int} {b : Bool} (h : Prog es m k out0 out b) (hk : k < es.length) {x y : Nat} (he : es[k] = ((x : Int), (y : Int))) {A B : Int} (hA : out[x]? = some A) (hB : out[y]? = some B)
    (h1 : 0 ≤ A → 0 ≤ B ∧ B ≤ A + 1) (h2 : 0 ≤ B → 0 ≤ A ∧ A ≤ B + 1) : Prog es m (k + 1) out0 out b := by
  rcases h with ⟨hb, rfl, hc⟩ | ⟨hb, h⟩
  · exact .inl ⟨hb, rfl, hc.next hk he hA hB h1 h2⟩
  · exact .inr ⟨hb, h⟩

set_option maxRecDepth 100000 in
set_option maxHeartbeats 4000000 in
theorem refAway_walk (n : Int) (a : Option Addr) (cap : Nat) (es : List (Int × Int)) (st : Int) (w : World) (hr : RdP w a es) (hcap : es.length ≤ 9223372036854775807) :
    Calls Try.prog 15 #[.agg #[.int .i64 n, .slice a es.length cap], .int .i64 st] w (RetL w (awayR n es st) (askE n es st)) := by
  have hbx : Below w.heap.size w (w.alloc (.cells #[.int .i64 n, .slice a es.length cap] 24)) := bl_alloc _ _
  by_cases hask : askE n es st = 0
  · obtain ⟨hright, h0, h1⟩ := ask_zero hask
    have hn2 := ((rightB_iff _ _).1 hright).2.1
    obtain ⟨m, rfl⟩ : ∃ m : Nat, n = m := ⟨n.toNat, by omega⟩
    obtain ⟨s, rfl⟩ : ∃ s : Nat, st = s := ⟨st.toNat, by omega⟩
    have hsm : s < m := by omega
    have e1 : awayR m es s = awayL (besideL m es) s := by simp [awayR, hask]
    rw [e1, hask]
    have hst := AI.start (bs := besideL m es) hsm
    have hdl := (away_dist hright hsm).len
    obtain ⟨fin, hfin⟩ : ∃ fin, fin = awayL (besideL m es) s := ⟨_, rfl⟩
    have hdone : ∀ out, AI (besideL m es) m s out → CalmTo es es.length out → out = fin := fun out h1 h2 => by rw [hfin]; exact h1.done hright hsm (fun k hk => h2 k hk hk)
    rw [← hfin] at hdl ⊢
    have Hr := Lib.hid hright; have Hask := Lib.hid hask; have Hst := Lib.hid hst; have Hdone := Lib.hid hdone; have Hdl := Lib.hid hdl
    clear hright hask hst hfin e1 hdone hdl
    go_enter Try.func15, Try.ntmps15
    go_wp2_with (go_at_call 28; refine (asked_walk m a cap es s _ (hr.below hbx) hcap).mono ?_; rw [Hask.out]; rintro e w1 ⟨rfl, hb1⟩)
    have hB1 := bl_trans hbx hb1
    have C0 : w1.cell? ⟨w.heap.size, 0, none⟩ = some (.int .i64 m) := keep_cell hb1 (by simp)
    have C1 : w1.cell? ⟨w.heap.size, 1, none⟩ = some (.slice a es.length cap) := keep_cell hb1 (by simp)
    have szw : w.heap.size < w1.heap.size := by have := hb1.size; simp at this; omega
    have hr1 := hr.below hB1
    clear hb1 hbx
    obtain ⟨W1, rfl⟩ : ∃ W1 : World, W1 = w1 := ⟨_, rfl⟩
    go_loopg [7, 8] m (fun r u i wr => ∃ k : Nat, i = .int .i64 k ∧ k + r = m ∧ Own wr u 3 1 k (List.replicate k (.int .i64 (-1))) ∧ (∀ g, u.ownBlock = some g → W1.heap.size ≤ g) ∧ Below W1.heap.size W1 wr)
    case atStart => exact ⟨0, rfl, by omega, own_nil _ _ _, fun g h => by simp [Value.ownBlock] at h, bl_refl _⟩
    case round =>
      obtain ⟨k, rfl, hkr, hown, hlo, hb⟩ := hrel
      have c0 := keep_cell hb C0; have c1 := keep_cell hb C1
      by_cases hlt : k < m
      · have hown2 := hown.alloc (.cells #[.int .i64 (-1)] 3)
        have Hkr := Lib.hid hkr; have Hlo := Lib.hid hlo; clear hkr hlo
        go_wp2_with (at_builtin; refine wpList_append_row _ rfl (.tmp 25) (.tmp 26) 27 rfl 3 (.int .i64 0) 1 8 Try.underlying27 int_info rfl _ _ _ rfl hown2 ⟨wr.heap.size, 0, none⟩ 1 1 [.int .i64 (-1)] rfl rfl (one_new (by simp)) (one_ok _ _) (by omega) (by unfold maxLen; omega) (by omega) ?_; intro g1 cc1 w2 hr1 hc1 hgr1 hor1)
        go_roundg (gk - 1)
        case measure => have := Hkr.out; omega
        case rel =>
          refine ⟨k + 1, by go_num, by have := Hkr.out; omega, ?_, ?_, ?_⟩
          · rw [List.replicate_succ']; exact hr1.own (by simp) hc1
          · intro q hq
            have : g1 = q := Option.some.inj hq
            subst this
            rcases hor1 with h | h
            · exact Hlo.out _ h
            · simp at h; have := hb.size; omega
          · exact (bl_trans hb (bl_alloc _ _)).grown hgr1 (by simp; have := hb.size; omega) (fun q hq => Hlo.out q hq)
      · have hkm : k = m := by omega
        subst hkm
        clear hkr hlt
        rcases hown.2 with ⟨_, h0⟩ | ⟨gu, cu, rfl, _, hru⟩
        · omega
        have hgu : W1.heap.size ≤ gu := hlo gu rfl
        obtain ⟨w2, rfl⟩ : ∃ w2 : World, w2 = wr := ⟨_, rfl⟩
        clear hown hlo
        have hgl := hru.lt
        obtain ⟨m, hmk⟩ : ∃ m, m = k := ⟨k, rfl⟩
        subst hmk
        have r1 : w2.cell? ⟨gu, s, none⟩ = some (.int .i64 (-1)) := by rw [hru.cell? s (by simpa using hsm)]; simp [hsm]
        have r2 : w2.frozen? ⟨gu, s, none⟩ = false := hru.frozen s
        have hru' := hru.set s (.int .i64 0)
        have hrepl : (List.replicate m (Value.int .i64 (-1))).set s (.int .i64 0) = ((List.replicate m (-1 : Int)).set s 0).map (Value.int .i64) := by rw [List.map_set]; simp
        rw [hrepl] at hru'
        have hb2 : Below W1.heap.size W1 (w2.setCell ⟨gu, s, none⟩ (.int .i64 0)) := hb.setCell hgu _
        have sz2 := hb.size
        clear hrepl hru hb
        go_upto_region 10 with (fail)
        generalize w2.setCell ⟨gu, s, none⟩ (.int .i64 0) = w3 at hru' hb2 ⊢
        clear r1 r2 hgl c0 c1 sz2
        go_wp2_with fail
        go_loopg [9] (2 * toGain m ((List.replicate m (-1)).set s 0) + 1) (fun r ch wr => ∃ (out : List Int) (b : Bool), ch = .bool b ∧ AI (besideL m es) m s out ∧ Row wr gu 3 1 cu (out.map (Value.int .i64)) ∧ Below W1.heap.size W1 wr ∧ 2 * toGain m out + (if b then 1 else 0) ≤ r ∧ (b = false → CalmTo es es.length out))
        case atStart => exact ⟨_, true, rfl, Hst.out, hru', hb2, by simp, fun h => by cases h⟩
        case round =>
          obtain ⟨out0, b0, rfl, hI0, hrw0, hbk0, hms, hcalm⟩ := hrel
          cases b0 with
          | false =>
            have hfin := Hdone.out out0 hI0 (hcalm rfl)
            have Hfin := Lib.hid hfin
            have hJ := hrw0.rdI2
            have hl := hI0.len
            have Hl := Lib.hid hl
            clear hfin hcalm hms hI0 hl
            go_wp2_with fail
            go_ret2
            refine ⟨bl_trans hB1 hbk0, some ⟨gu, 0, none⟩, cu, ?_, ?_⟩
            · rw [Hdl.out]; rfl
            · rw [← Hfin.out]; exact hJ
          | true =>
            have Hms := Lib.hid hms; have HI0 := Lib.hid hI0
            clear hms hI0 hcalm
            go_wp2_with fail
            go_loopg [9, 10] es.length (fun r2 ch i wr => ∃ (k : Nat) (out : List Int) (b : Bool), i = .int .i64 k ∧ ch = .bool b ∧ k + r2 = es.length ∧ AI (besideL m es) m s out ∧ Row wr gu 3 1 cu (out.map (Value.int .i64)) ∧ Below W1.heap.size W1 wr ∧ Prog es m k out0 out b)
            case atStart => exact ⟨0, out0, false, rfl, rfl, by omega, HI0.out, hrw0, hbk0, .inl ⟨rfl, rfl, fun j _ h => by omega⟩⟩
            case round =>
              obtain ⟨k, out, b, rfl, rfl, hkr, hI, hrw, hbk, hP⟩ := hrel
              clear hrw0 hbk0
              have c0k := keep_cell hbk C0; have c1k := keep_cell hbk C1
              by_cases hlt : k < es.length
              · obtain ⟨bb, oo, rfl, p0, p1⟩ := (hr1.below hbk).at k hlt
                obtain ⟨e0, e1, e2⟩ := ((rightB_iff _ _).1 Hr.out).2.2.2.1 k hlt
                obtain ⟨x, hx⟩ : ∃ x : Nat, es[k].1 = (x : Int) := ⟨es[k].1.toNat, by omega⟩
                obtain ⟨y, hy⟩ : ∃ y : Nat, es[k].2 = (y : Int) := ⟨es[k].2.toNat, by omega⟩
                rw [hx] at p0 e0 e1
                rw [hy] at p1 e1 e2
                have hxm : x < m := by omega
                have hym : y < m := by omega
                have hxy : x ≠ y := by omega
                have hek : es[k] = ((x : Int), (y : Int)) := by ext <;> simp [hx, hy]
                have hab := (mem_adj Hr.out x y).2 ⟨k, hlt, Or.inl hek⟩
                have hba := (mem_adj Hr.out y x).2 ⟨k, hlt, Or.inr hek⟩
                rw [← beside_getD (es := es) hxm] at hab
                rw [← beside_getD (es := es) hym] at hba
                obtain ⟨A, hA⟩ : ∃ A, out[x]? = some A := ⟨out[x]'(by rw [hI.len]; exact hxm), by simp⟩
                obtain ⟨B, hB⟩ : ∃ B, out[y]? = some B := ⟨out[y]'(by rw [hI.len]; exact hym), by simp⟩
                have q0 : wr.cell? ⟨gu, x, none⟩ = some (.int .i64 A) := by rw [hrw.cell? x (by simp [hI.len]; omega)]; simp [hA]
                have q1 : wr.cell? ⟨gu, y, none⟩ = some (.int .i64 B) := by rw [hrw.cell? y (by simp [hI.len]; omega)]; simp [hB]
                have hrl := reached_le out
                rw [hI.len] at hrl
                have bA := hI.bound x A hA; have bB := hI.bound y B hB
                have vA := hI.val x A hA; have vB := hI.val y B hB
                have A2 : A ≤ 200 := by omega
                have B2 : B ≤ 200 := by omega
                have ix : (x : Int) < (m : Int) := by omega
                have iy : (y : Int) < (m : Int) := by omega
                have ik : (k : Int) < (es.length : Int) := by omega
                have hol := hI.len
                have Hek := Lib.hid hek; have Hab := Lib.hid hab; have Hba := Lib.hid hba; have HA := Lib.hid hA; have HB := Lib.hid hB; have HI := Lib.hid hI; have HP := Lib.hid hP; have Hkr := Lib.hid hkr; have Hol := Lib.hid hol
                clear hek hab hba hA hB hI hP hkr hol hrl bA bB hx hy
                have szg := hrw.lt
                by_cases hA0 : 0 ≤ A
                · have f1 : decide (0 ≤ A) = true := by simpa using hA0
                  have f2 : decide (A < 0) = false := by simpa using hA0
                  by_cases hB0 : B < 0
                  · have f3 : decide (B < 0) = true := by simpa using hB0
                    go_wp2_with fail
                    go_quiet (fail)
                    go_wp2_with fail
                    go_quiet (fail)
                    generalize hN7 : World.drewN _ _ = wd
                    have hbd : Below wr.heap.size wr wd := by subst hN7; exact below_drewN (below_drewN (Below.refl _ _) _) _
                    have hbk7 := bl_trans hbk hbd
                    have hrw7 := hrw.below hbd hrw.lt
                    have t0 := keep_cell hbd q0; have t1 := keep_cell hbd q1
                    have d0 := keep_cell hbd c0k; have d1 := keep_cell hbd c1k
                    have fr7 : ∀ i, wd.frozen? ⟨gu, i, none⟩ = false := fun i => hrw7.frozen i
                    clear hN7 hbd q0 q1 c0k c1k hrw hbk p0 p1
                    have hg := HI.out.relax HA.out HB.out Hab.out (by omega) (by omega)
                    have Hg := Lib.hid hg; clear hg
                    have hrw9 := hrw7.set y (.int .i64 (A + 1))
                    rw [← List.map_set] at hrw9
                    have hbk9 : Below W1.heap.size W1 (wd.setCell ⟨gu, y, none⟩ (.int .i64 (A + 1))) := hbk7.setCell hgu _
                    go_upto_region 20 with (fail)
                    generalize wd.setCell ⟨gu, y, none⟩ (.int .i64 (A + 1)) = wt at hrw9 hbk9 ⊢
                    have u0 : wt.cell? ⟨gu, x, none⟩ = some (.int .i64 A) := by rw [hrw9.cell? x (by simp [Hol.out]; omega)]; simp [HA.out, List.getElem?_set, Ne.symm hxy]
                    have u1 : wt.cell? ⟨gu, y, none⟩ = some (.int .i64 (A + 1)) := by rw [hrw9.cell? y (by simp [Hol.out]; omega)]; simp [List.getElem?_set, Hol.out]; omega
                    have k1 : decide (0 ≤ A + 1) = true := by simp; omega
                    have k2 : decide (A < 0) = false := by simp; omega
                    have k3 : decide (A + 1 + 1 < A) = false := by simp; omega
                    clear t0 t1 d0 d1 fr7 hrw7 hbk7
                    go_wp2_with fail
                    go_quiet (fail)
                    generalize hN8 : World.drewN _ _ = we
                    have hbe : Below wt.heap.size wt we := by subst hN8; exact below_drewN (Below.refl _ _) _
                    have hbk8 := bl_trans hbk9 hbe
                    have hrw8 := hrw9.below hbe hrw9.lt
                    clear hN8
                    go_wp2_with fail
                    go_roundg (es.length - (k + 1))
                    case measure => have := Hkr.out; omega
                    case rel => exact ⟨k + 1, out.set y (A + 1), true, by go_num, rfl, by omega, Hg.out.1, hrw8, hbk8, HP.out.gain Hg.out.2⟩
                  · have f3 : decide (B < 0) = false := by simpa using hB0
                    have f4 : decide (0 ≤ B) = true := by simp; omega
                    by_cases hAB : A + 1 < B
                    · have f5 : decide (A + 1 < B) = true := by simpa using hAB
                      go_wp2_with fail
                      go_quiet (fail)
                      go_wp2_with fail
                      go_quiet (fail)
                      generalize hN7 : World.drewN _ _ = wd
                      have hbd : Below wr.heap.size wr wd := by subst hN7; exact below_drewN (below_drewN (Below.refl _ _) _) _
                      have hbk7 := bl_trans hbk hbd
                      have hrw7 := hrw.below hbd hrw.lt
                      have t0 := keep_cell hbd q0; have t1 := keep_cell hbd q1
                      have d0 := keep_cell hbd c0k; have d1 := keep_cell hbd c1k
                      have fr7 : ∀ i, wd.frozen? ⟨gu, i, none⟩ = false := fun i => hrw7.frozen i
                      clear hN7 hbd q0 q1 c0k c1k hrw hbk p0 p1
                      have hg := HI.out.relax HA.out HB.out Hab.out (by omega) (by omega)
                      have Hg := Lib.hid hg; clear hg
                      have hrw9 := hrw7.set y (.int .i64 (A + 1))
                      rw [← List.map_set] at hrw9
                      have hbk9 : Below W1.heap.size W1 (wd.setCell ⟨gu, y, none⟩ (.int .i64 (A + 1))) := hbk7.setCell hgu _
                      go_upto_region 20 with (fail)
                      generalize wd.setCell ⟨gu, y, none⟩ (.int .i64 (A + 1)) = wt at hrw9 hbk9 ⊢
                      have u0 : wt.cell? ⟨gu, x, none⟩ = some (.int .i64 A) := by rw [hrw9.cell? x (by simp [Hol.out]; omega)]; simp [HA.out, List.getElem?_set, Ne.symm hxy]
                      have u1 : wt.cell? ⟨gu, y, none⟩ = some (.int .i64 (A + 1)) := by rw [hrw9.cell? y (by simp [Hol.out]; omega)]; simp [List.getElem?_set, Hol.out]; omega
                      have k1 : decide (0 ≤ A + 1) = true := by simp; omega
                      have k2 : decide (A < 0) = false := by simp; omega
                      have k3 : decide (A + 1 + 1 < A) = false := by simp; omega
                      clear t0 t1 d0 d1 fr7 hrw7 hbk7
                      go_wp2_with fail
                      go_quiet (fail)
                      generalize hN8 : World.drewN _ _ = we
                      have hbe : Below wt.heap.size wt we := by subst hN8; exact below_drewN (Below.refl _ _) _
                      have hbk8 := bl_trans hbk9 hbe
                      have hrw8 := hrw9.below hbe hrw9.lt
                      clear hN8
                      go_wp2_with fail
                      go_roundg (es.length - (k + 1))
                      case measure => have := Hkr.out; omega
                      case rel => exact ⟨k + 1, out.set y (A + 1), true, by go_num, rfl, by omega, Hg.out.1, hrw8, hbk8, HP.out.gain Hg.out.2⟩
                    · have f5 : decide (A + 1 < B) = false := by simpa using hAB
                      by_cases hBA : B + 1 < A
                      · have f6 : decide (B + 1 < A) = true := by simpa using hBA
                        go_wp2_with fail
                        go_quiet (fail)
                        go_wp2_with fail
                        go_quiet (fail)
                        generalize hN7 : World.drewN _ _ = wd
                        have hbd : Below wr.heap.size wr wd := by subst hN7; exact below_drewN (below_drewN (Below.refl _ _) _) _
                        have hbk7 := bl_trans hbk hbd
                        have hrw7 := hrw.below hbd hrw.lt
                        have t0 := keep_cell hbd q0; have t1 := keep_cell hbd q1
                        have d0 := keep_cell hbd c0k; have d1 := keep_cell hbd c1k
                        have fr7 : ∀ i, wd.frozen? ⟨gu, i, none⟩ = false := fun i => hrw7.frozen i
                        clear hN7 hbd q0 q1 c0k c1k hrw hbk p0 p1
                        have hg := HI.out.relax HB.out HA.out Hba.out (by omega) (by omega)
                        have Hg := Lib.hid hg; clear hg
                        go_wp2_with fail
                        go_quiet (fail)
                        generalize hN8 : World.drewN _ _ = we
                        have hbe : Below wd.heap.size wd we := by subst hN8; exact below_drewN (Below.refl _ _) _
                        have hbk8 := bl_trans hbk7 hbe
                        have hrw8 := hrw7.below hbe hrw7.lt
                        have v0 := keep_cell hbe t0; have v1 := keep_cell hbe t1
                        have fr8 : ∀ i, we.frozen? ⟨gu, i, none⟩ = false := fun i => hrw8.frozen i
                        have hrw9 := hrw8.set x (.int .i64 (B + 1))
                        rw [← List.map_set] at hrw9
                        have hbk9 : Below W1.heap.size W1 (we.setCell ⟨gu, x, none⟩ (.int .i64 (B + 1))) := hbk8.setCell hgu _
                        clear hN8 hbe t0 t1 fr7 hrw7 hbk7 hrw8
                        go_wp2_with fail
                        go_roundg (es.length - (k + 1))
                        case measure => have := Hkr.out; omega
                        case rel => exact ⟨k + 1, out.set x (B + 1), true, by go_num, rfl, by omega, Hg.out.1, hrw9, hbk9, HP.out.gain Hg.out.2⟩
                      · have f6 : decide (B + 1 < A) = false := by simpa using hBA
                        go_wp2_with fail
                        go_quiet (fail)
                        go_wp2_with fail
                        go_quiet (fail)
                        generalize hN7 : World.drewN _ _ = wd
                        have hbd : Below wr.heap.size wr wd := by subst hN7; exact below_drewN (below_drewN (Below.refl _ _) _) _
                        have hbk7 := bl_trans hbk hbd
                        have hrw7 := hrw.below hbd hrw.lt
                        have t0 := keep_cell hbd q0; have t1 := keep_cell hbd q1
                        have d0 := keep_cell hbd c0k; have d1 := keep_cell hbd c1k
                        have fr7 : ∀ i, wd.frozen? ⟨gu, i, none⟩ = false := fun i => hrw7.frozen i
                        clear hN7 hbd q0 q1 c0k c1k hrw hbk p0 p1
                        go_wp2_with fail
                        go_quiet (fail)
                        generalize hN8 : World.drewN _ _ = we
                        have hbe : Below wd.heap.size wd we := by subst hN8; exact below_drewN (Below.refl _ _) _
                        have hbk8 := bl_trans hbk7 hbe
                        have hrw8 := hrw7.below hbe hrw7.lt
                        clear hN8
                        go_wp2_with fail
                        go_roundg (es.length - (k + 1))
                        case measure => have := Hkr.out; omega
                        case rel => exact ⟨k + 1, out, b, by go_num, rfl, by omega, HI.out, hrw8, hbk8, HP.out.calm hlt Hek.out HA.out HB.out (by omega) (by omega)⟩
                · have f1 : decide (0 ≤ A) = false := by simpa using hA0
                  have f2 : decide (A < 0) = true := by simp; omega
                  by_cases hB0 : 0 ≤ B
                  · have f3 : decide (0 ≤ B) = true := by simpa using hB0
                    go_wp2_with fail
                    go_quiet (fail)
                    go_wp2_with fail
                    go_quiet (fail)
                    generalize hN7 : World.drewN _ _ = wd
                    have hbd : Below wr.heap.size wr wd := by subst hN7; exact below_drewN (below_drewN (Below.refl _ _) _) _
                    have hbk7 := bl_trans hbk hbd
                    have hrw7 := hrw.below hbd hrw.lt
                    have t0 := keep_cell hbd q0; have t1 := keep_cell hbd q1
                    have d0 := keep_cell hbd c0k; have d1 := keep_cell hbd c1k
                    have fr7 : ∀ i, wd.frozen? ⟨gu, i, none⟩ = false := fun i => hrw7.frozen i
                    clear hN7 hbd q0 q1 c0k c1k hrw hbk p0 p1
                    have hg := HI.out.relax HB.out HA.out Hba.out (by omega) (by omega)
                    have Hg := Lib.hid hg; clear hg
                    go_wp2_with fail
                    go_quiet (fail)
                    generalize hN8 : World.drewN _ _ = we
                    have hbe : Below wd.heap.size wd we := by subst hN8; exact below_drewN (Below.refl _ _) _
                    have hbk8 := bl_trans hbk7 hbe
                    have hrw8 := hrw7.below hbe hrw7.lt
                    have v0 := keep_cell hbe t0; have v1 := keep_cell hbe t1
                    have fr8 : ∀ i, we.frozen? ⟨gu, i, none⟩ = false := fun i => hrw8.frozen i
                    have hrw9 := hrw8.set x (.int .i64 (B + 1))
                    rw [← List.map_set] at hrw9
                    have hbk9 : Below W1.heap.size W1 (we.setCell ⟨gu, x, none⟩ (.int .i64 (B + 1))) := hbk8.setCell hgu _
                    clear hN8 hbe t0 t1 fr7 hrw7 hbk7 hrw8
                    go_wp2_with fail
                    go_roundg (es.length - (k + 1))
                    case measure => have := Hkr.out; omega
                    case rel => exact ⟨k + 1, out.set x (B + 1), true, by go_num, rfl, by omega, Hg.out.1, hrw9, hbk9, HP.out.gain Hg.out.2⟩
                  · have f3 : decide (0 ≤ B) = false := by simpa using hB0
                    go_wp2_with fail
                    go_quiet (fail)
                    go_wp2_with fail
                    go_quiet (fail)
                    generalize hN7 : World.drewN _ _ = wd
                    have hbd : Below wr.heap.size wr wd := by subst hN7; exact below_drewN (below_drewN (Below.refl _ _) _) _
                    have hbk7 := bl_trans hbk hbd
                    have hrw7 := hrw.below hbd hrw.lt
                    have t0 := keep_cell hbd q0; have t1 := keep_cell hbd q1
                    have d0 := keep_cell hbd c0k; have d1 := keep_cell hbd c1k
                    have fr7 : ∀ i, wd.frozen? ⟨gu, i, none⟩ = false := fun i => hrw7.frozen i
                    clear hN7 hbd q0 q1 c0k c1k hrw hbk p0 p1
                    go_wp2_with fail
                    go_quiet (fail)
                    generalize hN8 : World.drewN _ _ = we
                    have hbe : Below wd.heap.size wd we := by subst hN8; exact below_drewN (Below.refl _ _) _
                    have hbk8 := bl_trans hbk7 hbe
                    have hrw8 := hrw7.below hbe hrw7.lt
                    clear hN8
                    go_wp2_with fail
                    go_roundg (es.length - (k + 1))
                    case measure => have := Hkr.out; omega
                    case rel => exact ⟨k + 1, out, b, by go_num, rfl, by omega, HI.out, hrw8, hbk8, HP.out.calm hlt Hek.out HA.out HB.out (by omega) (by omega)⟩
              · have Hms2 := Hms.out
                have hke : k = es.length := by omega
                have HI := Lib.hid hI; have HP := Lib.hid hP
                clear hI hP hkr Hms2
                go_wp2_with fail
                go_roundg (2 * toGain m out + (if b then 1 else 0))
                case measure =>
                  have h1 := Hms.out
                  simp only [if_true] at h1
                  rcases HP.out with ⟨hb, rfl, _⟩ | ⟨hb, h⟩
                  · subst hb; simp; omega
                  · subst hb; simp; omega
                case rel =>
                  refine ⟨out, b, rfl, HI.out, hrw, hbk, Nat.le_refl _, fun hb => ?_⟩
                  rcases HP.out with ⟨_, rfl, hc⟩ | ⟨hb', _⟩
                  · rw [← hke]; exact hc
                  · rw [hb] at hb'; cases hb'
  · have hw : awayR n es st = [] := by simp [awayR, hask]
    rw [hw]
    have g0 : (askE n es st != 0) = true := by simpa using hask
    obtain ⟨er, her⟩ : ∃ er, er = askE n es st := ⟨_, rfl⟩
    rw [← her] at g0 ⊢
    have Her := Lib.hid her; clear her hask hw
    go_enter Try.func15, Try.ntmps15
    go_wp2_with (go_at_call 28; refine (asked_walk n a cap es st _ (hr.below hbx) hcap).mono ?_; rw [← Her.out]; rintro e w1 ⟨rfl, hb1⟩)
    go_ret2
    exact ⟨bl_trans hbx hb1, none, 0, rfl, rdI_nil _ _⟩
end Go.Proofs.Ytddndhhhmlcgjaa
