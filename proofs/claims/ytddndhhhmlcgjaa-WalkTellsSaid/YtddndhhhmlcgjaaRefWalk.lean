/- fretworkref04.Walk. -/
import Derived.Test.YtddndhhhmlcgjaaRefWP
import Derived.Test.YtddndhhhmlcgjaaTop
import Derived.Test.YtddndhhhmlcgjaaPartsM
import Derived.Deep.RegionHeld3
import Derived.Outline
namespace Go.Proofs.Ytddndhhhmlcgjaa
open Go Go.RowKit

/-- two lists and an error -/
def RetLL (w : World) (L1 L2 : List Int) (er : Int) (e : Ending) (w' : World) : Prop :=
  Below w.heap.size w w' ∧ ∃ a1 c1 a2 c2, e = .returned (.tuple #[.slice a1 L1.length c1, .slice a2 L2.length c2, .int .i64 er]) ∧ RdI w' a1 L1 ∧ RdI w' a2 L2
/-- a list and an error -/
def RetL (w : World) (L1 : List Int) (er : Int) (e : Ending) (w' : World) : Prop :=
  Below w.heap.size w w' ∧ ∃ a1 c1, e = .returned (.tuple #[.slice a1 L1.length c1, .int .i64 er]) ∧ RdI w' a1 L1
def castL (l : List Nat) : List Int := l.map fun (x : Nat) => (x : Int)
def walkR (n : Int) (es : List (Int × Int)) (st : Int) : List Int × List Int := if askE n es st = 0 then (castL (walkL (besideL n.toNat es) st.toNat).1, (walkL (besideL n.toNat es) st.toNat).2) else ([], [])
theorem rdI_nil (w : World) (a : Option Addr) : RdI w a [] := by intro i u hu; simp at hu
theorem Row.rdI2 {w : World} {g cap : Nat} {e : TypeId} {xs : List Int} (h : Row w g e 1 cap (xs.map (Value.int .i64))) : RdI w (some ⟨g, 0, none⟩) xs := h.at_
theorem vN_cast (l : List Nat) : l.map vN = (castL l).map (Value.int .i64) := map_vN l
theorem castL_len (l : List Nat) : (castL l).length = l.length := by simp [castL]

theorem ask_zero {n : Int} {es : List (Int × Int)} {v : Int} (h : askE n es v = 0) : rightB n es = true ∧ 0 ≤ v ∧ v < n := by
  unfold askE at h
  split at h
  · rename_i hr
    split at h
    · rename_i hi; exact ⟨hr, (inR_iff _ _).1 hi⟩
    · simp at h
  · simp at h

set_option maxRecDepth 100000 in
set_option maxHeartbeats 4000000 in
theorem refWalk_walk (n : Int) (a : Option Addr) (cap : Nat) (es : List (Int × Int)) (st : Int) (w : World) (hr : RdP w a es) (hcap : es.length ≤ 9223372036854775807) :
    Calls Try.prog 13 #[.agg #[.int .i64 n, .slice a es.length cap], .int .i64 st] w (RetLL w (walkR n es st).1 (walkR n es st).2 (askE n es st)) := by
  have hbx : Below w.heap.size w (w.alloc (.cells #[.int .i64 n, .slice a es.length cap] 24)) := bl_alloc _ _
  by_cases hask : askE n es st = 0
  · obtain ⟨hright, h0, h1⟩ := ask_zero hask
    have hn2 := ((rightB_iff _ _).1 hright).2.1
    obtain ⟨m, rfl⟩ : ∃ m : Nat, n = m := ⟨n.toNat, by omega⟩
    obtain ⟨s, rfl⟩ : ∃ s : Nat, st = s := ⟨st.toNat, by omega⟩
    have hsm : s < m := by omega
    have e1 : (walkR m es s).1 = castL (walkL (besideL m es) s).1 := by simp [walkR, hask]
    have e2 : (walkR m es s).2 = (walkL (besideL m es) s).2 := by simp [walkR, hask]
    rw [e1, e2, hask]
    have hst := RInv.start (besideL_length m es) hsm
    have hbl := beside_lt hright
    obtain ⟨fin, hfin⟩ : ∃ fin, fin = walkL (besideL m es) s := ⟨_, rfl⟩
    rw [← hfin] at hst ⊢
    have Hr := Lib.hid hright; have Hask := Lib.hid hask; have Hst := Lib.hid hst; have Hbl := Lib.hid hbl
    clear hright hask hst hfin e1 e2 hbl
    go_enter Try.func13, Try.ntmps13
    go_wp2_with (go_at_call 28; refine (asked_walk m a cap es s _ (hr.below hbx) hcap).mono ?_; rw [Hask.out]; rintro e w1 ⟨rfl, hb1⟩)
    have hB1 := bl_trans hbx hb1
    have C0 : w1.cell? ⟨w.heap.size, 0, none⟩ = some (.int .i64 m) := keep_cell hb1 (by simp)
    have C1 : w1.cell? ⟨w.heap.size, 1, none⟩ = some (.slice a es.length cap) := keep_cell hb1 (by simp)
    have szw : w.heap.size < w1.heap.size := by have := hb1.size; simp at this; omega
    have hr1 := hr.below hB1
    clear hb1 hbx
    obtain ⟨W1, rfl⟩ : ∃ W1 : World, W1 = w1 := ⟨_, rfl⟩
    go_loopg [8, 9] m (fun r u i wr => ∃ k : Nat, i = .int .i64 k ∧ k + r = m ∧ Own wr u 3 1 k (List.replicate k (.int .i64 (-1))) ∧ (∀ g, u.ownBlock = some g → W1.heap.size ≤ g) ∧ Below W1.heap.size W1 wr)
    case atStart => exact ⟨0, rfl, by omega, own_nil _ _ _, fun g h => by simp [Value.ownBlock] at h, bl_refl _⟩
    case round =>
      obtain ⟨k, rfl, hkr, hown, hlo, hb⟩ := hrel
      have c0 := keep_cell hb C0; have c1 := keep_cell hb C1
      by_cases hlt : k < m
      · have hown2 := hown.alloc (.cells #[.int .i64 (-1)] 3)
        have Hkr := Lib.hid hkr; have Hlo := Lib.hid hlo; clear hkr hlo
        go_wp2_with (at_builtin; refine wpList_append_row _ rfl (.tmp 25) (.tmp 26) 27 rfl 3 (.int .i64 0) 1 8 Try.underlying27 int_info rfl _ _ _ rfl hown2 ⟨wr.heap.size, 0, none⟩ 1 1 [.int .i64 (-1)] rfl rfl (one_new (by simp)) (one_ok _ _) (by omega) (by unfold maxLen; omega) (by omega) ?_; intro g1 cc1 w2 hr1 hc1 hgr1 hor1)
        go_roundg (gk - 1)
        case measure => have := Hkr.out; omega
        case rel =>
          refine ⟨k + 1, by go_num, by have := Hkr.out; omega, ?_, ?_, ?_⟩
          · rw [List.replicate_succ']; exact hr1.own (by simp) hc1
          · intro q hq
            have : g1 = q := Option.some.inj hq
            subst this
            rcases hor1 with h | h
            · exact Hlo.out _ h
            · simp at h; have := hb.size; omega
          · exact (bl_trans hb (bl_alloc _ _)).grown hgr1 (by simp; have := hb.size; omega) (fun q hq => Hlo.out q hq)
      · have hkm : k = m := by omega
        subst hkm
        clear hkr hlt
        rcases hown.2 with ⟨_, h0⟩ | ⟨gu, cu, rfl, _, hru⟩
        · omega
        have hgu : W1.heap.size ≤ gu := hlo gu rfl
        have hus : ((wr.alloc (.cells #[.int .i64 s] 3))).heap.size = wr.heap.size + 1 := by simp
        obtain ⟨w2, rfl⟩ : ∃ w2 : World, w2 = wr := ⟨_, rfl⟩
        clear hown hlo
        have hgl := hru.lt
        obtain ⟨m, hmk⟩ : ∃ m, m = k := ⟨k, rfl⟩
        subst hmk
        have hnewr : Row (w2.alloc (.cells #[.int .i64 s] 3)) w2.heap.size 3 1 1 ([s].map vN) := row_lit w2 [.int .i64 s] 3 (by simp [maxLen])
        have hru' := hru.alloc (.cells #[.int .i64 s] 3)
        have hb2 := bl_trans hb (bl_alloc w2 (.cells #[.int .i64 s] 3))
        have hrepl : List.replicate m (Value.int .i64 (-1)) = (List.replicate m (-1 : Int)).map (Value.int .i64) := by simp
        rw [hrepl] at hru'
        have sz2 := hb.size
        clear hrepl hru
        go_wp2_with fail
        go_loopg [10, 11] ((m - 1) * (m + 1) + 1) (fun r o kk wr => ∃ (order : List Nat) (up : List Int) (K go co : Nat), o = .slice (some ⟨go, 0, none⟩) order.length co ∧ kk = .int .i64 ((K : Int) - 1) ∧ (m - order.length) * (m + 1) + K = r ∧ RInv (besideL m es) m s K order up fin ∧
          Row wr go 3 1 co (order.map vN) ∧ Row wr gu 3 1 cu (up.map (Value.int .i64)) ∧ go ≠ gu ∧ W1.heap.size ≤ go ∧ Below W1.heap.size W1 wr)
        case atStart => exact ⟨[s], List.replicate m (-1), 1, w2.heap.size, 1, rfl, rfl, rfl, Hst.out, hnewr, hru', by omega, by omega, hb2⟩
        case round =>
          obtain ⟨order, up, K, go, co, rfl, rfl, hrk, hinv, hro, hrup, hne, hgo, hbk⟩ := hrel
          obtain ⟨hol, hoL, hul, hKl⟩ := hinv.facts
          have c0k := keep_cell hbk C0; have c1k := keep_cell hbk C1
          rcases Nat.eq_zero_or_pos K with hK | hK
          · subst hK
            have hf := hinv.finish
            have HF := Lib.hid hf; clear hf hinv hrk
            have g1 : decide ((0 : Int) ≤ ((0 : Nat) : Int) - 1) = false := by simp
            have hl1 : order.length = (castL order).length := (castL_len _).symm
            have hl2 : m = up.length := hul.symm
            have hrI := (by rw [vN_cast] at hro; exact hro.rdI2 : RdI wr (some ⟨go, 0, none⟩) (castL order))
            have hrJ := hrup.rdI2
            have HL1 := Lib.hid hl1; have HL2 := Lib.hid hl2
            clear hl1 hl2 hul
            go_wp2_with fail
            go_ret3
            refine ⟨bl_trans hB1 hbk, some ⟨go, 0, none⟩, co, some ⟨gu, 0, none⟩, cu, ?_, ?_, ?_⟩
            · rw [HF.out]
              show _ = Ending.returned (.tuple #[.slice _ (castL order).length _, .slice _ up.length _, _])
              rw [← HL1.out, ← HL2.out]; rfl
            · rw [HF.out]; exact hrI
            · rw [HF.out]; exact hrJ
          · obtain ⟨q, rfl⟩ : ∃ q, K = q + 1 := ⟨K - 1, by omega⟩
            have eq1 : (((q + 1 : Nat) : Int) - 1) = (q : Int) := by omega
            rw [eq1]
            clear eq1
            obtain ⟨v, hv⟩ : ∃ v, order[q]? = some v := ⟨order[q]'(by omega), by simp⟩
            have hvm := hoL v (List.mem_of_getElem? hv)
            have hnx := next_fresh Hr.out hvm (order := order)
            have q0 : wr.cell? ⟨go, q, none⟩ = some (.int .i64 v) := by rw [hro.cell? q (by simp; omega)]; simp [hv, vN]
            have hroI : RdI wr (some ⟨go, 0, none⟩) (castL order) := by rw [vN_cast] at hro; exact hro.rdI2
            have hrg := hr1.below hbk
            have iq : (q : Int) < (order.length : Int) := by omega
            have g1 : decide ((0 : Int) ≤ (q : Int)) = true := by simp
            have Hv := Lib.hid hv; have Hrk := Lib.hid hrk; have Hinv := Lib.hid hinv; have Hul := Lib.hid hul; have HoL := Lib.hid hoL
            clear hv hrk hinv hul hoL
            have hnw := next_walk m a cap es v (some ⟨go, 0, none⟩) co (castL order)
            rw [castL_len] at hnw
            cases hf : fresh (besideL m es) order v with
            | none =>
              rw [hf] at hnx
              have hnx2 : nextI m es v (castL order) = -1 := hnx
              have Hnx := Lib.hid hnx2; clear hnx2
              have Hf := Lib.hid hf; clear hnx hf
              go_wp2_with fail
              go_region_held3 (fun w' => w'.cell? ⟨w.heap.size, 0, none⟩ = some (.int .i64 m) ∧ w'.cell? ⟨w.heap.size, 1, none⟩ = some (.slice a es.length cap) ∧ w'.cell? ⟨go, q, none⟩ = some (.int .i64 v)) (first | (refine ⟨?_, ?_, ?_⟩ <;> (refine keep_cell (by assumption) ?_; assumption; done)) | go_keep)
                (first | (go_at_call 29; refine (hnw _ ?_ ?_ hcap (by omega) (by omega)).mono ?_; exact hrg; exact hroI; rw [Hnx.out]; rintro e w' ⟨rfl, hbw⟩))
              go_wp2_with fail
              have hbw2 := bl_trans (Below.refl wr.heap.size wr).drew hbw
              go_roundg ((m - order.length) * (m + 1) + q)
              case measure => have := Hrk.out; omega
              case rel => exact ⟨order, up, q, go, co, rfl, by go_num, rfl, Hinv.out.skip Hv.out Hf.out, hro.below hbw2 hro.lt, hrup.below hbw2 hrup.lt, hne, hgo, bl_trans hbk hbw2⟩
            | some x =>
              rw [hf] at hnx
              have hnx2 : nextI m es v (castL order) = (x : Int) := hnx
              have hxm : x < m := Hbl.out v hvm x (fresh_some hf).1
              have hpush := Hinv.out.push Hbl.out Hv.out hf
              have hpl := hpush.facts.1
              rw [List.length_append] at hpl
              have hpl2 : order.length + 1 ≤ m := by simpa using hpl
              have Hnx := Lib.hid hnx2; have Hpush := Lib.hid hpush; have Hf := Lib.hid hf; clear hnx hnx2 hf hpush hpl
              have g2 : decide ((0 : Int) ≤ (x : Int)) = true := by simp
              go_wp2_with fail
              go_region_held3 (fun w' => w'.cell? ⟨w.heap.size, 0, none⟩ = some (.int .i64 m) ∧ w'.cell? ⟨w.heap.size, 1, none⟩ = some (.slice a es.length cap) ∧ w'.cell? ⟨go, q, none⟩ = some (.int .i64 v)) (first | (refine ⟨?_, ?_, ?_⟩ <;> (refine keep_cell (by assumption) ?_; assumption; done)) | go_keep)
                (first | (go_at_call 29; refine (hnw _ ?_ ?_ hcap (by omega) (by omega)).mono ?_; exact hrg; exact hroI; rw [Hnx.out]; rintro e w' ⟨rfl, hbw⟩))
              have hbw2 := bl_trans (Below.refl wr.heap.size wr).drew hbw
              have hbk2 := bl_trans hbk hbw2
              have hro2 := hro.below hbw2 hro.lt
              have hrup2 := hrup.below hbw2 hrup.lt
              have r0 : w'.cell? ⟨go, q, none⟩ = some (.int .i64 v) := by rw [hro2.cell? q (by simp; omega)]; simp [Hv.out, vN]
              obtain ⟨y, hy⟩ : ∃ y, up[x]? = some y := ⟨up[x]'(by rw [Hul.out]; exact hxm), by simp⟩
              have r1 : w'.cell? ⟨gu, x, none⟩ = some (.int .i64 y) := by rw [hrup2.cell? x (by simp [Hul.out]; exact hxm)]; simp [hy]
              have r2 : w'.frozen? ⟨gu, x, none⟩ = false := hrup2.frozen x
              have Hy := Lib.hid hy
              clear hbw hbw2 hro hrup hroI hrg q0 c0k c1k hy hbk
              have ix0 : (x : Int) < (m : Int) := by omega
              have hrup3 := hrup2.set x (.int .i64 v)
              rw [← List.map_set] at hrup3
              have hro3 := hro2.other (a := ⟨gu, x, none⟩) (by simpa using hne) (.int .i64 (v : Int))
              have hbk3 : Below W1.heap.size W1 (w'.setCell ⟨gu, x, none⟩ (.int .i64 v)) := hbk2.setCell hgu _
              go_upto_region 16 with (fail)
              generalize w'.setCell ⟨gu, x, none⟩ (.int .i64 v) = wt at hrup3 hro3 hbk3 ⊢
              have hown3 := (hro3.alloc (.cells #[.int .i64 x] 3)).own1
              rw [List.length_map] at hown3
              clear r0 r1 r2 hro2 hrup2 hbk2
              go_wp2_with (at_builtin; refine wpList_append_row _ rfl (.tmp 53) (.tmp 55) 27 rfl 3 (.int .i64 0) 1 8 Try.underlying27 int_info rfl _ _ _ rfl hown3 ⟨wt.heap.size, 0, none⟩ 1 1 [.int .i64 x] rfl rfl (one_new (by simp)) (one_ok _ _) (by omega) (by unfold maxLen; omega) (by omega) ?_; intro gq c1' w5 hr5 hc5 hgr5 hor5)
              have hne5 : gq ≠ gu := by
                rcases hor5 with h | h
                · have h' : some go = some gq := h
                  have := Option.some.inj h'; omega
                · have := hrup3.lt; simp at h; omega
              have hlo5 : W1.heap.size ≤ gq := by
                rcases hor5 with h | h
                · have h' : some go = some gq := h
                  have := Option.some.inj h'; omega
                · have := hbk3.size; simp at h; omega
              have hrup5 := (hrup3.alloc (.cells #[.int .i64 x] 3)).grown hgr5 (by intro e; exact hne (Option.some.inj e))
              have hb5 := (bl_trans hbk3 (bl_alloc _ (.cells #[.int .i64 x] 3))).grown hgr5 (by have := hbk3.size; simp; omega) (fun k hk => by have : go = k := Option.some.inj hk; omega)
              go_roundg ((m - (order.length + 1)) * (m + 1) + (order.length + 1))
              case measure =>
                have h1 := Hrk.out
                obtain ⟨d, hd⟩ : ∃ d, m - order.length = d + 1 := ⟨m - order.length - 1, by omega⟩
                have e2 : m - (order.length + 1) = d := by omega
                rw [hd, Nat.succ_mul] at h1
                rw [e2]
                omega
              case rel =>
                refine ⟨order ++ [x], up.set x (v : Int), order.length + 1, gq, c1', by simp, by go_num, by simp, Hpush.out, ?_, hrup5, hne5, hlo5, hb5⟩
                simpa [vN] using hr5
  · have hw : walkR n es st = ([], []) := by simp [walkR, hask]
    rw [hw]
    have g0 : (askE n es st != 0) = true := by simpa using hask
    obtain ⟨er, her⟩ : ∃ er, er = askE n es st := ⟨_, rfl⟩
    rw [← her] at g0 ⊢
    have Her := Lib.hid her; clear her hask hw
    go_enter Try.func13, Try.ntmps13
    go_wp2_with (go_at_call 28; refine (asked_walk n a cap es st _ (hr.below hbx) hcap).mono ?_; rw [← Her.out]; rintro e w1 ⟨rfl, hb1⟩)
    go_ret3
    exact ⟨bl_trans hbx hb1, none, 0, none, 0, rfl, rdI_nil _ _, rdI_nil _ _⟩
end Go.Proofs.Ytddndhhhmlcgjaa
