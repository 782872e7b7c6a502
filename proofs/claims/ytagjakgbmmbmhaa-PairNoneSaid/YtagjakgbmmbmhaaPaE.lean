/- The document's Parts and First. -/
import Derived.Test.YtagjakgbmmbmhaaPaD
namespace Go.Proofs.Ytagjakgbmmbmhaa
open Go Go.RowKit

def GoodN (total : Nat) (L : List Nat) (i k : Nat) : Prop := 2 ≤ szN L i k ∧ 2 + szN L i k ≤ total
set_option maxRecDepth 100000 in
set_option maxHeartbeats 4000000 in
theorem refParts13_walk (a : Option Addr) (cap : Nat) (ls : List Lk) (p q : Int) (w : World) (hr : RdL w a ls) (hcap : ls.length ≤ 9223372036854775807) :
    Calls Try.prog 32 #[.slice a ls.length cap, .int .i64 p, .int .i64 q] w (RetP w (partsL2 ls p q)) := by
  cases hm : mayB ls p q with
  | false =>
    have hc : classesL ls p q = ([], 130) := by unfold classesL; rw [hm]; rfl
    have hc2 : partsL2 ls p q = (false, 130) := by unfold partsL2; rw [hm]; rfl
    have Hc := Lib.hid hc; have Hc2 := Lib.hid hc2; clear hm hc hc2
    go_enter Try.func32, Try.ntmps32
    go_wp2_with fail
    refine (refClasses_walk a cap ls p q _ hr hcap).mono ?_
    rw [Hc.out]
    rintro e w1 ⟨vo, vals, rfl, hL, hb1⟩
    clear hL
    go_wp2_with fail
    go_ret2
    rw [Hc2.out]
    exact ⟨rfl, hb1⟩
  | true =>
    have h2 : twoL ls = true := by unfold mayB at hm; simp at hm; exact hm.1.1.2
    have hR := two_right h2
    obtain ⟨G, hG⟩ : ∃ G, G = groupsL ls [p, q] := ⟨_, rfl⟩
    have hc : classesL ls p q = (G, 0) := by unfold classesL; rw [hm, hG]; rfl
    have hc2 : partsL2 ls p q = (partsN (lensL G), 0) := by unfold partsL2 pairP; rw [hm, hG]; rfl
    have hGl : G.length ≤ 1000 := by rw [hG]; exact groups_len_le _ _
    have hPR : partsN (lensL G) = true ↔ refN ls.length (lensL G) := by
      have h1 := parts_ref (lensL G) (by rw [hG]; exact lens_pos hR)
      have h3 := lens_sum (wo := [p, q]) hR
      rw [← hG] at h3
      rw [h3] at h1
      exact h1
    have hRl : ∀ (i : Nat) R, G[i]? = some R → R.length ≤ 1000 := fun i R h => by
      rw [hG] at h
      obtain ⟨i0, _, X⟩ := grp_at ((rightL_iff ls).2 hR) h
      have := X.sub.length_le
      have := hR.1
      omega
    have hGll : (lensL G).length = G.length := by simp [lensL]
    have hls : ls.length ≤ 1000 := hR.1
    have Hc := Lib.hid hc; have Hc2 := Lib.hid hc2; have HPR := Lib.hid hPR; have HRl := Lib.hid hRl; clear hm hc hc2 hG hPR hR h2 hRl
    go_enter Try.func32, Try.ntmps32
    go_wp2_with fail
    refine (refClasses_walk a cap ls p q _ hr hcap).mono ?_
    rw [Hc.out]
    rintro e w1 ⟨vo, vals, rfl, hL, hb1⟩
    obtain ⟨ao, co, rfl, hrG, _, _⟩ := hL.read
    clear hL
    go_wp2_with fail
    have HGll := Lib.hid hGll; clear hGll
    go_loopg [10] G.length (fun r iv wj => ∃ i : Nat, i + r = G.length ∧ iv = .int .i64 i ∧ (∀ i' k', i' < i → i' ≤ k' → k' < G.length → ¬ GoodN ls.length (lensL G) i' k') ∧ w1 = wj)
    case atStart => exact ⟨0, by omega, rfl, fun i' k' h => absurd h (by omega), rfl⟩
    case round =>
      obtain ⟨i, hi, rfl, hall, rfl⟩ := hrel
      have Hi := Lib.hid hi; have Hall := Lib.hid hall
      clear hall
      by_cases hil : i < G.length
      · clear hi
        obtain ⟨gO, rfl⟩ : ∃ n : Nat, n = gk := ⟨_, rfl⟩
        obtain ⟨R, hR0⟩ : ∃ R, G[i] = R := ⟨_, rfl⟩
        have hRi : G[i]? = some R := by rw [List.getElem?_eq_getElem hil, hR0]
        obtain ⟨bo, oo, au, cu, rfl, p0, _, _, _⟩ := hrG i R hRi
        have hRb := HRl.out i R hRi
        have HRi := Lib.hid hRi
        clear hRi hR0
        go_wp2_with fail
        go_loopg [11] (G.length - i) (fun r kv wj => ∃ k : Nat, k + r = G.length ∧ i ≤ k ∧ kv = .int .i64 k ∧ (∀ k', i ≤ k' → k' < k → ¬ GoodN ls.length (lensL G) i k') ∧ w1 = wj)
        case atStart => exact ⟨i, by omega, Nat.le_refl _, rfl, fun k' h1 h2 => absurd h2 (by omega), rfl⟩
        case round =>
          obtain ⟨k, hk, hik, rfl, hall2, rfl⟩ := hrel
          have Hk := Lib.hid hk
          by_cases hkl : k < G.length
          · clear hk
            obtain ⟨T, hT0⟩ : ∃ T, G[k] = T := ⟨_, rfl⟩
            have hTk : G[k]? = some T := by rw [List.getElem?_eq_getElem hkl, hT0]
            obtain ⟨bo', oo', au2, cu2, ek, p1, _, _, _⟩ := hrG k T hTk
            cases ek
            have hTb := HRl.out k T hTk
            have hsz0 : szN (lensL G) i k = R.length + if i < k then T.length else 0 := by
              unfold szN
              have h1 := lens_at HRi.out
              have h2 := lens_at hTk
              simp only [List.getD, h1, h2, Option.getD_some]
            have hGll := HGll.out
            clear hTk hT0
            by_cases hlt : i < k
            · have q0 : decide ((i : Int) < (k : Int)) = true := by simp; omega
              have q0' : decide (i < k) = true := by simpa using hlt
              rw [if_pos hlt] at hsz0
              have hsz := hsz0
              have HGll2 := Lib.hid hGll
              clear hsz0 hlt
              have i9 : IntKind.i64.wrap ((R.length : Int) + (T.length : Int)) = (R.length : Int) + (T.length : Int) := IntWalk.i64_in _ (by omega)
              -- the sum is S, in slot 12
              by_cases hg1 : 2 ≤ (R.length + T.length)
              · by_cases hg2 : 2 + (R.length + T.length) ≤ ls.length
                · have q1 : decide ((2 : Int) ≤ ((R.length : Int) + (T.length : Int))) = true := by simp; omega
                  have q1' : decide (2 ≤ (R.length + T.length)) = true := by simpa using hg1
                  have q2 : decide ((2 : Int) ≤ (ls.length : Int) - ((R.length : Int) + (T.length : Int))) = true := by simp; omega
                  have hfin : partsN (lensL G) = true := (HPR.out).2 ⟨i, k, hik, by rw [hGll]; exact hkl, by rw [hsz]; exact hg1, by rw [hsz]; exact hg2⟩
                  have i8 : IntKind.i64.wrap ((ls.length : Int) - ((R.length : Int) + (T.length : Int))) = (ls.length : Int) - ((R.length : Int) + (T.length : Int)) := IntWalk.i64_in _ (by omega)
                  have Hfin := Lib.hid hfin; clear hfin hg1 hg2 hall2 hsz
                  go_wp2_with fail
                  go_ret2
                  rw [Hc2.out, Hfin.out]
                  exact ⟨rfl, hb1⟩
                · have q1 : decide ((2 : Int) ≤ ((R.length : Int) + (T.length : Int))) = true := by simp; omega
                  have q1' : decide (2 ≤ (R.length + T.length)) = true := by simpa using hg1
                  have q2 : decide ((2 : Int) ≤ (ls.length : Int) - ((R.length : Int) + (T.length : Int))) = false := by simp; omega
                  have i8 : IntKind.i64.wrap ((ls.length : Int) - ((R.length : Int) + (T.length : Int))) = (ls.length : Int) - ((R.length : Int) + (T.length : Int)) := IntWalk.i64_in _ (by omega)
                  have hno : ¬ GoodN ls.length (lensL G) i k := fun h => by unfold GoodN at h; rw [hsz] at h; omega
                  have hnx : ∀ k', i ≤ k' → k' < k + 1 → ¬ GoodN ls.length (lensL G) i k' := fun k' h1 h2 => by
                    by_cases e : k' < k
                    · exact hall2 k' h1 e
                    · obtain rfl : k' = k := by omega
                      exact hno
                  have Hnx := Lib.hid hnx
                  clear hnx hno hall2 hsz
                  go_wp2_with fail
                  go_roundg (gk - 1)
                  case measure => have := Hk.out; omega
                  case rel => exact ⟨k + 1, by have := Hk.out; omega, by omega, by go_num, Hnx.out, rfl⟩
              · have q1 : decide ((2 : Int) ≤ ((R.length : Int) + (T.length : Int))) = false := by simp; omega
                have q1' : decide (2 ≤ (R.length + T.length)) = false := by simpa using hg1
                have hno : ¬ GoodN ls.length (lensL G) i k := fun h => by unfold GoodN at h; rw [hsz] at h; omega
                have hnx : ∀ k', i ≤ k' → k' < k + 1 → ¬ GoodN ls.length (lensL G) i k' := fun k' h1 h2 => by
                  by_cases e : k' < k
                  · exact hall2 k' h1 e
                  · obtain rfl : k' = k := by omega
                    exact hno
                have Hnx := Lib.hid hnx
                clear hnx hno hall2 hsz
                go_wp2_with fail
                go_roundg (gk - 1)
                case measure => have := Hk.out; omega
                case rel => exact ⟨k + 1, by have := Hk.out; omega, by omega, by go_num, Hnx.out, rfl⟩
            · have q0 : decide ((i : Int) < (k : Int)) = false := by simp; omega
              have q0' : decide (i < k) = false := by simpa using hlt
              rw [if_neg hlt, Nat.add_zero] at hsz0
              have hsz := hsz0
              clear hsz0 hlt
              -- the sum is S, in slot 12
              by_cases hg1 : 2 ≤ R.length
              · by_cases hg2 : 2 + R.length ≤ ls.length
                · have q1 : decide ((2 : Int) ≤ ((R.length : Int))) = true := by simp; omega
                  have q1' : decide (2 ≤ R.length) = true := by simpa using hg1
                  have q2 : decide ((2 : Int) ≤ (ls.length : Int) - ((R.length : Int))) = true := by simp; omega
                  have hfin : partsN (lensL G) = true := (HPR.out).2 ⟨i, k, hik, by rw [hGll]; exact hkl, by rw [hsz]; exact hg1, by rw [hsz]; exact hg2⟩
                  have i8 : IntKind.i64.wrap ((ls.length : Int) - ((R.length : Int))) = (ls.length : Int) - ((R.length : Int)) := IntWalk.i64_in _ (by omega)
                  have Hfin := Lib.hid hfin; clear hfin hg1 hg2 hall2 hsz
                  go_wp2_with fail
                  go_ret2
                  rw [Hc2.out, Hfin.out]
                  exact ⟨rfl, hb1⟩
                · have q1 : decide ((2 : Int) ≤ ((R.length : Int))) = true := by simp; omega
                  have q1' : decide (2 ≤ R.length) = true := by simpa using hg1
                  have q2 : decide ((2 : Int) ≤ (ls.length : Int) - ((R.length : Int))) = false := by simp; omega
                  have i8 : IntKind.i64.wrap ((ls.length : Int) - ((R.length : Int))) = (ls.length : Int) - ((R.length : Int)) := IntWalk.i64_in _ (by omega)
                  have hno : ¬ GoodN ls.length (lensL G) i k := fun h => by unfold GoodN at h; rw [hsz] at h; omega
                  have hnx : ∀ k', i ≤ k' → k' < k + 1 → ¬ GoodN ls.length (lensL G) i k' := fun k' h1 h2 => by
                    by_cases e : k' < k
                    · exact hall2 k' h1 e
                    · obtain rfl : k' = k := by omega
                      exact hno
                  have Hnx := Lib.hid hnx
                  clear hnx hno hall2 hsz
                  go_wp2_with fail
                  go_roundg (gk - 1)
                  case measure => have := Hk.out; omega
                  case rel => exact ⟨k + 1, by have := Hk.out; omega, by omega, by go_num, Hnx.out, rfl⟩
              · have q1 : decide ((2 : Int) ≤ ((R.length : Int))) = false := by simp; omega
                have q1' : decide (2 ≤ R.length) = false := by simpa using hg1
                have hno : ¬ GoodN ls.length (lensL G) i k := fun h => by unfold GoodN at h; rw [hsz] at h; omega
                have hnx : ∀ k', i ≤ k' → k' < k + 1 → ¬ GoodN ls.length (lensL G) i k' := fun k' h1 h2 => by
                  by_cases e : k' < k
                  · exact hall2 k' h1 e
                  · obtain rfl : k' = k := by omega
                    exact hno
                have Hnx := Lib.hid hnx
                clear hnx hno hall2 hsz
                go_wp2_with fail
                go_roundg (gk - 1)
                case measure => have := Hk.out; omega
                case rel => exact ⟨k + 1, by have := Hk.out; omega, by omega, by go_num, Hnx.out, rfl⟩
          · have hkn : k = G.length := by omega
            subst hkn
            have hnx : ∀ i' k', i' < i + 1 → i' ≤ k' → k' < G.length → ¬ GoodN ls.length (lensL G) i' k' := fun i' k' h1 h2 h3 => by
              by_cases e : i' < i
              · exact Hall.out i' k' e h2 h3
              · obtain rfl : i' = i := by omega
                exact hall2 k' h2 h3
            have Hnx := Lib.hid hnx
            clear hnx hall2 hk
            go_wp2_with fail
            go_roundg (gO - 1)
            case measure => have := Hi.out; omega
            case rel => exact ⟨i + 1, by have := Hi.out; omega, by go_num, Hnx.out, rfl⟩
      · have hin : i = G.length := by omega
        subst hin
        have hfin : partsN (lensL G) = false := by
          cases h : partsN (lensL G) with
          | false => rfl
          | true =>
            obtain ⟨i', k', h1, h2, h3, h4⟩ := HPR.out.1 h
            rw [HGll.out] at h2
            exact absurd ⟨h3, h4⟩ (Hall.out i' k' (by omega) h1 h2)
        have Hfin := Lib.hid hfin
        clear hi hfin
        go_wp2_with fail
        go_ret2
        rw [Hc2.out, Hfin.out]
        exact ⟨rfl, hb1⟩
/-- What 'First' hands back. -/
def RetF (w : World) (r : Int × Int × Bool × Int) (e : Ending) (w' : World) : Prop :=
  e = .returned (.tuple #[.int .i64 r.1, .int .i64 r.2.1, .bool r.2.2.1, .int .i64 r.2.2.2]) ∧ Below w.heap.size w w'

set_option maxRecDepth 100000 in
set_option maxHeartbeats 4000000 in
theorem refFirst_walk (a : Option Addr) (cap : Nat) (ls : List Lk) (w : World) (hr : RdL w a ls) (hcap : ls.length ≤ 9223372036854775807) :
    Calls Try.prog 34 #[.slice a ls.length cap] w (RetF w (firstL ls)) := by
  cases h2 : twoL ls with
  | false =>
    have hc := first_no h2
    have H2 := Lib.hid h2; have Hc := Lib.hid hc; clear h2 hc
    go_enter Try.func34, Try.ntmps34
    go_wp2_with fail
    refine (refTwo12_walk a cap ls _ hr hcap).mono ?_
    rw [H2.out]
    rintro e w1 ⟨rfl, hb1⟩
    go_wp2_with fail
    rw [Hc.out]
    exact bodyPost_ret (v := .tuple #[.int .i64 0, .int .i64 0, .bool false, .int .i64 130]) (by simp [results, Try.results34, go_sem]) rfl ⟨rfl, hb1⟩
  | true =>
    have hn := (two_right h2).1
    obtain ⟨vs, hvs⟩ : ∃ vs, vs = vertsL ls := ⟨_, rfl⟩
    have hvl : vs.length ≤ 2000 := by rw [hvs]; have := vertsL_length ls; omega
    have hpr : ∀ i k, i ≠ k → ∀ x y, vs[i]? = some x → vs[k]? = some y → partsL2 ls x y = (pairAt ls i k, 0) := fun i k hik x y hi hk => by
      rw [hvs] at hi hk
      obtain ⟨hil, hix⟩ := List.getElem?_eq_some_iff.1 hi
      obtain ⟨hkl, hky⟩ := List.getElem?_eq_some_iff.1 hk
      have := mayB_at h2 hik hil hkl
      unfold partsL2 pairAt
      rw [getD_at hil, getD_at hkl, hix, hky] at this
      rw [getD_at hil, getD_at hkl, hix, hky, this]; rfl
    have Hvs := Lib.hid hvs; have H2 := Lib.hid h2; have Hpr := Lib.hid hpr; clear hvs h2 hpr
    go_enter Try.func34, Try.ntmps34
    go_wp2_with fail
    refine (refTwo12_walk a cap ls _ hr hcap).mono ?_
    rw [H2.out]
    rintro e w1 ⟨rfl, hb1⟩
    go_wp2_with fail
    refine (refVerts12_walk a cap ls _ (hr.below hb1) (by omega)).mono ?_
    rw [← Hvs.out]
    rintro e w2 ⟨av, cv, rfl, hrv, _, hvc, hvm, hb2⟩
    have hB2 := bl_trans hb1 hb2
    have hr2 := hr.below hB2
    clear hb1 hb2 hr
    go_wp2_with fail
    go_loopg [7] vs.length (fun r iv wj => ∃ i : Nat, i + r = vs.length ∧ iv = .int .i64 i ∧ (∀ i' k', i' < i → i' < k' → k' < vs.length → pairAt ls i' k' = false) ∧ Below w2.heap.size w2 wj)
    case atStart => exact ⟨0, by omega, rfl, fun i' k' h => absurd h (by omega), bl_refl _⟩
    case round =>
      obtain ⟨i, hi, rfl, hall, hbi⟩ := hrel
      have Hi := Lib.hid hi; have Hall := Lib.hid hall
      clear hall
      by_cases hil : i < vs.length
      · clear hi
        obtain ⟨gO, rfl⟩ : ∃ n : Nat, n = gk := ⟨_, rfl⟩
        obtain ⟨x, hx⟩ : ∃ x, vs[i] = x := ⟨_, rfl⟩
        have hxi : vs[i]? = some x := by rw [List.getElem?_eq_getElem hil, hx]
        have Hxi := Lib.hid hxi
        clear hxi
        go_wp2_with fail
        go_loopg [8] (vs.length - (i + 1)) (fun r kv wj => ∃ k : Nat, k + r = vs.length ∧ i < k ∧ kv = .int .i64 k ∧ (∀ k', i < k' → k' < k → pairAt ls i k' = false) ∧ Below w2.heap.size w2 wj)
        case atStart => exact ⟨i + 1, by omega, by omega, by go_num, fun k' h1 h2 => absurd h2 (by omega), hbi⟩
        case round =>
          clear hbi
          obtain ⟨k, hk, hik, rfl, hall2, hbk⟩ := hrel
          have Hk := Lib.hid hk; have Hall2 := Lib.hid hall2
          clear hall2
          by_cases hkl : k < vs.length
          · clear hk
            obtain ⟨b, o, rfl, c0⟩ := (hrv.below hbk).at i hil
            obtain ⟨b', o', e', c1⟩ := (hrv.below hbk).at k hkl
            cases e'
            obtain ⟨y, hy⟩ : ∃ y, vs[k] = y := ⟨_, rfl⟩
            rw [hx] at c0
            rw [hy] at c1
            have hprk := Hpr.out i k (by omega) x y Hxi.out (by rw [List.getElem?_eq_getElem hkl, hy])
            obtain ⟨t, ht⟩ : ∃ t, t = pairAt ls i k := ⟨_, rfl⟩
            rw [← ht] at hprk
            have hyk : vs[k]? = some y := by rw [List.getElem?_eq_getElem hkl, hy]
            have Hprk := Lib.hid hprk; have Ht := Lib.hid ht; have Hyk := Lib.hid hyk
            have hrk := hr2.below hbk
            clear hprk ht hy hyk
            go_wp2_with fail
            refine regionT (fun w' => w'.cell? ⟨b, o + i, none⟩ = some (.int .i64 x) ∧ w'.cell? ⟨b, o + k, none⟩ = some (.int .i64 y)) 9 (by kernel_rfl) ?_
            have hS : wr.drew.cell? ⟨b, o + i, none⟩ = some (.int .i64 x) ∧ wr.drew.cell? ⟨b, o + k, none⟩ = some (.int .i64 y) := ⟨c0, c1⟩
            refine takeT (i := 0) (v := ?_) rfl (by kernel_rfl) (fun _ _ _ h => h) (Or.inl ⟨rfl, ?_⟩) hS ?_
            rotate_left
            · (intro wS hSw; (try dsimp only at hSw); go_simp; try (with_reducible rfl))
            simp only [Act.put, List.setIfInBounds_toArray, List.set_cons_zero, List.set_cons_succ]
            refine takeT (i := 1) (v := ?_) rfl (by kernel_rfl) (fun _ _ _ h => h) (Or.inl ⟨rfl, ?_⟩) hS ?_
            rotate_left
            · (intro wS hSw; (try dsimp only at hSw); go_simp; try (with_reducible rfl))
            simp only [Act.put, List.setIfInBounds_toArray, List.set_cons_zero, List.set_cons_succ]
            refine takeT (i := 2) (v := ?_) rfl (by kernel_rfl) (fun _ _ _ h => h) (Or.inl ⟨rfl, ?_⟩) hS ?_
            rotate_left
            · (intro wS hSw; (try dsimp only at hSw); go_simp; try (with_reducible rfl))
            simp only [Act.put, List.setIfInBounds_toArray, List.set_cons_zero, List.set_cons_succ]
            refine takeT (i := 3) (v := ?_) rfl (by kernel_rfl) (fun _ _ _ h => h) (Or.inl ⟨rfl, ?_⟩) hS ?_
            rotate_left
            · (intro wS hSw; (try dsimp only at hSw); go_simp; try (with_reducible rfl))
            simp only [Act.put, List.setIfInBounds_toArray, List.set_cons_zero, List.set_cons_succ]
            refine takeT (i := 4) (v := ?_) rfl (by kernel_rfl) (fun _ _ _ h => h) (Or.inl ⟨rfl, ?_⟩) hS ?_
            rotate_left
            · (intro wS hSw; (try dsimp only at hSw); go_simp; try (with_reducible rfl))
            simp only [Act.put, List.setIfInBounds_toArray, List.set_cons_zero, List.set_cons_succ]
            refine takeT (i := 5) (v := ?_) rfl (by kernel_rfl) (fun _ _ _ h => h) (Or.inl ⟨rfl, ?_⟩) hS ?_
            rotate_left
            · (intro wS hSw; (try dsimp only at hSw); go_simp; try (with_reducible rfl))
            simp only [Act.put, List.setIfInBounds_toArray, List.set_cons_zero, List.set_cons_succ]
            refine takeT (i := 6) (v := ?_) rfl (by kernel_rfl) (fun _ _ _ h => h) (Or.inl ⟨rfl, ?_⟩) hS ?_
            rotate_left
            · (intro wS hSw; (try dsimp only at hSw); go_simp; try (with_reducible rfl))
            simp only [Act.put, List.setIfInBounds_toArray, List.set_cons_zero, List.set_cons_succ]
            refine takeT (i := 7) (v := ?_) rfl (by kernel_rfl) (fun _ _ _ h => h) (Or.inl ⟨rfl, ?_⟩) hS ?_
            rotate_left
            · (intro wS hSw; (try dsimp only at hSw); go_simp; try (with_reducible rfl))
            simp only [Act.put, List.setIfInBounds_toArray, List.set_cons_zero, List.set_cons_succ]
            refine takeT (i := 8) (v := ?_) rfl (by kernel_rfl) (fun _ _ _ h => h) (Or.inl ⟨rfl, ?_⟩) hS ?_
            rotate_left
            · (intro wS hSw; (try dsimp only at hSw); go_simp; try (with_reducible rfl))
            simp only [Act.put, List.setIfInBounds_toArray, List.set_cons_zero, List.set_cons_succ]
            refine oneT (i := 9) rfl (by kernel_rfl) (fun K hK => ?_)
            go_simp
            go_at_call 32
            refine (refParts13_walk a cap ls x y _ ?_ hcap).mono ?_
            exact hrk
            rw [Hprk.out]
            rintro e w3 ⟨rfl, hb3⟩
            go_simp
            refine hK _ _ (fun h => absurd h (by omega)) ?_
            clear hK K hS
            have hbk3 : Below w2.heap.size w2 w3 := bl_trans hbk (bl_trans ((bl_refl wr).drew) hb3)
            refine restartT (fun _ => True) 15 (by kernel_rfl) ?_
            have hS : True := trivial
            refine takeT (i := 10) (v := ?_) rfl (by kernel_rfl) (fun _ _ _ h => h) (Or.inl ⟨rfl, ?_⟩) hS ?_
            rotate_left
            · (intro wS hSw; (try dsimp only at hSw); go_simp; try (with_reducible rfl))
            simp only [Act.put, List.setIfInBounds_toArray, List.set_cons_zero, List.set_cons_succ]
            refine takeT (i := 11) (v := ?_) rfl (by kernel_rfl) (fun _ _ _ h => h) (Or.inl ⟨rfl, ?_⟩) hS ?_
            rotate_left
            · (intro wS hSw; (try dsimp only at hSw); go_simp; try (with_reducible rfl))
            simp only [Act.put, List.setIfInBounds_toArray, List.set_cons_zero, List.set_cons_succ]
            refine takeT (i := 12) (v := ?_) rfl (by kernel_rfl) (fun _ _ _ h => h) (Or.inl ⟨rfl, ?_⟩) hS ?_
            rotate_left
            · (intro wS hSw; (try dsimp only at hSw); go_simp; try (with_reducible rfl))
            simp only [Act.put, List.setIfInBounds_toArray, List.set_cons_zero, List.set_cons_succ]
            refine takeT (i := 13) (v := ?_) rfl (by kernel_rfl) (fun _ _ _ h => h) (Or.inl ⟨rfl, ?_⟩) hS ?_
            rotate_left
            · (intro wS hSw; (try dsimp only at hSw); go_simp; try (with_reducible rfl))
            simp only [Act.put, List.setIfInBounds_toArray, List.set_cons_zero, List.set_cons_succ]
            refine takeT (i := 14) (v := ?_) rfl (by kernel_rfl) (fun _ _ _ h => h) (Or.inl ⟨rfl, ?_⟩) hS ?_
            rotate_left
            · (intro wS hSw; (try dsimp only at hSw); go_simp; try (with_reducible rfl))
            simp only [Act.put, List.setIfInBounds_toArray, List.set_cons_zero, List.set_cons_succ]
            refine doneT (by kernel_rfl) ?_ _
            have c2 := (hrv.below hbk3).at i hil
            have c3 := (hrv.below hbk3).at k hkl
            obtain ⟨b2, o2, e2, c2⟩ := c2
            cases e2
            obtain ⟨b3, o3, e3, c3⟩ := c3
            cases e3
            rw [hx] at c2
            have hyv : vs[k] = y := by have := Hyk.out; rw [List.getElem?_eq_getElem hkl] at this; exact Option.some.inj this
            rw [hyv] at c3
            clear hyv
            cases t with
            | false =>
              have hnx : ∀ k', i < k' → k' < k + 1 → pairAt ls i k' = false := fun k' h1 h2 => by
                by_cases e : k' < k
                · exact Hall2.out k' h1 e
                · obtain rfl : k' = k := by omega
                  exact Ht.out.symm
              have Hnx := Lib.hid hnx; clear hnx
              go_wp2_with fail
              go_roundg (gk - 1)
              case measure => have := Hk.out; omega
              case rel => exact ⟨k + 1, by have := Hk.out; omega, by omega, by go_num, Hnx.out, hbk3⟩
            | true =>
              have hfin : firstL ls = (x, y, true, 0) := by
                have h1 := first_at H2.out (i := i) (k := k) ⟨hik, by rw [← Hvs.out]; exact hkl, Ht.out.symm, Hall2.out, by rw [← Hvs.out]; exact Hall.out⟩
                rw [h1, ← Hvs.out]
                have e1 : vs.getD i 0 = x := by rw [getD_at hil, hx]
                have e2 : vs.getD k 0 = y := by
                  have := Hyk.out
                  rw [List.getElem?_eq_getElem hkl] at this
                  rw [getD_at hkl, Option.some.inj this]
                rw [e1, e2]
              have Hfin := Lib.hid hfin; clear hfin hx
              go_wp2_with fail
              go_quiet (fail)
              go_wp2_with fail
              rw [Hfin.out]
              exact bodyPost_ret (v := .tuple #[.int .i64 x, .int .i64 y, .bool true, .int .i64 0]) (by simp [results, Try.results34, go_sem]) rfl ⟨rfl, below_drewN (bl_trans hB2 hbk3) _⟩
          · have hkn : k = vs.length := by omega
            subst hkn
            have hnx : ∀ i' k', i' < i + 1 → i' < k' → k' < vs.length → pairAt ls i' k' = false := fun i' k' h1 h2 h3 => by
              by_cases e : i' < i
              · exact Hall.out i' k' e h2 h3
              · obtain rfl : i' = i := by omega
                exact Hall2.out k' h2 h3
            have Hnx := Lib.hid hnx; clear hnx hk
            go_wp2_with fail
            go_roundg (gO - 1)
            case measure => have := Hi.out; omega
            case rel => exact ⟨i + 1, by have := Hi.out; omega, by go_num, Hnx.out, hbk⟩
      · have hin : i = vs.length := by omega
        subst hin
        have hfin : firstL ls = (0, 0, false, 0) := first_none H2.out fun i' k' h1 h3 => by
          rw [← Hvs.out] at h3
          exact Hall.out i' k' (by omega) h1 h3
        have Hfin := Lib.hid hfin; clear hfin hi
        go_wp2_with fail
        rw [Hfin.out]
        exact bodyPost_ret (v := .tuple #[.int .i64 0, .int .i64 0, .bool false, .int .i64 0]) (by simp [results, Try.results34, go_sem]) rfl ⟨rfl, bl_trans hB2 hbi⟩
end Go.Proofs.Ytagjakgbmmbmhaa
