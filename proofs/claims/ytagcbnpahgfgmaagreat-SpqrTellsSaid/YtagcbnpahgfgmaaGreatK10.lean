/- Facts that the claim rests on, part 11. -/
import Derived.Test.YtagcbnpahgfgmaaGreatK09
namespace Go.Proofs.YtagcbnpahgfgmaaGreat
open Go Go.RowKit
def GoodN (total : Nat) (L : List Nat) (i k : Nat) : Prop := 2 ≤ szN L i k ∧ 2 + szN L i k ≤ total
set_option maxRecDepth 100000 in
set_option maxHeartbeats 4000000 in
theorem refParts13_walk (a : Option Addr) (cap : Nat) (ls : List Lk) (p q : Int) (w : World) (hr : RdL w a ls) (hcap : ls.length ≤ 9223372036854775807) :
  Calls Tryz.prog 90 #[.slice a ls.length cap, .int .i64 p, .int .i64 q] w (RetP w (partsL2 ls p q)) := by
 cases hm : mayB ls p q with
 | false =>
  have hc : classesL ls p q = ([], 130) := by unfold classesL; rw [hm]; rfl
  have hc2 : partsL2 ls p q = (false, 130) := by unfold partsL2; rw [hm]; rfl
  have Hc := Lib.hid hc; have Hc2 := Lib.hid hc2; clear hm hc hc2
  go_enter Tryz.func90, Tryz.ntmps90
  go_wp2_with fail
  refine (refClasses_walk a cap ls p q _ hr hcap).mono ?_
  rw [Hc.out]
  rintro e w1 ⟨vo, vals, rfl, hL, hb1⟩
  clear hL
  go_wp2_with fail
  go_ret2
  rw [Hc2.out]
  exact ⟨rfl, hb1⟩
 | true =>
  have h2 : twoL ls = true := by unfold mayB at hm; simp at hm; exact hm.1.1.2
  have hR := two_right h2
  obtain ⟨G, hG⟩ : ∃ G, G = groupsL ls [p, q] := ⟨_, rfl⟩
  have hc : classesL ls p q = (G, 0) := by unfold classesL; rw [hm, hG]; rfl
  have hc2 : partsL2 ls p q = (partsN (lensL G), 0) := by unfold partsL2 pairP; rw [hm, hG]; rfl
  have hGl : G.length ≤ 1000 := by rw [hG]; exact groups_len_le _ _
  have hPR : partsN (lensL G) = true ↔ refN ls.length (lensL G) := by
   have h1 := parts_ref (lensL G) (by rw [hG]; exact lens_pos hR); have h3 := lens_sum (wo := [p, q]) hR; rw [← hG] at h3; rw [h3] at h1; exact h1
  have hRl : ∀ (i : Nat) R, G[i]? = some R → R.length ≤ 1000 := fun i R h => by
   rw [hG] at h; obtain ⟨i0, _, X⟩ := grp_at ((rightL_iff ls).2 hR) h; have := X.sub.length_le; have := hR.1; omega
  have hGll : (lensL G).length = G.length := by simp [lensL]
  have hls : ls.length ≤ 1000 := hR.1
  have Hc := Lib.hid hc; have Hc2 := Lib.hid hc2; have HPR := Lib.hid hPR; have HRl := Lib.hid hRl; clear hm hc hc2 hG hPR hR h2 hRl
  go_enter Tryz.func90, Tryz.ntmps90
  go_wp2_with fail
  refine (refClasses_walk a cap ls p q _ hr hcap).mono ?_
  rw [Hc.out]
  rintro e w1 ⟨vo, vals, rfl, hL, hb1⟩
  obtain ⟨ao, co, rfl, hrG, _, _⟩ := hL.read
  clear hL
  go_wp2_with fail
  have HGll := Lib.hid hGll; clear hGll
  go_loopg [10] G.length (fun r iv wj => ∃ i : Nat, i + r = G.length ∧ iv = .int .i64 i ∧ (∀ i' k', i' < i → i' ≤ k' → k' < G.length → ¬ GoodN ls.length (lensL G) i' k') ∧ w1 = wj)
  case atStart => exact ⟨0, by omega, rfl, fun i' k' h => absurd h (by omega), rfl⟩
  case round =>
   obtain ⟨i, hi, rfl, hall, rfl⟩ := hrel; have Hi := Lib.hid hi; have Hall := Lib.hid hall; clear hall; by_cases hil : i < G.length
   ·
    clear hi; obtain ⟨gO, rfl⟩ : ∃ n : Nat, n = gk := ⟨_, rfl⟩
    obtain ⟨R, hR0⟩ : ∃ R, G[i] = R := ⟨_, rfl⟩
    have hRi : G[i]? = some R := by rw [List.getElem?_eq_getElem hil, hR0]
    obtain ⟨bo, oo, au, cu, rfl, p0, _, _, _⟩ := hrG i R hRi; have hRb := HRl.out i R hRi; have HRi := Lib.hid hRi; clear hRi hR0; go_wp2_with fail; go_loopg [11] (G.length - i) (fun r kv wj => ∃ k : Nat, k + r = G.length ∧ i ≤ k ∧ kv = .int .i64 k ∧ (∀ k', i ≤ k' → k' < k → ¬ GoodN ls.length (lensL G) i k') ∧ w1 = wj)
    case atStart => exact ⟨i, by omega, Nat.le_refl _, rfl, fun k' h1 h2 => absurd h2 (by omega), rfl⟩
    case round =>
     obtain ⟨k, hk, hik, rfl, hall2, rfl⟩ := hrel; have Hk := Lib.hid hk; by_cases hkl : k < G.length
     ·
      clear hk; obtain ⟨T, hT0⟩ : ∃ T, G[k] = T := ⟨_, rfl⟩
      have hTk : G[k]? = some T := by rw [List.getElem?_eq_getElem hkl, hT0]
      obtain ⟨bo', oo', au2, cu2, ek, p1, _, _, _⟩ := hrG k T hTk; cases ek; have hTb := HRl.out k T hTk; have hsz0 : szN (lensL G) i k = R.length + if i < k then T.length else 0 := by
       unfold szN; have h1 := lens_at HRi.out; have h2 := lens_at hTk; simp only [List.getD, h1, h2, Option.getD_some]
      have hGll := HGll.out; clear hTk hT0; by_cases hlt : i < k
      ·
       have q0 : decide ((i : Int) < (k : Int)) = true := by simp; omega
       have q0' : decide (i < k) = true := by simpa using hlt
       rw [if_pos hlt] at hsz0; have hsz := hsz0; have HGll2 := Lib.hid hGll; clear hsz0 hlt; have i9 : IntKind.i64.wrap ((R.length : Int) + (T.length : Int)) = (R.length : Int) + (T.length : Int) := IntWalk.i64_in _ (by omega); by_cases hg1 : 2 ≤ (R.length + T.length)
       ·
        by_cases hg2 : 2 + (R.length + T.length) ≤ ls.length
        ·
         have q1 : decide ((2 : Int) ≤ ((R.length : Int) + (T.length : Int))) = true := by simp; omega
         have q1' : decide (2 ≤ (R.length + T.length)) = true := by simpa using hg1
         have q2 : decide ((2 : Int) ≤ (ls.length : Int) - ((R.length : Int) + (T.length : Int))) = true := by simp; omega
         have hfin : partsN (lensL G) = true := (HPR.out).2 ⟨i, k, hik, by rw [hGll]; exact hkl, by rw [hsz]; exact hg1, by rw [hsz]; exact hg2⟩; have i8 : IntKind.i64.wrap ((ls.length : Int) - ((R.length : Int) + (T.length : Int))) = (ls.length : Int) - ((R.length : Int) + (T.length : Int)) := IntWalk.i64_in _ (by omega); have Hfin := Lib.hid hfin; clear hfin hg1 hg2 hall2 hsz; go_wp2_with fail; go_ret2; rw [Hc2.out, Hfin.out]; exact ⟨rfl, hb1⟩
        ·
         have q1 : decide ((2 : Int) ≤ ((R.length : Int) + (T.length : Int))) = true := by simp; omega
         have q1' : decide (2 ≤ (R.length + T.length)) = true := by simpa using hg1
         have q2 : decide ((2 : Int) ≤ (ls.length : Int) - ((R.length : Int) + (T.length : Int))) = false := by simp; omega
         have i8 : IntKind.i64.wrap ((ls.length : Int) - ((R.length : Int) + (T.length : Int))) = (ls.length : Int) - ((R.length : Int) + (T.length : Int)) := IntWalk.i64_in _ (by omega); have hno : ¬ GoodN ls.length (lensL G) i k := fun h => by unfold GoodN at h; rw [hsz] at h; omega
         have hnx : ∀ k', i ≤ k' → k' < k + 1 → ¬ GoodN ls.length (lensL G) i k' := fun k' h1 h2 => by
          by_cases e : k' < k
          · exact hall2 k' h1 e
          ·
           obtain rfl : k' = k := by omega
           exact hno
         have Hnx := Lib.hid hnx; clear hnx hno hall2 hsz; go_wp2_with fail; go_roundg (gk - 1)
         case measure => have := Hk.out; omega
         case rel => exact ⟨k + 1, by have := Hk.out; omega, by omega, by go_num, Hnx.out, rfl⟩
       ·
        have q1 : decide ((2 : Int) ≤ ((R.length : Int) + (T.length : Int))) = false := by simp; omega
        have q1' : decide (2 ≤ (R.length + T.length)) = false := by simpa using hg1
        have hno : ¬ GoodN ls.length (lensL G) i k := fun h => by unfold GoodN at h; rw [hsz] at h; omega
        have hnx : ∀ k', i ≤ k' → k' < k + 1 → ¬ GoodN ls.length (lensL G) i k' := fun k' h1 h2 => by
         by_cases e : k' < k
         · exact hall2 k' h1 e
         ·
          obtain rfl : k' = k := by omega
          exact hno
        have Hnx := Lib.hid hnx; clear hnx hno hall2 hsz; go_wp2_with fail; go_roundg (gk - 1)
        case measure => have := Hk.out; omega
        case rel => exact ⟨k + 1, by have := Hk.out; omega, by omega, by go_num, Hnx.out, rfl⟩
      ·
       have q0 : decide ((i : Int) < (k : Int)) = false := by simp; omega
       have q0' : decide (i < k) = false := by simpa using hlt
       rw [if_neg hlt, Nat.add_zero] at hsz0; have hsz := hsz0; clear hsz0 hlt; by_cases hg1 : 2 ≤ R.length
       ·
        by_cases hg2 : 2 + R.length ≤ ls.length
        ·
         have q1 : decide ((2 : Int) ≤ ((R.length : Int))) = true := by simp; omega
         have q1' : decide (2 ≤ R.length) = true := by simpa using hg1
         have q2 : decide ((2 : Int) ≤ (ls.length : Int) - ((R.length : Int))) = true := by simp; omega
         have hfin : partsN (lensL G) = true := (HPR.out).2 ⟨i, k, hik, by rw [hGll]; exact hkl, by rw [hsz]; exact hg1, by rw [hsz]; exact hg2⟩; have i8 : IntKind.i64.wrap ((ls.length : Int) - ((R.length : Int))) = (ls.length : Int) - ((R.length : Int)) := IntWalk.i64_in _ (by omega); have Hfin := Lib.hid hfin; clear hfin hg1 hg2 hall2 hsz; go_wp2_with fail; go_ret2; rw [Hc2.out, Hfin.out]; exact ⟨rfl, hb1⟩
        ·
         have q1 : decide ((2 : Int) ≤ ((R.length : Int))) = true := by simp; omega
         have q1' : decide (2 ≤ R.length) = true := by simpa using hg1
         have q2 : decide ((2 : Int) ≤ (ls.length : Int) - ((R.length : Int))) = false := by simp; omega
         have i8 : IntKind.i64.wrap ((ls.length : Int) - ((R.length : Int))) = (ls.length : Int) - ((R.length : Int)) := IntWalk.i64_in _ (by omega); have hno : ¬ GoodN ls.length (lensL G) i k := fun h => by unfold GoodN at h; rw [hsz] at h; omega
         have hnx : ∀ k', i ≤ k' → k' < k + 1 → ¬ GoodN ls.length (lensL G) i k' := fun k' h1 h2 => by
          by_cases e : k' < k
          · exact hall2 k' h1 e
          ·
           obtain rfl : k' = k := by omega
           exact hno
         have Hnx := Lib.hid hnx; clear hnx hno hall2 hsz; go_wp2_with fail; go_roundg (gk - 1)
         case measure => have := Hk.out; omega
         case rel => exact ⟨k + 1, by have := Hk.out; omega, by omega, by go_num, Hnx.out, rfl⟩
       ·
        have q1 : decide ((2 : Int) ≤ ((R.length : Int))) = false := by simp; omega
        have q1' : decide (2 ≤ R.length) = false := by simpa using hg1
        have hno : ¬ GoodN ls.length (lensL G) i k := fun h => by unfold GoodN at h; rw [hsz] at h; omega
        have hnx : ∀ k', i ≤ k' → k' < k + 1 → ¬ GoodN ls.length (lensL G) i k' := fun k' h1 h2 => by
         by_cases e : k' < k
         · exact hall2 k' h1 e
         ·
          obtain rfl : k' = k := by omega
          exact hno
        have Hnx := Lib.hid hnx; clear hnx hno hall2 hsz; go_wp2_with fail; go_roundg (gk - 1)
        case measure => have := Hk.out; omega
        case rel => exact ⟨k + 1, by have := Hk.out; omega, by omega, by go_num, Hnx.out, rfl⟩
     ·
      have hkn : k = G.length := by omega
      subst hkn; have hnx : ∀ i' k', i' < i + 1 → i' ≤ k' → k' < G.length → ¬ GoodN ls.length (lensL G) i' k' := fun i' k' h1 h2 h3 => by
       by_cases e : i' < i
       · exact Hall.out i' k' e h2 h3
       ·
        obtain rfl : i' = i := by omega
        exact hall2 k' h2 h3
      have Hnx := Lib.hid hnx; clear hnx hall2 hk; go_wp2_with fail; go_roundg (gO - 1)
      case measure => have := Hi.out; omega
      case rel => exact ⟨i + 1, by have := Hi.out; omega, by go_num, Hnx.out, rfl⟩
   ·
    have hin : i = G.length := by omega
    subst hin; have hfin : partsN (lensL G) = false := by
     cases h : partsN (lensL G) with
     | false => rfl
     | true =>
      obtain ⟨i', k', h1, h2, h3, h4⟩ := HPR.out.1 h; rw [HGll.out] at h2; exact absurd ⟨h3, h4⟩ (Hall.out i' k' (by omega) h1 h2)
    have Hfin := Lib.hid hfin; clear hi hfin; go_wp2_with fail; go_ret2; rw [Hc2.out, Hfin.out]; exact ⟨rfl, hb1⟩
set_option maxRecDepth 100000 in
set_option maxHeartbeats 4000000 in
theorem refFirst_walk (a : Option Addr) (cap : Nat) (ls : List Lk) (w : World) (hr : RdL w a ls) (hcap : ls.length ≤ 9223372036854775807) :
  Calls Tryz.prog 63 #[.slice a ls.length cap] w (RetF w (firstL ls)) := by
 cases h2 : twoL ls with
 | false =>
  have hc := first_no h2
  have H2 := Lib.hid h2; have Hc := Lib.hid hc; clear h2 hc
  go_enter Tryz.func63, Tryz.ntmps63
  go_wp2_with fail
  refine (refTwo12_walk a cap ls _ hr hcap).mono ?_
  rw [H2.out]
  rintro e w1 ⟨rfl, hb1⟩
  go_wp2_with fail
  rw [Hc.out]
  exact bodyPost_ret (v := .tuple #[.int .i64 0, .int .i64 0, .bool false, .int .i64 130]) (by simp [results, Tryz.results63, go_sem]) rfl ⟨rfl, hb1⟩
 | true =>
  have hn := (two_right h2).1
  obtain ⟨vs, hvs⟩ : ∃ vs, vs = vertsL ls := ⟨_, rfl⟩
  have hvl : vs.length ≤ 2000 := by rw [hvs]; have := vertsL_length ls; omega
  have hpr : ∀ i k, i ≠ k → ∀ x y, vs[i]? = some x → vs[k]? = some y → partsL2 ls x y = (pairAt ls i k, 0) := fun i k hik x y hi hk => by
   rw [hvs] at hi hk; obtain ⟨hil, hix⟩ := List.getElem?_eq_some_iff.1 hi; obtain ⟨hkl, hky⟩ := List.getElem?_eq_some_iff.1 hk; have := mayB_at h2 hik hil hkl; unfold partsL2 pairAt; rw [getD_at hil, getD_at hkl, hix, hky] at this; rw [getD_at hil, getD_at hkl, hix, hky, this]; rfl
  have Hvs := Lib.hid hvs; have H2 := Lib.hid h2; have Hpr := Lib.hid hpr; clear hvs h2 hpr
  go_enter Tryz.func63, Tryz.ntmps63
  go_wp2_with fail
  refine (refTwo12_walk a cap ls _ hr hcap).mono ?_
  rw [H2.out]
  rintro e w1 ⟨rfl, hb1⟩
  go_wp2_with fail
  refine (refVerts12_walk a cap ls _ (hr.below hb1) (by omega)).mono ?_
  rw [← Hvs.out]
  rintro e w2 ⟨av, cv, rfl, hrv, _, hvc, hvm, hb2⟩
  have hB2 := bl_trans hb1 hb2
  have hr2 := hr.below hB2
  clear hb1 hb2 hr
  go_wp2_with fail
  go_loopg [7] vs.length (fun r iv wj => ∃ i : Nat, i + r = vs.length ∧ iv = .int .i64 i ∧ (∀ i' k', i' < i → i' < k' → k' < vs.length → pairAt ls i' k' = false) ∧ Below w2.heap.size w2 wj)
  case atStart => exact ⟨0, by omega, rfl, fun i' k' h => absurd h (by omega), bl_refl _⟩
  case round =>
   obtain ⟨i, hi, rfl, hall, hbi⟩ := hrel; have Hi := Lib.hid hi; have Hall := Lib.hid hall; clear hall; by_cases hil : i < vs.length
   ·
    clear hi; obtain ⟨gO, rfl⟩ : ∃ n : Nat, n = gk := ⟨_, rfl⟩
    obtain ⟨x, hx⟩ : ∃ x, vs[i] = x := ⟨_, rfl⟩
    have hxi : vs[i]? = some x := by rw [List.getElem?_eq_getElem hil, hx]
    have Hxi := Lib.hid hxi; clear hxi; go_wp2_with fail; go_loopg [8] (vs.length - (i + 1)) (fun r kv wj => ∃ k : Nat, k + r = vs.length ∧ i < k ∧ kv = .int .i64 k ∧ (∀ k', i < k' → k' < k → pairAt ls i k' = false) ∧ Below w2.heap.size w2 wj)
    case atStart => exact ⟨i + 1, by omega, by omega, by go_num, fun k' h1 h2 => absurd h2 (by omega), hbi⟩
    case round =>
     clear hbi; obtain ⟨k, hk, hik, rfl, hall2, hbk⟩ := hrel; have Hk := Lib.hid hk; have Hall2 := Lib.hid hall2; clear hall2; by_cases hkl : k < vs.length
     ·
      clear hk; obtain ⟨b, o, rfl, c0⟩ := (hrv.below hbk).at i hil; obtain ⟨b', o', e', c1⟩ := (hrv.below hbk).at k hkl; cases e'; obtain ⟨y, hy⟩ : ∃ y, vs[k] = y := ⟨_, rfl⟩
      rw [hx] at c0; rw [hy] at c1; have hprk := Hpr.out i k (by omega) x y Hxi.out (by rw [List.getElem?_eq_getElem hkl, hy]); obtain ⟨t, ht⟩ : ∃ t, t = pairAt ls i k := ⟨_, rfl⟩
      rw [← ht] at hprk; have hyk : vs[k]? = some y := by rw [List.getElem?_eq_getElem hkl, hy]
      have Hprk := Lib.hid hprk; have Ht := Lib.hid ht; have Hyk := Lib.hid hyk; have hrk := hr2.below hbk; clear hprk ht hy hyk; go_wp2_with fail; refine regionT (fun w' => w'.cell? ⟨b, o + i, none⟩ = some (.int .i64 x) ∧ w'.cell? ⟨b, o + k, none⟩ = some (.int .i64 y)) 9 (by kernel_rfl) ?_; have hS : wr.drew.cell? ⟨b, o + i, none⟩ = some (.int .i64 x) ∧ wr.drew.cell? ⟨b, o + k, none⟩ = some (.int .i64 y) := ⟨c0, c1⟩
      refine tkT 0 ?_ rfl hS ?_ ?_ (by kernel_rfl) (fun _ _ _ h => h) (by rfl); rotate_left; (· intro wS hSw; (try dsimp only at hSw); go_simp; try with_reducible rfl); simp only [Act.put, zA, z0, z1]; refine tkT 1 ?_ rfl hS ?_ ?_ (by kernel_rfl) (fun _ _ _ h => h) (by rfl); rotate_left; (· intro wS hSw; (try dsimp only at hSw); go_simp; try with_reducible rfl); simp only [Act.put, zA, z0, z1]; refine tkT 2 ?_ rfl hS ?_ ?_ (by kernel_rfl) (fun _ _ _ h => h) (by rfl); rotate_left; (· intro wS hSw; (try dsimp only at hSw); go_simp; try with_reducible rfl); simp only [Act.put, zA, z0, z1]; refine tkT 3 ?_ rfl hS ?_ ?_ (by kernel_rfl) (fun _ _ _ h => h) (by rfl); rotate_left; (· intro wS hSw; (try dsimp only at hSw); go_simp; try with_reducible rfl); simp only [Act.put, zA, z0, z1]; refine tkT 4 ?_ rfl hS ?_ ?_ (by kernel_rfl) (fun _ _ _ h => h) (by rfl); rotate_left; (· intro wS hSw; (try dsimp only at hSw); go_simp; try with_reducible rfl); simp only [Act.put, zA, z0, z1]; refine tkT 5 ?_ rfl hS ?_ ?_ (by kernel_rfl) (fun _ _ _ h => h) (by rfl); rotate_left; (· intro wS hSw; (try dsimp only at hSw); go_simp; try with_reducible rfl); simp only [Act.put, zA, z0, z1]; refine tkT 6 ?_ rfl hS ?_ ?_ (by kernel_rfl) (fun _ _ _ h => h) (by rfl); rotate_left; (· intro wS hSw; (try dsimp only at hSw); go_simp; try with_reducible rfl); simp only [Act.put, zA, z0, z1]; refine tkT 7 ?_ rfl hS ?_ ?_ (by kernel_rfl) (fun _ _ _ h => h) (by rfl); rotate_left; (· intro wS hSw; (try dsimp only at hSw); go_simp; try with_reducible rfl); simp only [Act.put, zA, z0, z1]
      refine tkT 8 ?_ rfl hS ?_ ?_ (by kernel_rfl) (fun _ _ _ h => h) (by rfl); rotate_left; (· intro wS hSw; (try dsimp only at hSw); go_simp; try with_reducible rfl); simp only [Act.put, zA, z0, z1]; refine oneT (i := 9) rfl (by kernel_rfl) (fun K hK => ?_); go_simp; go_at_call 90; refine (refParts13_walk a cap ls x y _ ?_ hcap).mono ?_; exact hrk; rw [Hprk.out]; rintro e w3 ⟨rfl, hb3⟩; go_simp; refine hK _ _ (fun h => absurd h (by omega)) ?_; clear hK K hS; have hbk3 : Below w2.heap.size w2 w3 := bl_trans hbk (bl_trans ((bl_refl wr).drew) hb3); refine restartT (fun _ => True) 15 (by kernel_rfl) ?_; have hS : True := trivial; refine tkT 10 ?_ rfl hS ?_ ?_ (by kernel_rfl) (fun _ _ _ h => h) (by rfl); rotate_left; (· intro wS hSw; (try dsimp only at hSw); go_simp; try with_reducible rfl); simp only [Act.put, zA, z0, z1]; refine tkT 11 ?_ rfl hS ?_ ?_ (by kernel_rfl) (fun _ _ _ h => h) (by rfl); rotate_left; (· intro wS hSw; (try dsimp only at hSw); go_simp; try with_reducible rfl); simp only [Act.put, zA, z0, z1]; refine tkT 12 ?_ rfl hS ?_ ?_ (by kernel_rfl) (fun _ _ _ h => h) (by rfl); rotate_left; (· intro wS hSw; (try dsimp only at hSw); go_simp; try with_reducible rfl); simp only [Act.put, zA, z0, z1]; refine tkT 13 ?_ rfl hS ?_ ?_ (by kernel_rfl) (fun _ _ _ h => h) (by rfl); rotate_left; (· intro wS hSw; (try dsimp only at hSw); go_simp; try with_reducible rfl); simp only [Act.put, zA, z0, z1]; refine tkT 14 ?_ rfl hS ?_ ?_ (by kernel_rfl) (fun _ _ _ h => h) (by rfl); rotate_left; (· intro wS hSw; (try dsimp only at hSw); go_simp; try with_reducible rfl); simp only [Act.put, zA, z0, z1]
      refine doneT (by kernel_rfl) ?_ _; have c2 := (hrv.below hbk3).at i hil; have c3 := (hrv.below hbk3).at k hkl; obtain ⟨b2, o2, e2, c2⟩ := c2; cases e2; obtain ⟨b3, o3, e3, c3⟩ := c3; cases e3; rw [hx] at c2; have hyv : vs[k] = y := by have := Hyk.out; rw [List.getElem?_eq_getElem hkl] at this; exact Option.some.inj this
      rw [hyv] at c3; clear hyv; cases t with
      | false =>
       have hnx : ∀ k', i < k' → k' < k + 1 → pairAt ls i k' = false := fun k' h1 h2 => by
        by_cases e : k' < k
        · exact Hall2.out k' h1 e
        ·
         obtain rfl : k' = k := by omega
         exact Ht.out.symm
       have Hnx := Lib.hid hnx; clear hnx; go_wp2_with fail; go_roundg (gk - 1)
       case measure => have := Hk.out; omega
       case rel => exact ⟨k + 1, by have := Hk.out; omega, by omega, by go_num, Hnx.out, hbk3⟩
      | true =>
       have hfin : firstL ls = (x, y, true, 0) := by
        have h1 := first_at H2.out (i := i) (k := k) ⟨hik, by rw [← Hvs.out]; exact hkl, Ht.out.symm, Hall2.out, by rw [← Hvs.out]; exact Hall.out⟩; rw [h1, ← Hvs.out]; have e1 : vs.getD i 0 = x := by rw [getD_at hil, hx]
        have e2 : vs.getD k 0 = y := by
         have := Hyk.out; rw [List.getElem?_eq_getElem hkl] at this; rw [getD_at hkl, Option.some.inj this]
        rw [e1, e2]
       have Hfin := Lib.hid hfin; clear hfin hx; go_wp2_with fail; go_quiet (fail)
       go_wp2_with fail; rw [Hfin.out]; exact bodyPost_ret (v := .tuple #[.int .i64 x, .int .i64 y, .bool true, .int .i64 0]) (by simp [results, Tryz.results63, go_sem]) rfl ⟨rfl, below_drewN (bl_trans hB2 hbk3) _⟩
     ·
      have hkn : k = vs.length := by omega
      subst hkn; have hnx : ∀ i' k', i' < i + 1 → i' < k' → k' < vs.length → pairAt ls i' k' = false := fun i' k' h1 h2 h3 => by
       by_cases e : i' < i
       · exact Hall.out i' k' e h2 h3
       ·
        obtain rfl : i' = i := by omega
        exact Hall2.out k' h2 h3
      have Hnx := Lib.hid hnx; clear hnx hk; go_wp2_with fail; go_roundg (gO - 1)
      case measure => have := Hi.out; omega
      case rel => exact ⟨i + 1, by have := Hi.out; omega, by go_num, Hnx.out, hbk⟩
   ·
    have hin : i = vs.length := by omega
    subst hin; have hfin : firstL ls = (0, 0, false, 0) := first_none H2.out fun i' k' h1 h3 => by
     rw [← Hvs.out] at h3; exact Hall.out i' k' (by omega) h1 h3
    have Hfin := Lib.hid hfin; clear hfin hi; go_wp2_with fail; rw [Hfin.out]; exact bodyPost_ret (v := .tuple #[.int .i64 0, .int .i64 0, .bool false, .int .i64 0]) (by simp [results, Tryz.results63, go_sem]) rfl ⟨rfl, bl_trans hB2 hbi⟩
end Go.Proofs.YtagcbnpahgfgmaaGreat
namespace Go.Proofs.YtagcbnpahgfgmaaGreat
open Go Go.RowKit
set_option maxRecDepth 100000 in
set_option maxHeartbeats 4000000 in
theorem kind15_walk (a : Option Addr) (cap : Nat) (ls : List Lk) (w : World) (hr : RdL w a ls) (hcap : ls.length ≤ 9223372036854775807) :
  Calls Tryz.prog 22 #[.slice a ls.length cap] w (RetN w (kindR ls)) := by
 obtain ⟨z, hz⟩ : ∃ z, z = kindR ls := ⟨_, rfl⟩
 rw [← hz]
 unfold kindR at hz
 cases hR : rightL ls with
 | false =>
  rw [hR] at hz
  simp at hz
  subst hz
  have HR := Lib.hid hR; clear hR
  go_enter Tryz.func22, Tryz.ntmps22
  go_wp2_with fail
  refine (refRight12_walk a cap ls _ hr hcap).mono ?_
  rw [HR.out]
  rintro e w1 ⟨rfl, hb1⟩
  go_wp2_with fail
  go_ret
  exact ⟨rfl, hb1⟩
 | true =>
  have hrt := (rightL_iff ls).1 hR
  have hn := hrt.1
  rw [hR] at hz
  by_cases h3 : ls.length < 3
  ·
   have e3 : decide ((ls.length : Int) < 3) = true := by simp; omega
   rw [decide_eq_true h3] at hz; simp at hz; subst hz; have HR := Lib.hid hR; clear hR h3; go_enter Tryz.func22, Tryz.ntmps22; go_wp2_with fail; refine (refRight12_walk a cap ls _ hr hcap).mono ?_; rw [HR.out]; rintro e w1 ⟨rfl, hb1⟩; go_wp2_with fail; go_ret; exact ⟨rfl, hb1⟩
  have e3 : decide ((ls.length : Int) < 3) = false := by simp; omega
  rw [decide_eq_false h3] at hz
  simp only [Bool.not_true, Bool.or_false, Bool.false_eq_true, if_false] at hz
  obtain ⟨vs, hvs⟩ : ∃ vs, vs = vertsL ls := ⟨_, rfl⟩
  rw [← hvs] at hz
  have hvl : vs.length ≤ 2000 := by rw [hvs]; have := vertsL_length ls; omega
  have HR := Lib.hid hR; have Hvs := Lib.hid hvs; have Hz := Lib.hid hz
  clear hR hvs hz h3 hrt
  go_enter Tryz.func22, Tryz.ntmps22
  go_wp2_with fail
  refine (refRight12_walk a cap ls _ hr hcap).mono ?_
  rw [HR.out]
  rintro e w1 ⟨rfl, hb1⟩
  have hr1 := hr.below hb1
  go_wp2_with fail
  clear e3
  refine (refVerts12_walk a cap ls _ hr1 (by omega)).mono ?_
  rw [← Hvs.out]
  rintro e w2 ⟨av, cv, rfl, hv, _, hcv, hcm, hb2⟩
  have hr2 := hr1.below hb2
  have hB2 := bl_trans hb1 hb2
  clear hr hr1 hb1 hb2
  by_cases hp : vs.length = 2
  ·
   have e4 : ((vs.length : Int) == 2) = true := by simp; omega
   have hz := Hz.out; rw [if_pos hp] at hz; subst hz; clear hp; go_wp2_with fail; go_ret; exact ⟨rfl, hB2⟩
  have e4 : ((vs.length : Int) == 2) = false := by simp; omega
  have hz := Hz.out
  rw [if_neg hp] at hz
  have Hz := Lib.hid hz
  clear hz hp
  go_wp2_with fail
  clear e4
  refine (refJoined12_walk a cap ls _ hr2 hcap).mono ?_
  rintro e w3 ⟨rfl, hb3⟩
  have hr3 := hr2.below hb3
  have hv3 := hv.below hb3
  have hB3 := bl_trans hB2 hb3
  obtain ⟨t, ht⟩ : ∃ t, t = joinedL ls := ⟨_, rfl⟩
  rw [← ht]
  have Ht := Lib.hid ht
  clear hr2 hv hB2 hb3 ht
  go_wp2_with fail
  go_loopg [4, 5] vs.length (fun r tv iv wj => ∃ i : Nat, i + r = vs.length ∧ iv = .int .i64 i ∧ tv = .bool (t && (vs.take i).all fun v => degN ls v == 2) ∧ Below w3.heap.size w3 wj)
  case atStart => exact ⟨0, by omega, rfl, by simp, bl_refl _⟩
  case round =>
   obtain ⟨i, hi, rfl, rfl, hb⟩ := hrel; have Hi := Lib.hid hi; by_cases hil : i < vs.length
   ·
    clear hi; have hst : (vs.take (i + 1)).all (fun v => degN ls v == 2) = ((vs.take i).all (fun v => degN ls v == 2) && (degN ls vs[i] == 2)) := by
     rw [List.take_succ_eq_append_getElem hil, List.all_append]; simp
    obtain ⟨b, o, rfl, c0⟩ := (hv3.below hb).at i hil; obtain ⟨v, hvi⟩ : ∃ v, vs[i] = v := ⟨_, rfl⟩
    rw [hvi] at c0 hst; obtain ⟨B, hBe⟩ : ∃ B, B = (vs.take i).all fun v => degN ls v == 2 := ⟨_, rfl⟩
    rw [← hBe] at hst ⊢; have Hst := Lib.hid hst; have i2 : (i : Int) < (vs.length : Int) := by omega
    clear hst hvi hBe; obtain ⟨tb, htb⟩ : ∃ tb, tb = (t && B) := ⟨_, rfl⟩
    rw [← htb]; cases tb with
    | false =>
     have hfin : (t && (vs.take (i + 1)).all fun v => degN ls v == 2) = false := by rw [Hst.out, ← Bool.and_assoc, ← htb]; rfl
     have Hfin := Lib.hid hfin; clear hfin htb; go_wp2_with fail; go_roundg (gk - 1)
     case measure => have := Hi.out; omega
     case rel => exact ⟨i + 1, by have := Hi.out; omega, by go_num, by rw [Hfin.out], hb⟩
    | true =>
     have hfin : (t && (vs.take (i + 1)).all fun v => degN ls v == 2) = (degN ls v == 2) := by rw [Hst.out, ← Bool.and_assoc, ← htb]; rfl
     have Hfin := Lib.hid hfin; clear hfin htb; have hdl := degN_le ls v; go_wp2_with fail; refine (degree15_walk a cap ls v _ (hr3.below hb) (by omega)).mono ?_; rintro e w4 ⟨rfl, hb4⟩; have hb5 := bl_trans hb hb4; obtain ⟨d, hd⟩ : ∃ d, d = (degN ls v == 2) := ⟨_, rfl⟩
     have hd2 : (((degN ls v : Nat) : Int) == 2) = d := by rw [hd, Bool.eq_iff_iff]; simp; omega
     rw [← hd] at Hfin; clear hd; generalize degN ls v = N at *
     go_wp2_with fail; go_roundg (gk - 1)
     case measure => have := Hi.out; omega
     case rel => exact ⟨i + 1, by have := Hi.out; omega, by go_num, by rw [Hfin.out], hb5⟩
   ·
    have hin : i = vs.length := by omega
    subst hin; rw [List.take_length]; have hz := Hz.out; rw [← Ht.out] at hz; obtain ⟨c, hc⟩ : ∃ c, c = (t && vs.all fun v => degN ls v == 2) := ⟨_, rfl⟩
    rw [← hc] at hz ⊢; have hB4 := bl_trans hB3 hb; have hr4 := hr3.below hb; clear hi Hi hc hv3 hr3 hB3 hb; cases c with
    | true =>
     simp only [if_true] at hz; subst hz; go_wp2_with fail; go_ret; exact ⟨rfl, hB4⟩
    | false =>
     simp only [Bool.false_eq_true, if_false] at hz; by_cases h4 : vs.length < 4
     ·
      have e5 : decide ((vs.length : Int) < 4) = true := by simp; omega
      rw [decide_eq_true h4] at hz; simp at hz; subst hz; clear h4; go_wp2_with fail; go_ret; exact ⟨rfl, hB4⟩
     ·
      have e5 : decide ((vs.length : Int) < 4) = false := by simp; omega
      rw [decide_eq_false h4, Bool.false_or] at hz; clear h4; cases h2 : twoL ls with
      | false =>
       rw [h2] at hz; simp at hz; subst hz; have H2 := Lib.hid h2; clear h2; go_wp2_with fail; refine (refTwo12_walk a cap ls _ hr4 hcap).mono ?_; rw [H2.out]; rintro e w5 ⟨rfl, hb5⟩; have hB5 := bl_trans hB4 hb5; go_wp2_with fail; go_ret; exact ⟨rfl, hB5⟩
      | true =>
       rw [h2] at hz; simp only [Bool.not_true, Bool.false_eq_true, if_false] at hz; have H2 := Lib.hid h2; have Hz2 := Lib.hid hz; clear h2 hz; go_wp2_with fail; refine (refTwo12_walk a cap ls _ hr4 hcap).mono ?_; rw [H2.out]; rintro e w5 ⟨rfl, hb5⟩; have hB5 := bl_trans hB4 hb5; have hr5 := hr4.below hb5; clear hB4 hb5 hr4; go_wp2_with fail; refine (refFirst_walk a cap ls _ hr5 hcap).mono ?_; rintro e w6 ⟨rfl, hb6⟩; have hB6 := bl_trans hB5 hb6; have hz := Hz2.out; rw [← first_c] at hz; obtain ⟨⟨f1, f2, f3, f4⟩, hf⟩ : ∃ f, f = firstL ls := ⟨_, rfl⟩
       rw [← hf] at hz ⊢; simp only at hz ⊢; clear hf hB5 hb6 hr5; cases f3 with
       | true =>
        simp only [if_true] at hz; subst hz; go_wp2_with fail; go_ret; exact ⟨rfl, hB6⟩
       | false =>
        simp only [Bool.false_eq_true, if_false] at hz; subst hz; go_wp2_with fail; go_ret; exact ⟨rfl, hB6⟩
end Go.Proofs.YtagcbnpahgfgmaaGreat
namespace Go.Proofs.YtagcbnpahgfgmaaGreat
open Go Go.RowKit Go.Maps
theorem besQ_len {Q : List Pt} (hQ : Q.length ≤ 1000) (hR : ∀ q ∈ Q, q.2.length ≤ 1000) (v : Nat) : (besQ Q v).length ≤ 4000000 := by
 unfold besQ
 rw [srtN_len]
 have h1 := outO_len (pairsO (allQ Q)) v
 have h2 := pairsO_len (allQ Q)
 have h3 := allQ_len hQ hR Q.length 0 (Nat.le_refl _)
 rw [preQ_zero] at h3
 have h4 : (preO Q Q.length).length = (allQ Q).length := rfl
 omega
def RetTree (w : World) (Q : List Pt) (e : Ending) (w' : World) : Prop :=
 Below w.heap.size w w' ∧ ((RightQ Q ∧ ∃ G, e = .returned (.tuple #[.slice (some ⟨G, 0, none⟩) Q.length Q.length, .bool true]) ∧ RdG w' G Q.length (besQ Q)) ∨ (¬ RightQ Q ∧ ∃ v, e = .returned (.tuple #[v, .bool false])))
set_option maxRecDepth 100000 in
set_option maxHeartbeats 8000000 in
theorem tree_walk (a : Option Addr) (cap : Nat) (Q : List Pt) (w : World) (hr : RdQ w a Q) (hQ : Q.length ≤ 1000) :
  Calls Tryz.prog 41 #[.slice a Q.length cap] w (RetTree w Q) := by
 by_cases h0 : Q.length = 0
 ·
  obtain rfl := List.eq_nil_of_length_eq_zero h0
  have hbad : ¬ RightQ ([] : List Pt) := fun h => h.ne rfl
  have Hbad := Lib.hid hbad
  clear hbad h0
  go_enter Tryz.func41, Tryz.ntmps41
  go_wp2_with fail
  go_ret2
  exact ⟨bl_refl _, .inr ⟨Hbad.out, _, rfl⟩⟩
 have e0 : ((Q.length : Int) == 0) = false := beq_eq_false_iff_ne.2 (by omega)
 have H0 := Lib.hid h0
 clear h0
 go_enter Tryz.func41, Tryz.ntmps41
 go_wp2_with fail
 clear e0
 go_loopg [18] Q.length (fun r iv wj => ∃ i : Nat, i + r = Q.length ∧ iv = .int .i64 i ∧ seenQ Q i ∧ Below w.heap.size w wj)
 case atStart => exact ⟨0, by omega, rfl, seenQ_zero Q, bl_refl _⟩
 case round =>
  obtain ⟨i, hi, rfl, hseen, hB⟩ := hrel
  have Hi := Lib.hid hi; have Hseen := Lib.hid hseen
  clear hseen
  by_cases hil : i < Q.length
  ·
   clear hi; have hqi : Q[i]? = some Q[i] := List.getElem?_eq_getElem hil; obtain ⟨bp, op, au, cu, rfl, p0, p1, hrq, hcu, hcm⟩ := (hr.below hB) i _ hqi; obtain ⟨⟨kd, ls⟩, hq⟩ : ∃ q : Pt, Q[i] = q := ⟨_, rfl⟩
   rw [hq] at p0 p1 hrq hcu; simp only at p0 p1 hrq hcu; have Hq := Lib.hid hq; have hlsl : ls.length ≤ 9223372036854775807 := by unfold maxLen at hcm; omega
   clear hqi hq; have iI : (i : Int) < (Q.length : Int) := by omega
   go_upto_region 6 with (fail)
   have hbl := bl_alloc wr (.cells #[.int .i64 kd, .slice au ls.length cu] 49); have d0 : (wr.alloc (.cells #[.int .i64 kd, .slice au ls.length cu] 49)).cell? ⟨wr.heap.size, 0, none⟩ = some (.int .i64 kd) := by simp
   have d1 : (wr.alloc (.cells #[.int .i64 kd, .slice au ls.length cu] 49)).cell? ⟨wr.heap.size, 1, none⟩ = some (.slice au ls.length cu) := by simp
   have hBa := bl_trans hB hbl; have hrqa := hrq.below hbl; obtain ⟨B8, hB8⟩ : ∃ b, b = wr.heap.size := ⟨_, rfl⟩
   rw [← hB8] at d0 d1; have hra : RdQ (wr.alloc (.cells #[.int .i64 kd, .slice au ls.length cu] 49)) (some ⟨bp, op, none⟩) Q := (hr.below hB).below hbl; rw [← hB8]; generalize (wr.alloc (.cells #[.int .i64 kd, .slice au ls.length cu] 49)) = wa at *
   clear hbl hrq p0 p1 hB hB8; by_cases hk0 : kd = 0
   ·
    subst hk0; have hbad : ¬ RightQ Q := fun h => (h.kinds _ (List.getElem_mem hil)).1 (by rw [Hq.out]); have Hbad := Lib.hid hbad; clear hbad; go_wp2_with fail; go_quiet (fail)
    go_wp2_with fail; go_ret2; exact ⟨below_drewN hBa _, .inr ⟨Hbad.out, _, rfl⟩⟩
   ·
    have e1 : (kd == 0) = false := beq_eq_false_iff_ne.2 hk0; have Hk0 := Lib.hid hk0; clear hk0; have hkw := kind_walk au cu ls wa.drew hrqa hlsl; refine regionT (fun w' => w'.cell? ⟨B8, 0, none⟩ = some (.int .i64 kd) ∧ w'.cell? ⟨B8, 1, none⟩ = some (.slice au ls.length cu)) 11 (by kernel_rfl) ?_; have hS : wa.drew.cell? ⟨B8, 0, none⟩ = some (.int .i64 kd) ∧ wa.drew.cell? ⟨B8, 1, none⟩ = some (.slice au ls.length cu) := ⟨d0, d1⟩
    refine tkT 0 ?_ rfl hS ?_ ?_ (by kernel_rfl) (fun _ _ _ h => h) (by rfl); rotate_left; (· intro wS hSw; (try dsimp only at hSw); go_simp; try with_reducible rfl); simp only [Act.put, zA, z0, z1]; refine tkT 1 ?_ rfl hS ?_ ?_ (by kernel_rfl) (fun _ _ _ h => h) (by rfl); rotate_left; (· intro wS hSw; (try dsimp only at hSw); go_simp; try with_reducible rfl); simp only [Act.put, zA, z0, z1]; refine tkT 2 ?_ rfl hS ?_ ?_ (by kernel_rfl) (fun _ _ _ h => h) (by rfl); rotate_left; (· intro wS hSw; (try dsimp only at hSw); go_simp; try with_reducible rfl); simp only [Act.put, zA, z0, z1]; refine tkT 3 ?_ rfl hS ?_ ?_ (by kernel_rfl) (fun _ _ _ h => h) (by rfl); rotate_left; (· intro wS hSw; (try dsimp only at hSw); go_simp; try with_reducible rfl); simp only [Act.put, zA, z0, z1]; refine tkT 4 ?_ rfl hS ?_ ?_ (by kernel_rfl) (fun _ _ _ h => h) (by rfl); rotate_left; (· intro wS hSw; (try dsimp only at hSw); go_simp; try with_reducible rfl); simp only [Act.put, zA, z0, z1]; refine tkT 5 ?_ rfl hS ?_ ?_ (by kernel_rfl) (fun _ _ _ h => h) (by rfl); rotate_left; (· intro wS hSw; (try dsimp only at hSw); go_simp; try with_reducible rfl); simp only [Act.put, zA, z0, z1]; refine tkT 6 ?_ rfl hS ?_ ?_ (by kernel_rfl) (fun _ _ _ h => h) (by rfl); rotate_left; (· intro wS hSw; (try dsimp only at hSw); go_simp; try with_reducible rfl); simp only [Act.put, zA, z0, z1]; refine tkT 7 ?_ rfl hS ?_ ?_ (by kernel_rfl) (fun _ _ _ h => h) (by rfl); rotate_left; (· intro wS hSw; (try dsimp only at hSw); go_simp; try with_reducible rfl); simp only [Act.put, zA, z0, z1]
    refine oneT (i := 8) rfl (by kernel_rfl) (fun K hK => ?_); go_simp; refine hkw.mono ?_; rintro e w1 ⟨rfl, hb1⟩; replace hb1 : Below wa.heap.size wa w1 := bl_trans (Below.refl wa.heap.size wa).drew hb1; have hS1 : w1.cell? ⟨B8, 0, none⟩ = some (.int .i64 kd) ∧ w1.cell? ⟨B8, 1, none⟩ = some (.slice au ls.length cu) := ⟨keep_cell hb1 d0, keep_cell hb1 d1⟩
    have hrq1 := hrqa.below hb1; have hr1 := hra.below hb1; have hB1 := bl_trans hBa hb1; simp only; refine hK _ _ (fun _ => hS1) ?_; clear hK K hS hkw d0 d1 hrqa hra hBa hb1; have hS := hS1; refine tkT 9 ?_ rfl hS ?_ ?_ (by kernel_rfl) (fun _ _ _ h => h) (by rfl); rotate_left; (· intro wS hSw; (try dsimp only at hSw); go_simp; try with_reducible rfl); simp only [Act.put, zA, z0, z1]; refine tkT 10 ?_ rfl hS ?_ ?_ (by kernel_rfl) (fun _ _ _ h => h) (by rfl); rotate_left; (· intro wS hSw; (try dsimp only at hSw); go_simp; try with_reducible rfl); simp only [Act.put, zA, z0, z1]; refine doneT (by kernel_rfl) ?_ _; obtain ⟨d0, d1⟩ := hS1; by_cases hk1 : kd = kindL ls
    ·
     have e2 : (kd != kindL ls) = false := by simpa using hk1
     have Hk1 := Lib.hid hk1; clear hk1 hS; rcases Nat.eq_zero_or_pos i with hi0 | hi0
     ·
      subst hi0; go_wp2_with fail; go_quiet (fail)
      go_wp2_with fail; go_roundg (gk - 1)
      case measure => have := Hi.out; omega
      case rel => exact ⟨1, by have := Hi.out; omega, by go_num, seenQ_next Hseen.out hil (by rw [Hq.out]; exact Hk0.out) (by rw [Hq.out]; exact Hk1.out) (fun h => absurd h (by omega)), below_drewN hB1 _⟩
     ·
      have e3 : decide ((0 : Int) < (i : Int)) = true := by simp; omega
      go_wp2_with fail; have hp1 : Q[i - 1]? = some (Q[i - 1]'(by omega)) := List.getElem?_eq_getElem (by omega); obtain ⟨b2, o2, a2, c2, hb2, p0, p1, hrp, hpu, hpm⟩ := hr1 (i - 1) _ hp1; cases hb2; obtain ⟨⟨ke, ms⟩, hq2⟩ : ∃ q : Pt, Q[i - 1]'(by omega) = q := ⟨_, rfl⟩
      rw [hq2] at p1 hrp hpu; simp only at p1 hrp hpu; have Hq2 := Lib.hid hq2; have hmsl : ms.length ≤ 9223372036854775807 := by unfold maxLen at hpm; omega
      clear hp1 p0 hq2; have ei : IntKind.i64.wrap ((i : Int) - 1) = ((i - 1 : Nat) : Int) := by rw [IntWalk.i64_in _ (by omega)]; omega
      have ii : ((i - 1 : Nat) : Int) < (Q.length : Int) := by omega
      have hcw := compareP_walk a2 au c2 cu ms ls w1.drew hrp hrq1 hmsl hlsl; refine regionT (fun w' => w'.cell? ⟨bp, op + (i - 1) * 2 + 1, none⟩ = some (.slice a2 ms.length c2) ∧ w'.cell? ⟨B8, 1, none⟩ = some (.slice au ls.length cu)) 14 (by kernel_rfl) ?_; have hS : w1.drew.cell? ⟨bp, op + (i - 1) * 2 + 1, none⟩ = some (.slice a2 ms.length c2) ∧ w1.drew.cell? ⟨B8, 1, none⟩ = some (.slice au ls.length cu) := ⟨p1, d1⟩
      refine tkT 0 ?_ rfl hS ?_ ?_ (by kernel_rfl) (fun _ _ _ h => h) (by rfl); rotate_left; (· intro wS hSw; (try dsimp only at hSw); go_simp; try with_reducible rfl); simp only [Act.put, zA, z0, z1]; refine tkT 1 ?_ rfl hS ?_ ?_ (by kernel_rfl) (fun _ _ _ h => h) (by rfl); rotate_left; (· intro wS hSw; (try dsimp only at hSw); go_simp; try with_reducible rfl); simp only [Act.put, zA, z0, z1]; refine tkT 2 ?_ rfl hS ?_ ?_ (by kernel_rfl) (fun _ _ _ h => h) (by rfl); rotate_left; (· intro wS hSw; (try dsimp only at hSw); go_simp; try with_reducible rfl); simp only [Act.put, zA, z0, z1]; refine tkT 3 ?_ rfl hS ?_ ?_ (by kernel_rfl) (fun _ _ _ h => h) (by rfl); rotate_left; (· intro wS hSw; (try dsimp only at hSw); go_simp; try with_reducible rfl); simp only [Act.put, zA, z0, z1]; refine tkT 4 ?_ rfl hS ?_ ?_ (by kernel_rfl) (fun _ _ _ h => h) (by rfl); rotate_left; (· intro wS hSw; (try dsimp only at hSw); go_simp; try with_reducible rfl); simp only [Act.put, zA, z0, z1]; refine tkT 5 ?_ rfl hS ?_ ?_ (by kernel_rfl) (fun _ _ _ h => h) (by rfl); rotate_left; (· intro wS hSw; (try dsimp only at hSw); go_simp; try with_reducible rfl); simp only [Act.put, zA, z0, z1]; refine tkT 6 ?_ rfl hS ?_ ?_ (by kernel_rfl) (fun _ _ _ h => h) (by rfl); rotate_left; (· intro wS hSw; (try dsimp only at hSw); go_simp; try with_reducible rfl); simp only [Act.put, zA, z0, z1]; refine tkT 7 ?_ rfl hS ?_ ?_ (by kernel_rfl) (fun _ _ _ h => h) (by rfl); rotate_left; (· intro wS hSw; (try dsimp only at hSw); go_simp; try with_reducible rfl); simp only [Act.put, zA, z0, z1]
      refine tkT 8 ?_ rfl hS ?_ ?_ (by kernel_rfl) (fun _ _ _ h => h) (by rfl); rotate_left; (· intro wS hSw; (try dsimp only at hSw); go_simp; try with_reducible rfl); simp only [Act.put, zA, z0, z1]; refine tkT 9 ?_ rfl hS ?_ ?_ (by kernel_rfl) (fun _ _ _ h => h) (by rfl); rotate_left; (· intro wS hSw; (try dsimp only at hSw); go_simp; try with_reducible rfl); simp only [Act.put, zA, z0, z1]; refine tkT 10 ?_ rfl hS ?_ ?_ (by kernel_rfl) (fun _ _ _ h => h) (by rfl); rotate_left; (· intro wS hSw; (try dsimp only at hSw); go_simp; try with_reducible rfl); simp only [Act.put, zA, z0, z1]; refine oneT (i := 11) rfl (by kernel_rfl) (fun K hK => ?_); go_simp; refine hcw.mono ?_; rintro e w2 ⟨rfl, hb2⟩; replace hb2 : Below w1.heap.size w1 w2 := bl_trans (Below.refl w1.heap.size w1).drew hb2; have hS2 : w2.cell? ⟨bp, op + (i - 1) * 2 + 1, none⟩ = some (.slice a2 ms.length c2) ∧ w2.cell? ⟨B8, 1, none⟩ = some (.slice au ls.length cu) := ⟨keep_cell hb2 p1, keep_cell hb2 d1⟩
      have hB2 := bl_trans hB1 hb2; simp only; refine hK _ _ (fun _ => hS2) ?_; clear hK K hS hcw d0 d1 p1 hrq1 hr1 hB1 hb2 hrp; have hS := hS2; refine tkT 12 ?_ rfl hS ?_ ?_ (by kernel_rfl) (fun _ _ _ h => h) (by rfl); rotate_left; (· intro wS hSw; (try dsimp only at hSw); go_simp; try with_reducible rfl); simp only [Act.put, zA, z0, z1]; refine tkT 13 ?_ rfl hS ?_ ?_ (by kernel_rfl) (fun _ _ _ h => h) (by rfl); rotate_left; (· intro wS hSw; (try dsimp only at hSw); go_simp; try with_reducible rfl); simp only [Act.put, zA, z0, z1]; refine doneT (by kernel_rfl) ?_ _; clear hS hS2; have hc : cmpLs (Q[i - 1]'(by omega)).2 Q[i].2 = cmpLs ms ls := by rw [Hq.out, Hq2.out]
      obtain ⟨bb, hbb⟩ : ∃ b, b = decide (0 < cmpLs ms ls) := ⟨_, rfl⟩
      rw [← hbb]; cases bb with
      | true =>
       have hk2 : 0 < cmpLs ms ls := by simpa using hbb.symm
       have hbad : ¬ RightQ Q := fun h => by
        obtain ⟨k, hk⟩ : ∃ k, i = k + 1 := ⟨i - 1, by omega⟩
        subst hk; have h1 := h.ord k hil; simp only [Nat.add_sub_cancel] at hc; rw [hc] at h1; omega
       have Hbad := Lib.hid hbad; clear hbad hk2 hc hbb; go_wp2_with fail; go_ret2; exact ⟨hB2, .inr ⟨Hbad.out, _, rfl⟩⟩
      | false =>
       have hk2 : ¬ 0 < cmpLs ms ls := by simpa using hbb.symm
       have Hc := Lib.hid (show cmpLs (Q[i - 1]'(by omega)).2 Q[i].2 ≤ 0 by rw [hc]; omega); clear hk2 hc hbb; go_wp2_with fail; go_roundg (gk - 1)
       case measure => have := Hi.out; omega
       case rel => exact ⟨i + 1, by have := Hi.out; omega, by go_num, seenQ_next Hseen.out hil (by rw [Hq.out]; exact Hk0.out) (by rw [Hq.out]; exact Hk1.out) (fun _ => Hc.out), hB2⟩
    ·
     have e2 : (kd != kindL ls) = true := by simpa using hk1
     have hbad : ¬ RightQ Q := fun h => by
      have h1 := (h.kinds _ (List.getElem_mem hil)).2; rw [Hq.out] at h1; exact hk1 h1
     have Hbad := Lib.hid hbad; clear hbad hk1 hS; go_wp2_with fail; go_ret2; exact ⟨hB1, .inr ⟨Hbad.out, _, rfl⟩⟩
  ·
   have hin : i = Q.length := by omega
   subst hin; obtain ⟨hk, ho⟩ := seenQ_all.1 Hseen.out; have hR : ∀ q ∈ Q, RightL q.2 := fun q hq => (kind_right (by rw [← (hk q hq).2]; exact (hk q hq).1)).1; have hrj := hr.below hB; have Hk := Lib.hid hk; have Ho := Lib.hid ho; clear hi Hi hk ho; go_wp2_with fail; refine (beside_walk a cap Q _ hrj hQ hR).mono ?_; rintro e w2 ⟨hb2, ⟨hbp, G, rfl, hG⟩ | ⟨hbp, rfl⟩⟩
   ·
    have hB2 := bl_trans hB hb2; have Hbp := Lib.hid hbp; have hn0 : 0 < Q.length := Nat.pos_of_ne_zero H0.out; clear hbp hrj hB hr hR; have hwn := hb2.size; have hmk := run_make_row' (P := Tryz.prog) 78 4 (.bool false) 1 Tryz.underlying78 bool_info rfl .i64 .i64 Q.length (by omega) (by omega); clear hb2; have hrc0 : Row (w2.alloc (.cells (madeCells #[.bool false] Q.length) 4)) w2.heap.size 4 1 Q.length (List.replicate Q.length (.bool false)) := row_made w2 (.bool false) Q.length 4 (by unfold maxLen; omega); have hbA := bl_alloc w2 (.cells (madeCells #[.bool false] Q.length) 4); go_upto_region 15 with (fail)
    clear hmk; generalize w2.alloc (.cells (madeCells #[.bool false] Q.length) 4) = wM at hrc0 hbA ⊢; have f0 := hrc0.frozen 0; have c0 : wM.cell? ⟨w2.heap.size, 0, none⟩ = some (.bool false) := by
     rw [hrc0.cell? 0 (by simpa using hn0)]; simp [hn0]
    have hs1 : Row (wM.setCell ⟨w2.heap.size, 0, none⟩ (.bool true)) w2.heap.size 4 1 Q.length ((metV Q.length [0]).map Value.bool) := by
     have := hrc0.set 0 (.bool true); rw [← metV_zero, List.map_set, List.map_replicate]; exact this
    have hbs1 : Below w2.heap.size w2 (wM.setCell ⟨w2.heap.size, 0, none⟩ (.bool true)) := hbA.setCell (Nat.le_refl _) _; have hgl := hs1.lt; have hnI : (0 : Int) < (Q.length : Int) := by omega
    go_upto_region 16 with (fail)
    clear f0 c0 hrc0 hbA; generalize wM.setCell ⟨w2.heap.size, 0, none⟩ (.bool true) = wN at hs1 hbs1 hgl ⊢; have hl0 : Row (wN.alloc (.cells #[.int .i64 0] 3)) wN.heap.size 3 1 1 ([0].map vN) := row_lit wN ([0].map vN) 3 (by unfold maxLen; decide); have hs2 := hs1.alloc (.cells #[.int .i64 0] 3); have hbs2 := bl_trans hbs1 (bl_alloc wN (.cells #[.int .i64 0] 3)); have hgN : w2.heap.size < wN.heap.size := hgl; go_upto_region 18 with (fail)
    clear hs1 hbs1 hgl; go_loopg [9, 10] Q.length (fun r vo iv wj => ∃ (i : Nat) (L : List Nat), i + r = Q.length ∧ iv = .int .i64 i ∧ TrI (besQ Q) Q.length i L ∧ Row wj w2.heap.size 4 1 Q.length ((metV Q.length L).map Value.bool) ∧ Own wj vo 3 1 L.length (L.map vN) ∧ (∀ g, vo.ownBlock = some g → w2.heap.size < g) ∧ Below w2.heap.size w2 wj)
    case atStart => exact ⟨0, [0], by omega, rfl, TrI.start hn0, hs2, by simpa using hl0.own1, fun g hg => by cases hg; exact hgN, hbs2⟩
    case round =>
     clear hs2 hl0 hbs2; obtain ⟨i, L, hi, rfl, hT, hrow, hown, hyoung, hB⟩ := hrel; have hLn := hT.len; by_cases hil : i < L.length
     ·
      have hv : L[i]? = some L[i] := List.getElem?_eq_getElem hil; obtain ⟨v, hvv⟩ : ∃ v, v = L[i] := ⟨_, rfl⟩
      rw [← hvv] at hv; have hvn : v < Q.length := hT.lt v (List.mem_of_getElem? hv); rcases hown.2 with ⟨rfl, h0⟩ | ⟨g, cg, rfl, hcg, hrowL⟩
      · omega
      have cL : wr.cell? ⟨g, i, none⟩ = some (.int .i64 (v : Nat)) := by
       rw [hrowL.cell? i (by rw [List.length_map]; exact hil), List.getElem?_map, hv]; rfl
      obtain ⟨ab, cb, cG2, hbs⟩ := hG v hvn; have cG := keep_cell hB cG2; have i1 : (i : Int) < (L.length : Int) := by omega
      have i2 : (v : Int) < (Q.length : Int) := by omega
      have hbl : (besQ Q v).length ≤ 4000000 := besQ_len hQ (fun q hq => (kind_right (by rw [← (Hk.out q hq).2]; exact (Hk.out q hq).1)).1.1) v; obtain ⟨gko, hgko⟩ : ∃ g, g = gk := ⟨_, rfl⟩
      have Hgko := Lib.hid hgko; clear hgko; have Hi := Lib.hid hi; have HT := Lib.hid hT; have Hv := Lib.hid hv; clear hi hT hv hvv hrowL hcg; go_upto_region 21 with (fail)
      have hi12 : ∀ y ∈ (besQ Q v).take 0, y ∈ L := fun y hy => by simp at hy
      go_loopg [9, 76] (besQ Q v).length (fun r vo jv wj => ∃ (j : Nat) (L' : List Nat), j + r = (besQ Q v).length ∧ jv = .int .i64 j ∧ TrI (besQ Q) Q.length i L' ∧ L'[i]? = some v ∧ (∀ y ∈ (besQ Q v).take j, y ∈ L') ∧ Row wj w2.heap.size 4 1 Q.length ((metV Q.length L').map Value.bool) ∧ Own wj vo 3 1 L'.length (L'.map vN) ∧ (∀ g, vo.ownBlock = some g → w2.heap.size < g) ∧ Below w2.heap.size w2 wj)
      case atStart => exact ⟨0, L, by omega, rfl, HT.out, Hv.out, hi12, hrow, hown, hyoung, hB⟩
      case round =>
       clear hrow hown hyoung hi12 i1 i2 cL cG cG2; obtain ⟨j, L', hj, rfl, hT2, hv2, hall, hrow, hown, hyoung, hB3⟩ := hrel; have Hj := Lib.hid hj; have HT2 := Lib.hid hT2; have Hv2 := Lib.hid hv2; have Hall := Lib.hid hall; have hLn2 := hT2.len; clear hT2 hv2 hall; by_cases hjl : j < (besQ Q v).length
       ·
        clear hj; obtain ⟨x, hx⟩ : ∃ x, (besQ Q v)[j]? = some x := ⟨_, List.getElem?_eq_getElem hjl⟩
        have hxm : x ∈ besQ Q v := List.mem_of_getElem? hx; have hxn : x < Q.length := besQ_lt Hbp.out hxm; obtain ⟨bb, ob, hab, cX⟩ := (hbs.below hB3) j (vN x) (by rw [List.getElem?_map, hx]; rfl); subst hab; replace cX : wr.cell? ⟨bb, ob + j, none⟩ = some (.int .i64 (x : Nat)) := cX; have cM : wr.cell? ⟨w2.heap.size, x, none⟩ = some (.bool (decide (x ∈ L'))) := by
         rw [hrow.cell? x (by rw [List.length_map, metV_len]; exact hxn), List.getElem?_map, metV_get hxn]; rfl
        have htk : (besQ Q v).take (j + 1) = (besQ Q v).take j ++ [x] := by
         rw [List.take_add_one, hx]; rfl
        have Htk := Lib.hid htk; have i1 : (j : Int) < ((besQ Q v).length : Int) := by omega
        have i2 : (x : Int) < (Q.length : Int) := by omega
        have Hxm := Lib.hid hxm; clear htk hx hxm; by_cases hm : x ∈ L'
        ·
         have e6 : decide (x ∈ L') = true := decide_eq_true hm; rw [e6] at cM; have Hm := Lib.hid hm; clear hm e6; go_wp2_with fail; go_roundg (gk - 1)
         case measure => have := Hj.out; omega
         case rel => exact ⟨j + 1, L', by have := Hj.out; omega, by go_num, HT2.out, Hv2.out, fun y hy => (by
          rw [Htk.out, List.mem_append] at hy; rcases hy with hy | hy
          · exact Hall.out y hy
          · simp at hy; subst hy; exact Hm.out), hrow, hown, hyoung, hB3⟩
        ·
         have e6 : decide (x ∈ L') = false := decide_eq_false hm; rw [e6] at cM; have Hm := Lib.hid hm; clear hm e6; have fM := hrow.frozen x; have hrow1 : Row (wr.setCell ⟨w2.heap.size, x, none⟩ (.bool true)) w2.heap.size 4 1 Q.length ((metV Q.length (L' ++ [x])).map Value.bool) := by
          have := hrow.set x (.bool true); rw [← metV_set Hm.out, List.map_set]; exact this
         have hown1 : Own (wr.setCell ⟨w2.heap.size, x, none⟩ (.bool true)) u9 3 1 L'.length (L'.map vN) := hown.below fun g hg => Below.heap_setCell _ _ _ _ (by have := hyoung g hg; simp only; omega); have hB4 : Below w2.heap.size w2 (wr.setCell ⟨w2.heap.size, x, none⟩ (.bool true)) := hB3.setCell (Nat.le_refl _) _; have hu9 := hyoung; have Hyoung := Lib.hid hyoung; go_upto_region 25 with (fail)
         clear cM fM cX hrow hown hyoung hu9 hB3; generalize wr.setCell ⟨w2.heap.size, x, none⟩ (.bool true) = wS at hrow1 hown1 hB4 ⊢; go_upto_region 26 with (at_builtin; refine wpList_append_row _ rfl (.tmp 88) (.tmp 90) 33 rfl 3 (.int .i64 0) 1 8 Tryz.underlying33 int_info rfl u9 L'.length _ rfl (hown1.alloc _) ⟨wS.heap.size, 0, none⟩ 1 1 [.int .i64 (x : Nat)] rfl rfl (one_new (cell_new1 rfl)) (one_ok _ _) (by omega) (by unfold maxLen; omega) (by omega) ?_; intro g5 c5 w5 hr5 hc5 hg5 hor5)
         have hadd : addL L' x = L' ++ [x] := by unfold addL; rw [if_neg Hm.out]
         have hsS := hB4.size; have hgS := hrow1.lt; have hyg : w2.heap.size < g5 := by
          rcases hor5 with h | h
          · exact Hyoung.out g5 h
          · simp at h; omega
         have hrow2 := (hrow1.alloc (.cells #[.int .i64 (x : Nat)] 3)).grown hg5 (fun e => by have := Hyoung.out _ e; omega); have hown2 : Own w5 (.slice (some ⟨g5, 0, none⟩) (L' ++ [x]).length c5) 3 1 (L' ++ [x]).length ((L' ++ [x]).map vN) := by
          have h1 := hr5.own1; have e1 : L'.map vN ++ [Value.int .i64 (x : Int)] = (L' ++ [x]).map vN := by rw [List.map_append]; rfl
          rw [e1] at h1; simpa using h1
         have hB5 : Below w2.heap.size w2 w5 := (bl_trans hB4 (bl_alloc wS (.cells #[.int .i64 (x : Nat)] 3))).grown hg5 (by simp; omega) (fun k hk => by have := Hyoung.out k hk; omega); have hT3 := HT2.out.add Hv2.out Hxm.out hxn; rw [hadd] at hT3; have hv3 : (L' ++ [x])[i]? = some v := by rw [← hadd]; exact addL_at Hv2.out
         rw [List.length_append, List.length_singleton] at hown2; clear hr5 hg5 hor5 hrow1 hown1 hB4; go_wp2_with fail; go_roundg (gk - 1)
         case measure => have := Hj.out; omega
         case rel => exact ⟨j + 1, L' ++ [x], by have := Hj.out; omega, by go_num, hT3, hv3, fun y hy => (by
          rw [Htk.out, List.mem_append] at hy; rcases hy with hy | hy
          · exact List.mem_append_left _ (Hall.out y hy)
          · exact List.mem_append_right _ hy), hrow2, by rw [List.length_append, List.length_singleton]; exact hown2, fun k hk => by cases hk; exact hyg, hB5⟩
       ·
        have hjn : j = (besQ Q v).length := by omega
        subst hjn; have hall2 : ∀ y ∈ besQ Q v, y ∈ L' := by
         have := Hall.out; rw [List.take_length] at this; exact this
        have Hall2 := Lib.hid hall2; clear hall2 hj; go_wp2_with fail; go_roundg (gko - 1)
        case measure => have := Hi.out; have := Hgko.out; omega
        case rel => exact ⟨i + 1, L', by have := Hi.out; have := Hgko.out; omega, by go_num, HT2.out.next Hv2.out Hall2.out, hrow, hown, hyoung, hB3⟩
     ·
      have hiL : i = L.length := by have := hT.il; omega
      subst hiL; have hd := hT.done; rw [← con_bes Hbp.out] at hd; obtain ⟨a9, c9, hvo⟩ : ∃ a c, u9 = Value.slice a L.length c := by
       rcases hown.2 with ⟨rfl, h0⟩ | ⟨g, cg, rfl, hcg, _⟩
       · exact ⟨none, 0, by rw [h0]⟩
       · exact ⟨_, _, rfl⟩
      have hGr := hG.below hB; clear hown hrow hyoung hG; subst hvo; by_cases hn : L.length = Q.length
      ·
       have hright : RightQ Q := ⟨fun h => by rw [h] at hn0; exact absurd hn0 (by simp), Hk.out, Ho.out, Hbp.out, hd.1 hn⟩
       have Hright := Lib.hid hright; have e5 : ((L.length : Int) == (Q.length : Int)) = true := by simp; omega
       clear hright hd; go_wp2_with fail; go_ret2; exact ⟨bl_trans hB2 hB, .inl ⟨Hright.out, _, rfl, hGr⟩⟩
      ·
       have hbad : ¬ RightQ Q := fun h => hn (hd.2 h.con); have Hbad := Lib.hid hbad; have e5 : ((L.length : Int) == (Q.length : Int)) = false := by simp; omega
       clear hbad hd; go_wp2_with fail; go_ret2; exact ⟨bl_trans hB2 hB, .inr ⟨Hbad.out, _, rfl⟩⟩
   ·
    have hbad : ¬ RightQ Q := fun h => hbp h.bes; have Hbad := Lib.hid hbad; clear hbad hbp; go_wp2_with fail; go_ret2; exact ⟨bl_trans hB hb2, .inr ⟨Hbad.out, _, rfl⟩⟩
end Go.Proofs.YtagcbnpahgfgmaaGreat
namespace Go.Proofs.YtagcbnpahgfgmaaGreat
open Go Go.RowKit Go.Sort
def GrN (w w' : World) : Prop := ∃ (q : Nat) (os : Array Obj), w' = grow (w.drewN q) os
theorem gr_refl (w : World) : GrN w w := ⟨0, #[], by cases w; simp [grow, World.drewN]⟩
theorem gr_alloc (w : World) (o : Obj) : GrN w (w.alloc o) := ⟨0, #[o], by rw [alloc_eq_grow]; cases w; simp [grow, World.drewN]⟩
theorem gr_trans {a b c : World} (h : GrN a b) (k : GrN b c) : GrN a c := by
 obtain ⟨q, os, rfl⟩ := h
 obtain ⟨q2, os2, rfl⟩ := k
 exact ⟨q + q2, os ++ os2, by cases a; simp [grow, World.drewN, Nat.add_assoc]⟩
theorem GrN.below {w w' : World} (h : GrN w w') : Below w.heap.size w w' := by
 obtain ⟨q, os, rfl⟩ := h
 refine ⟨rfl, rfl, rfl, by simp [grow, World.drewN], fun k hk => ?_⟩
 show (w.heap ++ os)[k]? = _
 rw [Array.getElem?_append_left hk]
def RetG (w : World) (z : Int) (e : Ending) (w' : World) : Prop := e = .returned (.int .i64 z) ∧ GrN w w'
set_option maxHeartbeats 1000000 in
theorem cmp1_walkG (x y : Lk) (w : World) :
  Calls Tryz.prog 78 #[.agg #[.int .i64 x.1, .int .i64 x.2.1, .int .i64 x.2.2], .agg #[.int .i64 y.1, .int .i64 y.2.1, .int .i64 y.2.2]] w (RetG w (cmpL x y)) := by
 have hpe := fun w => lk_eq x y w
 unfold lkV at hpe
 obtain ⟨x1, x2, x3⟩ := x
 obtain ⟨y1, y2, y3⟩ := y
 simp only at hpe ⊢
 have hgt : Tryz.prog.eqGuardType Tryz.prog.depth 38 = false := by kernel_rfl
 have hB := gr_trans (gr_alloc w (.cells #[.int .i64 x1, .int .i64 x2, .int .i64 x3] 38)) (gr_alloc _ (.cells #[.int .i64 y1, .int .i64 y2, .int .i64 y3] 38))
 obtain ⟨z, hz⟩ : ∃ z, z = cmpL (x1, x2, x3) (y1, y2, y3) := ⟨_, rfl⟩
 rw [← hz]
 by_cases he : ((x1, x2, x3) : Lk) = (y1, y2, y3)
 ·
  rw [decide_eq_true he] at hpe
  have h0 := cmpL_zero.2 he
  rw [← hz] at h0
  clear he hz
  subst h0
  go_enter Tryz.func78, Tryz.ntmps78
  go_wp2_with fail
  go_ret
  exact ⟨rfl, hB⟩
 ·
  rw [decide_eq_false he] at hpe
  unfold cmpL orI at hz
  simp only at hz
  by_cases h1 : x1 = y1
  ·
   have k1 : (x1 != y1) = false := by simpa using h1
   by_cases h2 : x2 = y2
   ·
    have k2 : (x2 != y2) = false := by simpa using h2
    have hc : z = cmpI x3 y3 := by
     rw [hz, if_pos (by unfold cmpI; rw [h1]; simp), if_pos (by unfold cmpI; rw [h2]; simp)]
    clear hz he; have Hc := Lib.hid hc; have H1 := Lib.hid h1; have H2 := Lib.hid h2; clear hc h1 h2; go_enter Tryz.func78, Tryz.ntmps78; go_wp2_with (go_at_call 79; refine (compare_any _ _ _).mono ?_; rintro e w' ⟨rfl, rfl⟩); go_ret; exact ⟨by rw [Hc.out] <;> rfl, hB⟩
   ·
    have k2 : (x2 != y2) = true := by simpa using h2
    have hc : z = cmpI x2 y2 := by
     rw [hz, if_pos (by unfold cmpI; rw [h1]; simp), if_neg (by unfold cmpI; split <;> (try split) <;> omega)]
    clear hz he; have Hc := Lib.hid hc; have H1 := Lib.hid h1; clear hc h1 h2; go_enter Tryz.func78, Tryz.ntmps78; go_wp2_with (go_at_call 79; refine (compare_any _ _ _).mono ?_; rintro e w' ⟨rfl, rfl⟩); go_ret; exact ⟨by rw [Hc.out] <;> rfl, hB⟩
  ·
   have k1 : (x1 != y1) = true := by simpa using h1
   have hc : z = cmpI x1 y1 := by
    rw [hz, if_neg (by unfold cmpI; split <;> (try split) <;> omega)]
   clear hz he; have Hc := Lib.hid hc; clear hc h1; go_enter Tryz.func78, Tryz.ntmps78; go_wp2_with (go_at_call 79; refine (compare_any _ _ _).mono ?_; rintro e w' ⟨rfl, rfl⟩); go_ret; exact ⟨by rw [Hc.out] <;> rfl, hB⟩
set_option maxRecDepth 100000 in
set_option maxHeartbeats 4000000 in
theorem compareF_walkG (a b : Option Addr) (ca cb : Nat) (x y : List Lk) (w : World) (hx : RdL w a x) (hy : RdL w b y) (hxl : x.length ≤ 9223372036854775807) (hyl : y.length ≤ 9223372036854775807) :
  Calls Tryz.prog 77 #[.slice a x.length ca, .slice b y.length cb, .func (.func 78) #[] #[]] w (RetG w (cmpLs x y)) := by
 obtain ⟨z, hz⟩ : ∃ z, z = cmpLs x y := ⟨_, rfl⟩
 rw [← hz]
 have Hz := Lib.hid hz; clear hz
 go_enter Tryz.func77, Tryz.ntmps77
 go_wp2_with fail
 go_loopg [13] x.length (fun r iv wj => ∃ i : Nat, i + r = x.length ∧ i ≤ y.length ∧ iv = .int .i64 i ∧ cmpLs (x.drop i) (y.drop i) = cmpLs x y ∧ GrN w wj)
 case atStart => exact ⟨0, by omega, by omega, rfl, rfl, gr_refl _⟩
 case round =>
  obtain ⟨i, hi, hiy, rfl, hst, hb⟩ := hrel
  have Hi := Lib.hid hi
  by_cases hil : i < x.length
  ·
   clear hi; have hst' := hst; obtain ⟨b1, o1, rfl, p0, p1, p2⟩ := (hx.below hb.below).at i hil; by_cases hly : i < y.length
   ·
    obtain ⟨b2, o2, rfl, q0, q1, q2⟩ := (hy.below hb.below).at i hly; rw [cmpLs_at hil hly] at hst; obtain ⟨⟨x1, x2, x3⟩, hxe⟩ : ∃ u : Lk, x[i] = u := ⟨_, rfl⟩
    obtain ⟨⟨y1, y2, y3⟩, hye⟩ : ∃ u : Lk, y[i] = u := ⟨_, rfl⟩
    rw [hxe] at p0 p1 p2 hst; rw [hye] at q0 q1 q2 hst; simp only at p0 p1 p2 q0 q1 q2; have g0 : decide ((y.length : Int) ≤ (i : Int)) = false := by simp; omega
    have g0' : decide (y.length ≤ i) = false := by simp; omega
    have hba := bl_alloc wr (.cells #[.int .i64 x1, .int .i64 x2, .int .i64 x3] 38); have q0' := keep_cell hba q0; have q1' := keep_cell hba q1; have q2' := keep_cell hba q2; have i2 : (i : Int) < (y.length : Int) := by omega
    have Hst := Lib.hid hst; obtain ⟨c, hc⟩ : ∃ c, c = cmpL (x1, x2, x3) (y1, y2, y3) := ⟨_, rfl⟩
    have Hc := Lib.hid hc; clear hxe hye hst hst' hba q0 q1 q2 hc; go_wp2_with fail; refine (cmp1_walkG (x1, x2, x3) (y1, y2, y3) _).mono ?_; rw [← Hc.out]; rintro e w2 ⟨rfl, hb2⟩; have hB := gr_trans hb (gr_trans (gr_trans (gr_alloc _ _) (gr_alloc _ _)) hb2); by_cases h0 : c = 0
    ·
     have k0 : (c != 0) = false := by simpa using h0
     have hnx : cmpLs (x.drop (i + 1)) (y.drop (i + 1)) = cmpLs x y := by rw [← Hst.out, if_pos (by rw [← Hc.out]; exact h0)]
     have Hnx := Lib.hid hnx; clear h0 hnx; go_wp2_with fail; go_roundg (gk - 1)
     case measure => have := Hi.out; omega
     case rel => exact ⟨i + 1, by have := Hi.out; omega, by omega, by go_num, Hnx.out, hB⟩
    ·
     have k0 : (c != 0) = true := by simpa using h0
     have hfin : z = c := by rw [Hz.out, ← Hst.out, if_neg (by rw [← Hc.out]; exact h0), ← Hc.out]
     have Hfin := Lib.hid hfin; clear h0 hfin; go_wp2_with fail; go_ret; exact ⟨by rw [Hfin.out] <;> rfl, hB⟩
   ·
    have hiy2 : i = y.length := by omega
    subst hiy2; have hfin : z = 1 := by
     rw [Hz.out, ← hst', List.drop_eq_getElem_cons hil, List.drop_eq_nil_of_le (Nat.le_refl _)]; rfl
    subst hfin; obtain ⟨⟨x1, x2, x3⟩, hxe⟩ : ∃ u : Lk, x[y.length] = u := ⟨_, rfl⟩
    rw [hxe] at p0 p1 p2; simp only at p0 p1 p2; clear hst hst' hxe hly; go_wp2_with fail; go_ret; exact ⟨rfl, gr_trans hb (gr_alloc _ _)⟩
  ·
   have hin : i = x.length := by omega
   subst hin; clear hi; rw [List.drop_eq_nil_of_le (Nat.le_refl x.length)] at hst; by_cases hly : x.length < y.length
   ·
    have hfin : z = -1 := by
     rw [Hz.out, ← hst, List.drop_eq_getElem_cons hly]; rfl
    have k1 : decide ((x.length : Int) < (y.length : Int)) = true := by simp; omega
    have k2 : decide (x.length < y.length) = true := by simp; omega
    subst hfin; clear hst hly; go_wp2_with fail; go_ret; exact ⟨rfl, hb⟩
   ·
    have hfin : z = 0 := by
     rw [Hz.out, ← hst, List.drop_eq_nil_of_le (by omega)]; rfl
    have k1 : decide ((x.length : Int) < (y.length : Int)) = false := by simp; omega
    have k2 : decide (x.length < y.length) = false := by simp; omega
    subst hfin; clear hst hly; go_wp2_with fail; go_ret; exact ⟨rfl, hb⟩
theorem compareP_walkG (a b : Option Addr) (ca cb : Nat) (x y : List Lk) (w : World) (hx : RdL w a x) (hy : RdL w b y) (hxl : x.length ≤ 9223372036854775807) (hyl : y.length ≤ 9223372036854775807) :
  Calls Tryz.prog 39 #[.slice a x.length ca, .slice b y.length cb] w (RetG w (cmpLs x y)) := by
 go_enter Tryz.func39, Tryz.ntmps39
 go_wp2_with fail
 refine (compareF_walkG a b ca cb x y _ hx hy hxl hyl).mono ?_
 rintro e w1 ⟨rfl, hb1⟩
 go_wp2_with fail
 go_ret
 exact ⟨rfl, hb1⟩
end Go.Proofs.YtagcbnpahgfgmaaGreat
namespace Go.Proofs.YtagcbnpahgfgmaaGreat
open Go Go.RowKit Go.Sort Go.Maps
open Classical in
noncomputable def rightB (Q : List Pt) : Bool := decide (RightQ Q)
theorem rightB_iff {Q : List Pt} : rightB Q = true ↔ RightQ Q := by unfold rightB; simp
theorem rightB_not {Q : List Pt} : rightB Q = false ↔ ¬ RightQ Q := by unfold rightB; simp
def realQ (Q : List Pt) : List Lk := Q.flatMap fun q => q.2.filter fun e => e.2.2 == 0
noncomputable def wholeL (Q : List Pt) : List Lk := if rightB Q then sortL (realQ Q) else []
noncomputable def besideL (Q : List Pt) (i : Int) : List Nat := if 0 ≤ i ∧ i < Q.length ∧ rightB Q = true then besQ Q i.toNat else []
def RetBo (w : World) (b : Bool) (e : Ending) (w' : World) : Prop := e = .returned (.bool b) ∧ Below w.heap.size w w'
theorem sright_walk (a : Option Addr) (cap : Nat) (Q : List Pt) (w : World) (hr : RdQ w a Q) (hQ : Q.length ≤ 1000) :
  Calls Tryz.prog 10 #[.slice a Q.length cap] w (RetBo w (rightB Q)) := by
 go_enter Tryz.func10, Tryz.ntmps10
 go_wp2_with fail
 refine (tree_walk a cap Q _ hr hQ).mono ?_
 rintro e w' ⟨hb, ⟨hR, G, rfl, hG⟩ | ⟨hR, v, rfl⟩⟩
 ·
  have h1 := rightB_iff.2 hR
  clear hR hG
  go_wp2_with fail
  go_ret
  exact ⟨by rw [h1] <;> rfl, hb⟩
 ·
  have h1 := rightB_not.2 hR
  clear hR
  go_wp2_with fail
  go_ret
  exact ⟨by rw [h1] <;> rfl, hb⟩
theorem cells_lit {w : World} {x : Lk} {t : TypeId} : RdL (w.alloc (.cells #[.int .i64 x.1, .int .i64 x.2.1, .int .i64 x.2.2] t)) (some ⟨w.heap.size, 0, none⟩) [x] := by
 intro i u hu
 refine ⟨w.heap.size, 0, rfl, ?_⟩
 match i with
 | 0 => simp [lkCells] at hu; subst hu; simp
 | 1 => simp [lkCells] at hu; subst hu; simp
 | 2 => simp [lkCells] at hu; subst hu; simp
 | i + 3 => simp [lkCells] at hu
theorem cmpLs_one (x y : Lk) : cmpLs [x] [y] = cmpL x y := by
 by_cases h : cmpL x y = 0
 · simp [cmpLs, orI, h]
 · simp [cmpLs, orI, h]
theorem whole1_walk (x y : Lk) (w : World) :
  Calls Tryz.prog 43 #[lkV x, lkV y] w
   fun e w' => e = .returned (.int .i64 (cmpL x y)) ∧ ∃ q os, w' = grow (w.drewN q) os := by
 have hcon := fun w' a b hx hy => compareP_walkG a b 1 1 [x] [y] w' hx hy (by simp) (by simp)
 rw [cmpLs_one] at hcon
 have hlx := fun (w : World) => cells_lit (w := w) (x := x) (t := 38)
 have hly := fun (w : World) => cells_lit (w := w) (x := y) (t := 38)
 unfold lkV
 generalize cmpL x y = r at hcon ⊢
 obtain ⟨x1, x2, x3⟩ := x
 obtain ⟨y1, y2, y3⟩ := y
 simp only [List.length_singleton] at hcon hlx hly ⊢
 have Hcon := Lib.hid hcon; have Hlx := Lib.hid hlx; have Hly := Lib.hid hly
 clear hcon hlx hly
 go_enter Tryz.func43, Tryz.ntmps43
 go_wp2_with fail
 have hx2 : RdL ((((w.alloc (.cells #[.int .i64 x1, .int .i64 x2, .int .i64 x3] 38)).alloc (.cells #[.int .i64 y1, .int .i64 y2, .int .i64 y3] 38)).alloc (.cells #[.int .i64 x1, .int .i64 x2, .int .i64 x3] 38)).alloc (.cells #[.int .i64 y1, .int .i64 y2, .int .i64 y3] 38)) (some ⟨w.heap.size + 1 + 1, 0, none⟩) [(x1, x2, x3)] := by
  have := (Hlx.out ((w.alloc (.cells #[.int .i64 x1, .int .i64 x2, .int .i64 x3] 38)).alloc (.cells #[.int .i64 y1, .int .i64 y2, .int .i64 y3] 38))).below (bl_alloc _ (.cells #[.int .i64 y1, .int .i64 y2, .int .i64 y3] 38))
  simpa using this
 have hy2 : RdL ((((w.alloc (.cells #[.int .i64 x1, .int .i64 x2, .int .i64 x3] 38)).alloc (.cells #[.int .i64 y1, .int .i64 y2, .int .i64 y3] 38)).alloc (.cells #[.int .i64 x1, .int .i64 x2, .int .i64 x3] 38)).alloc (.cells #[.int .i64 y1, .int .i64 y2, .int .i64 y3] 38)) (some ⟨w.heap.size + 1 + 1 + 1, 0, none⟩) [(y1, y2, y3)] := by
  have := Hly.out (((w.alloc (.cells #[.int .i64 x1, .int .i64 x2, .int .i64 x3] 38)).alloc (.cells #[.int .i64 y1, .int .i64 y2, .int .i64 y3] 38)).alloc (.cells #[.int .i64 x1, .int .i64 x2, .int .i64 x3] 38))
  simpa using this
 have hgr := gr_trans (gr_trans (gr_trans (gr_alloc w (.cells #[.int .i64 x1, .int .i64 x2, .int .i64 x3] 38)) (gr_alloc _ (.cells #[.int .i64 y1, .int .i64 y2, .int .i64 y3] 38))) (gr_alloc _ (.cells #[.int .i64 x1, .int .i64 x2, .int .i64 x3] 38))) (gr_alloc _ (.cells #[.int .i64 y1, .int .i64 y2, .int .i64 y3] 38))
 refine (Hcon.out _ _ _ hx2 hy2).mono ?_
 rintro e w' ⟨rfl, hg⟩
 have hg2 := gr_trans hgr hg
 clear hgr hx2 hy2 hg
 go_wp2_with fail
 go_ret
 exact ⟨rfl, hg2⟩
theorem sortW_walk (g cap : Nat) (ls : List Lk) (w : World) (h : Row w g 38 3 cap (lkCells ls)) (hsz : ls.length ≤ 1000000) :
  Calls Tryz.prog 42 #[.slice (some ⟨g, 0, none⟩) ls.length cap, .func (.func 43) #[] #[]] w
   fun e w' => e = .returned (.tuple #[]) ∧ Row w' g 38 3 cap (lkCells (ls.mergeSort fun x y => !decide (cmpL y x < 0))) ∧ w.grownBy w' (some g) := by
 have eg : ∀ args w, (callFunc 43 args).run Tryz.prog w = .ok (.enter 43 args) w := enters_of Tryz.func43 (by kernel_rfl) rfl
 have hcon := AnyQ.slices_SortFunc_total Tryz.laySortL 3 Tryz.isAgg38 Tryz.sizeOf38 lkEnc (fun _ => rfl) (fun x v hv => by simp [lkEnc] at hv; rcases hv with rfl | rfl | rfl <;> rfl) cmpL swo_cmpL 43 #[] g 0 cap ls.toArray w eg
  (fun _ _ _ _ x y => whole1_walk x y _) h.holdsK h.lt (by simp; omega) (fun x y h1 h2 => by rw [ltOf_cmpL] at h1 h2; simp only [decide_eq_false_iff_not] at h1 h2; exact LtL.total x y h1 h2)
 change Calls Tryz.prog 42 _ _ _ at hcon
 simp only [List.size_toArray] at hcon
 refine hcon.mono ?_
 rintro e w' ⟨rfl, n, os, rfl⟩
 have := h.sortedK (n := n) (os := os) (ts := ls.mergeSort fun x y => !ltOf cmpL y x) (by simp)
 exact ⟨rfl, this⟩
theorem swap_ok {ls : List Lk} (h : ∀ k ∈ ls, k.1 < k.2.1) : ls.map swapL = ls := by
 conv => rhs; rw [← List.map_id ls]
 refine List.map_congr_left fun k hk => ?_
 have := h k hk
 unfold swapL
 rw [if_neg (by omega)]; rfl
theorem realQ_take {Q : List Pt} {i : Nat} {q : Pt} (h : Q[i]? = some q) : realQ (Q.take (i + 1)) = realQ (Q.take i) ++ q.2.filter fun e => e.2.2 == 0 := by
 obtain ⟨hi, rfl⟩ := List.getElem?_eq_some_iff.1 h
 unfold realQ
 rw [List.take_succ_eq_append_getElem hi, List.flatMap_append]
 simp
theorem realQ_len {Q : List Pt} (hR : ∀ q ∈ Q, q.2.length ≤ 1000) : (realQ Q).length ≤ Q.length * 1000 := by
 induction Q with
 | nil => simp [realQ]
 | cons q Q ih =>
  have h1 := ih fun x hx => hR x (List.mem_cons_of_mem _ hx)
  have h2 := hR q (by simp)
  have h3 := List.length_filter_le (fun e : Lk => e.2.2 == 0) q.2
  unfold realQ at h1 ⊢
  rw [List.flatMap_cons, List.length_append, List.length_cons, Nat.succ_mul]
  omega
end Go.Proofs.YtagcbnpahgfgmaaGreat
