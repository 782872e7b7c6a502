/- WalkPath returns true at every input, and leaves its arguments alone. No condition. -/
import Derived.Test.YtddndhhhmlcgjaaThere
import Derived.Test.YtddndhhhmlcgjaaRow
import Derived.Test.YtddndhhhmlcgjaaPath
import Derived.Test.YtddndhhhmlcgjaaPathQ
namespace Go.Proofs.Ytddndhhhmlcgjaa
open Go Go.RowKit

set_option maxRecDepth 100000 in
set_option maxHeartbeats 4000000 in
theorem walkPath_walk (n : Int) (a : Option Addr) (cap : Nat) (es : List (Int × Int)) (x y : Int) (w : World) (hr : RdP w a es) (hl : es.length ≤ cap) (hm : cap ≤ maxLen) (wn : (Lit.int .i64 n).wf = true) (wx : (Lit.int .i64 x).wf = true) (wy : (Lit.int .i64 y).wf = true) :
    Calls Try.prog 9 #[.agg #[.int .i64 n, .slice a es.length cap], .int .i64 x, .int .i64 y] w (RetT w true) := by
  have hcap : es.length ≤ 9223372036854775807 := by unfold maxLen at hm; omega
  clear wn wx wy hm hl
  cases hth : thereB n es [x, y] with
  | false =>
    have Hth := Lib.hid hth; clear hth
    go_enter Try.func9, Try.ntmps9
    go_wp2_with fail
    refine (there_walk n a cap es _ [x, y] 2 _ ((hr.below (bl_alloc _ _)).below (bl_alloc _ _)) (rdI_two (by simp) (by simp)) hcap (by simp)).mono ?_
    rw [Hth.out]
    rintro e w1 ⟨rfl, hb1⟩
    have hB1 : Below w.heap.size w w1 := bl_trans (bl_trans (bl_alloc _ _) (bl_alloc _ _)) hb1
    go_wp2_with (go_at_call 10; refine (awake_walk _).mono ?_; rintro e w2 ⟨rfl, hb2⟩)
    go_ret
    exact ⟨rfl, bl_trans hB1 hb2⟩
  | true =>
    obtain ⟨hright, hin, h60⟩ := there_say hth
    obtain ⟨hx0, hx1⟩ := hin x (by simp)
    obtain ⟨hy0, hy1⟩ := hin y (by simp)
    obtain ⟨m, rfl⟩ : ∃ m : Nat, n = m := ⟨n.toNat, by omega⟩
    obtain ⟨s, rfl⟩ : ∃ s : Nat, x = s := ⟨x.toNat, by omega⟩
    obtain ⟨t, rfl⟩ : ∃ t : Nat, y = t := ⟨y.toNat, by omega⟩
    have hsm : s < m := by omega
    have htm : t < m := by omega
    have hdt := away_dist hright htm
    obtain ⟨z, hz⟩ : ∃ z, (awayL (besideL m es) t)[s]? = some z := ⟨(awayL (besideL m es) t)[s]'(by rw [hdt.len]; exact hsm), by simp⟩
    have vz := hdt.val s z hz
    have hgood : ∀ k : Nat, z = (k : Int) → _ := fun k hk => path_good hright htm (st := s) (x := k) (by rw [hz, hk])
    have hz0 : (awayL (besideL m es) t).getD s 0 = z := by simp [List.getD, hz]
    obtain ⟨p, hp⟩ : ∃ p, p = pathL (besideL m es) s t := ⟨_, rfl⟩
    obtain ⟨d, hd⟩ : ∃ d, d = awayL (besideL m es) t := ⟨_, rfl⟩
    rw [← hp, ← hd] at hgood
    rw [← hd] at hdt hz hz0
    have hdl := hdt.len
    have hri1 : inR (m : Int) (s : Int) = true := (inR_iff _ _).2 ⟨by omega, by omega⟩
    have hri2 : inR (m : Int) (t : Int) = true := (inR_iff _ _).2 ⟨by omega, by omega⟩
    have Hth := Lib.hid hth; have Hr := Lib.hid hright; have Hdt := Lib.hid hdt; have Hd := Lib.hid hd; have Hp := Lib.hid hp; have Hz := Lib.hid hz; have Hz0 := Lib.hid hz0; have Hdl := Lib.hid hdl; have Hgood := Lib.hid hgood
    have Hi1 := Lib.hid hri1; have Hi2 := Lib.hid hri2
    clear hth hright hdt hd hp hz hz0 hdl hin hri1 hri2 hgood
    go_enter Try.func9, Try.ntmps9
    go_wp2_with fail
    refine (there_walk m a cap es _ [(s : Int), (t : Int)] 2 _ ((hr.below (bl_alloc _ _)).below (bl_alloc _ _)) (rdI_two (by simp) (by simp)) hcap (by simp)).mono ?_
    rw [Hth.out]
    rintro e w1 ⟨rfl, hb1⟩
    have hB1 : Below w.heap.size w w1 := bl_trans (bl_trans (bl_alloc _ _) (bl_alloc _ _)) hb1
    have c0 : w1.cell? ⟨w.heap.size, 0, none⟩ = some (.int .i64 m) := keep_cell hb1 (keep_cell (bl_alloc _ _) (by simp))
    have c1 : w1.cell? ⟨w.heap.size, 1, none⟩ = some (.slice a es.length cap) := keep_cell hb1 (keep_cell (bl_alloc _ _) (by simp))
    have sz1 : w.heap.size < w1.heap.size := by have := hb1.size; simp at this; omega
    clear hb1
    go_wp2_with fail
    refine (pathFn_walk m a cap es s t _ (hr.below hB1) hcap).mono ?_
    rintro e w2 ⟨hb2, hcase⟩
    rcases hcase with ⟨h1, _⟩ | ⟨_, h1, _⟩ | ⟨_, _, _, hneg, rfl⟩ | ⟨_, _, _, hpos, gp, cp, rfl, hrp, hgp⟩
    · exact absurd Hr.out (by rw [h1]; simp)
    · exact absurd h1 (by rw [Hi1.out, Hi2.out]; simp)
    · simp only [Int.toNat_natCast] at hneg
      rw [← Hd.out, Hz0.out] at hneg
      have hB2 := bl_trans hB1 hb2
      replace c0 := keep_cell hb2 c0; replace c1 := keep_cell hb2 c1
      have sz2 : w.heap.size < w2.heap.size := by have := hb2.size; omega
      clear hb2
      go_wp2_with fail
      refine (awayFn_walk m a cap es t _ (hr.below hB2) hcap).mono ?_
      rintro e w3 ⟨hb3, hcase⟩
      rcases hcase with ⟨h1, _⟩ | ⟨_, h1, _⟩ | ⟨_, _, gd, cd, rfl, hrd, hgd⟩
      · exact absurd Hr.out (by rw [h1]; simp)
      · exact absurd Hi2.out (by rw [h1]; simp)
      simp only [Int.toNat_natCast] at hrd ⊢
      rw [← Hd.out] at hrd ⊢
      have hB3 := bl_trans hB2 hb3
      replace c0 := keep_cell hb3 c0; replace c1 := keep_cell hb3 c1
      have sz3 : w.heap.size < w3.heap.size := by have := hb3.size; omega
      clear hb3 sz1 sz2
      have l1 : ((d.length : Int) != (m : Int)) = false := by rw [Hdl.out]; simp
      have ld : (s : Int) < (d.length : Int) := by rw [Hdl.out]; omega
      have e1 : w3.cell? ⟨gd, s, none⟩ = some (.int .i64 z) := by rw [hrd.cell? s (by simp [Hdl.out]; omega)]; simp [Hz.out]
      have g1 : decide (z < 0) = true := by simpa using hneg
      go_wp2_with (go_at_call 10; refine (awake_walk _).mono ?_; rintro e w4 ⟨rfl, hb4⟩)
      go_ret
      exact ⟨rfl, bl_trans hB3 hb4⟩
    · simp only [Int.toNat_natCast] at hpos hrp ⊢
      rw [← Hd.out, Hz0.out] at hpos
      rw [← Hp.out] at hrp ⊢
      obtain ⟨k, rfl⟩ := Int.eq_ofNat_of_zero_le hpos
      obtain ⟨hgw, hpl, hp0, hpk⟩ := Hgood.out k rfl
      have hkm : k < m := by rcases vz with h | h <;> omega
      have hB2 := bl_trans hB1 hb2
      replace c0 := keep_cell hb2 c0; replace c1 := keep_cell hb2 c1
      have sz2 : w.heap.size < w2.heap.size := by have := hb2.size; omega
      rw [hpl]
      have Hgw := Lib.hid hgw; have Hpl := Lib.hid hpl; have Hp0 := Lib.hid hp0; have Hpk := Lib.hid hpk
      clear hb2 hgw hpl hp0 hpk Hgood
      go_wp2_with fail
      refine (awayFn_walk m a cap es t _ (hr.below hB2) hcap).mono ?_
      rintro e w3 ⟨hb3, hcase⟩
      rcases hcase with ⟨h1, _⟩ | ⟨_, h1, _⟩ | ⟨_, _, gd, cd, rfl, hrd, hgd⟩
      · exact absurd Hr.out (by rw [h1]; simp)
      · exact absurd Hi2.out (by rw [h1]; simp)
      simp only [Int.toNat_natCast] at hrd ⊢
      rw [← Hd.out] at hrd ⊢
      have hB3 := bl_trans hB2 hb3
      replace c0 := keep_cell hb3 c0; replace c1 := keep_cell hb3 c1
      replace hrp := hrp.below hb3 hrp.lt
      have sz3 : w.heap.size < w3.heap.size := by have := hb3.size; omega
      clear hb3 sz1 sz2
      have l1 : ((d.length : Int) != (m : Int)) = false := by rw [Hdl.out]; simp
      have ld : (s : Int) < (d.length : Int) := by rw [Hdl.out]; omega
      have e1 : w3.cell? ⟨gd, s, none⟩ = some (.int .i64 k) := by rw [hrd.cell? s (by simp [Hdl.out]; omega)]; simp [Hz.out]
      have e2 : w3.cell? ⟨gp, 0, none⟩ = some (.int .i64 s) := by rw [hrp.cell? 0 (by simp [Hpl.out])]; simp [Hp0.out, vN]
      have e3 : w3.cell? ⟨gp, k, none⟩ = some (.int .i64 t) := by rw [hrp.cell? k (by simp [Hpl.out])]; simp [Hpk.out, vN]
      have hwk : IntKind.i64.wrap (((k + 1 : Nat) : Int) - 1) = (k : Int) := by rw [show (((k + 1 : Nat) : Int) - 1) = k by omega]; exact IntWalk.i64_in _ (by omega)
      have g1 : decide ((k : Int) < 0) = false := by simp
      go_wp2_with fail
      go_loopg [11] k (fun r v wr => ∃ (j : Nat), v = .int .i64 ((j : Int) + 1) ∧ j + r = k ∧ Below w3.heap.size w3 wr)
      case atStart => exact ⟨0, by simp, by omega, bl_refl _⟩
      case round =>
        obtain ⟨j, rfl, hgk, hb⟩ := hrel
        have hB5 := bl_trans hB3 hb
        by_cases hlt : j < k
        · obtain ⟨u, hu⟩ : ∃ u, p[j]? = some u := ⟨p[j]'(by rw [Hpl.out]; omega), by simp⟩
          obtain ⟨v, hv⟩ : ∃ v, p[j+1]? = some v := ⟨p[j+1]'(by rw [Hpl.out]; omega), by simp⟩
          have hnx := Hgw.out j u v hu hv
          have hsome : ∀ u : Nat, nxt (besideL m es) d u = some v → u < m := fun u h => by
            rcases Nat.lt_or_ge u m with h1 | h1
            · exact h1
            · have := (nxt_some h).1; simp [List.getD, besideL_get, show ¬ u < m by omega] at this
          have hum := hsome u hnx
          obtain ⟨n1, n2, n3⟩ := nxt_least Hr.out hum hnx
          have hvm : v < m := by have := beside_lt Hr.out u hum v (by rw [beside_getD hum]; exact n1); exact this
          obtain ⟨du, hdu⟩ : ∃ du, d[u]? = some du := ⟨d[u]'(by rw [Hdl.out]; exact hum), by simp⟩
          obtain ⟨dv, hdv⟩ : ∃ dv, d[v]? = some dv := ⟨d[v]'(by rw [Hdl.out]; exact hvm), by simp⟩
          have vdu := Hdt.out.val u du hdu
          have hdd : dv = du - 1 := by simpa [List.getD, hdu, hdv] using n2
          subst hdd
          have hdu0 : d.getD u 0 = du := by simp [List.getD, hdu]
          rw [hdu0] at n3
          have c0r := keep_cell hb c0
          have c1r := keep_cell hb c1
          have hrp5 := hrp.below hb hrp.lt
          have hrd5 := hrd.below hb hrd.lt
          have q0 : wr.cell? ⟨gp, j, none⟩ = some (.int .i64 u) := by rw [hrp5.cell? j (by simp [Hpl.out]; omega)]; simp [hu, vN]
          have q1 : wr.cell? ⟨gp, j + 1, none⟩ = some (.int .i64 v) := by rw [hrp5.cell? (j + 1) (by simp [Hpl.out]; omega)]; simp [hv, vN]
          have q2 : wr.cell? ⟨gd, u, none⟩ = some (.int .i64 du) := by rw [hrd5.cell? u (by simp [Hdl.out]; omega)]; simp [hdu]
          have q3 : wr.cell? ⟨gd, v, none⟩ = some (.int .i64 (du - 1)) := by rw [hrd5.cell? v (by simp [Hdl.out]; omega)]; simp [hdv]
          have hhas : hasB m es u v = true := by rw [has_adj Hr.out]; simpa using n1
          have Hhas := Lib.hid hhas; have Hn1 := Lib.hid n1; have Hn3 := Lib.hid n3; have Hdu := Lib.hid hdu; have Hdv := Lib.hid hdv; have Hu := Lib.hid hu; have Hv := Lib.hid hv; have Hgk := Lib.hid hgk
          clear hhas n1 n2 n3 hdu hdv hu hv hgk hnx hsome hdu0
          have hrr := hr.below hB5
          have i1 : IntKind.i64.wrap ((j : Int) + 1 - 1) = (j : Int) := by rw [show ((j : Int) + 1 - 1) = j by omega]; exact IntWalk.i64_in _ (by omega)
          have i2 : IntKind.i64.wrap (du - 1) = du - 1 := IntWalk.i64_in _ (by omega)
          have iu : (u : Int) < (d.length : Int) := by rw [Hdl.out]; omega
          have iv : (v : Int) < (d.length : Int) := by rw [Hdl.out]; omega
          have i3 : IntKind.i64.wrap (j : Int) = (j : Int) := IntWalk.i64_in _ (by omega)
          have ij1 : (j : Int) < ((k + 1 : Nat) : Int) := by omega
          have ij2 : (j : Int) + 1 < ((k + 1 : Nat) : Int) := by omega
          have ij3 : (j : Int) < (k : Int) + 1 := by omega
          have ij4 : (j : Int) + 1 < (k : Int) + 1 := by omega
          have ij5 : (0 : Int) ≤ (j : Int) + 1 := by omega
          have ij6 : (0 : Int) ≤ (j : Int) := by omega
          have C0 := c0; have C1 := c1; have HRP := hrp; have HRD := hrd
          clear c0 c1 hrp hrd e1 e2 e3
          go_wp2_with fail
          go_region_held3 (fun w' => w'.cell? ⟨w.heap.size, 0, none⟩ = some (.int .i64 m) ∧ w'.cell? ⟨w.heap.size, 1, none⟩ = some (.slice a es.length cap) ∧ w'.cell? ⟨gp, j, none⟩ = some (.int .i64 u) ∧
            w'.cell? ⟨gp, j + 1, none⟩ = some (.int .i64 v) ∧ w'.cell? ⟨gd, u, none⟩ = some (.int .i64 du) ∧ w'.cell? ⟨gd, v, none⟩ = some (.int .i64 (du - 1))) (first | (refine ⟨?_, ?_, ?_, ?_, ?_, ?_⟩ <;> (refine keep_cell (by assumption) ?_; assumption; done)) | go_keep)
            (first | (go_at_call 25; refine (has_walk m a cap es u v _ ?_ hcap).mono ?_; exact hrr; rw [Hhas.out]; rintro e w' ⟨rfl, hbw⟩))
          go_wp2_with fail
          go_loopg [130] v (fun r x wi => ∃ (i : Nat), x = .int .i64 i ∧ i + r = v ∧ Below w3.heap.size w3 wi)
          case atStart => exact ⟨0, rfl, by omega, bl_trans hb (bl_trans (Below.refl wr.heap.size wr).drew hbw)⟩
          case round =>
            obtain ⟨i, rfl, hgi, hbi⟩ := hrel
            clear hrr hrp5 hrd5 hbw hb
            by_cases hiv : i < v
            · have him : i < m := by omega
              obtain ⟨di, hdi⟩ : ∃ di, d[i]? = some di := ⟨d[i]'(by rw [Hdl.out]; exact him), by simp⟩
              replace hrr := hr.below (bl_trans hB3 hbi)
              replace c0r := keep_cell hbi C0; replace c1r := keep_cell hbi C1
              have hrp6 := HRP.below hbi HRP.lt
              have hrd6 := HRD.below hbi HRD.lt
              replace q0 : wr.cell? ⟨gp, j, none⟩ = some (.int .i64 u) := by rw [hrp6.cell? j (by simp [Hpl.out]; omega)]; simp [Hu.out, vN]
              replace q1 : wr.cell? ⟨gp, j + 1, none⟩ = some (.int .i64 v) := by rw [hrp6.cell? (j + 1) (by simp [Hpl.out]; omega)]; simp [Hv.out, vN]
              replace q3 : wr.cell? ⟨gd, v, none⟩ = some (.int .i64 (du - 1)) := by rw [hrd6.cell? v (by simp [Hdl.out]; omega)]; simp [Hdv.out]
              replace q2 : wr.cell? ⟨gd, i, none⟩ = some (.int .i64 di) := by rw [hrd6.cell? i (by simp [Hdl.out]; omega)]; simp [hdi]
              have hgi0 : d.getD i 0 = di := by simp [List.getD, hdi]
              have ii : (i : Int) < (d.length : Int) := by rw [Hdl.out]; omega
              have Hgi := Lib.hid hgi; have Hdi := Lib.hid hdi; have Hgi0 := Lib.hid hgi0
              clear hgi hdi hgi0
              cases hhi : hasB m es u i with
              | true =>
                have hne : (di == du - 1) = false := by
                  rw [has_adj Hr.out] at hhi
                  have := Hn3.out i (by simpa using hhi) hiv
                  rw [Hgi0.out] at this; simpa using this
                have Hhi := Lib.hid hhi; clear hhi
                go_wp2_with fail
                go_region_held3 (fun w' => w'.cell? ⟨w.heap.size, 0, none⟩ = some (.int .i64 m) ∧ w'.cell? ⟨w.heap.size, 1, none⟩ = some (.slice a es.length cap) ∧ w'.cell? ⟨gp, j, none⟩ = some (.int .i64 u) ∧
                  w'.cell? ⟨gp, j + 1, none⟩ = some (.int .i64 v) ∧ w'.cell? ⟨gd, i, none⟩ = some (.int .i64 di) ∧ w'.cell? ⟨gd, v, none⟩ = some (.int .i64 (du - 1))) (first | (refine ⟨?_, ?_, ?_, ?_, ?_, ?_⟩ <;> (refine keep_cell (by assumption) ?_; assumption; done)) | go_keep)
                  (first | (go_at_call 25; refine (has_walk m a cap es u i _ ?_ hcap).mono ?_; exact hrr; rw [Hhi.out]; rintro e w' ⟨rfl, hbw⟩))
                go_wp2_with fail
                go_roundg (gk - 1)
                case measure => have := Hgi.out; omega
                case rel => exact ⟨i + 1, by go_num, by have := Hgi.out; omega, bl_trans hbi (bl_trans (Below.refl wr.heap.size wr).drew hbw)⟩
              | false =>
                have Hhi := Lib.hid hhi; clear hhi
                go_wp2_with fail
                refine regionT (fun w' => w'.cell? ⟨w.heap.size, 0, none⟩ = some (.int .i64 m) ∧ w'.cell? ⟨w.heap.size, 1, none⟩ = some (.slice a es.length cap) ∧ w'.cell? ⟨gp, j, none⟩ = some (.int .i64 u)) 7 (by kernel_rfl) ?_
                have hS : wr.drew.cell? ⟨w.heap.size, 0, none⟩ = some (.int .i64 m) ∧ wr.drew.cell? ⟨w.heap.size, 1, none⟩ = some (.slice a es.length cap) ∧ wr.drew.cell? ⟨gp, j, none⟩ = some (.int .i64 u) := ⟨c0r, c1r, q0⟩
                refine takeT (i := 0) (v := ?_) rfl (by kernel_rfl) (fun _ _ _ h => h) (Or.inl ⟨rfl, ?_⟩) hS ?_
                rotate_left
                · (intro wS hSw; (try dsimp only at hSw); go_simp; try (with_reducible rfl))
                simp only [Act.put, List.setIfInBounds_toArray, List.set_cons_zero, List.set_cons_succ]
                refine takeT (i := 1) (v := ?_) rfl (by kernel_rfl) (fun _ _ _ h => h) (Or.inl ⟨rfl, ?_⟩) hS ?_
                rotate_left
                · (intro wS hSw; (try dsimp only at hSw); go_simp; try (with_reducible rfl))
                simp only [Act.put, List.setIfInBounds_toArray, List.set_cons_zero, List.set_cons_succ]
                refine takeT (i := 2) (v := ?_) rfl (by kernel_rfl) (fun _ _ _ h => h) (Or.inl ⟨rfl, ?_⟩) hS ?_
                rotate_left
                · (intro wS hSw; (try dsimp only at hSw); go_simp; try (with_reducible rfl))
                simp only [Act.put, List.setIfInBounds_toArray, List.set_cons_zero, List.set_cons_succ]
                refine takeT (i := 3) (v := ?_) rfl (by kernel_rfl) (fun _ _ _ h => h) (Or.inl ⟨rfl, ?_⟩) hS ?_
                rotate_left
                · (intro wS hSw; (try dsimp only at hSw); go_simp; try (with_reducible rfl))
                simp only [Act.put, List.setIfInBounds_toArray, List.set_cons_zero, List.set_cons_succ]
                refine takeT (i := 4) (v := ?_) rfl (by kernel_rfl) (fun _ _ _ h => h) (Or.inl ⟨rfl, ?_⟩) hS ?_
                rotate_left
                · (intro wS hSw; (try dsimp only at hSw); go_simp; try (with_reducible rfl))
                simp only [Act.put, List.setIfInBounds_toArray, List.set_cons_zero, List.set_cons_succ]
                refine takeT (i := 5) (v := ?_) rfl (by kernel_rfl) (fun _ _ _ h => h) (Or.inl ⟨rfl, ?_⟩) hS ?_
                rotate_left
                · (intro wS hSw; (try dsimp only at hSw); go_simp; try (with_reducible rfl))
                simp only [Act.put, List.setIfInBounds_toArray, List.set_cons_zero, List.set_cons_succ]
                refine takeT (i := 6) (v := ?_) rfl (by kernel_rfl) (fun _ _ _ h => h) (Or.inl ⟨rfl, ?_⟩) hS ?_
                rotate_left
                · (intro wS hSw; (try dsimp only at hSw); go_simp; try (with_reducible rfl))
                simp only [Act.put, List.setIfInBounds_toArray, List.set_cons_zero, List.set_cons_succ]
                refine oneT (i := 7) rfl (by kernel_rfl) (fun K hK => ?_)
                go_simp
                go_at_call 25
                refine (has_walk m a cap es u i _ ?_ hcap).mono ?_
                exact hrr
                rw [Hhi.out]
                rintro e w' ⟨rfl, hbw⟩
                go_simp
                refine hK _ _ (fun h => absurd h (by omega)) ?_
                clear hK K hS
                refine restartT (fun _ => True) 22 (by kernel_rfl) ?_
                have hS : True := trivial
                refine takeT (i := 8) (v := ?_) rfl (by kernel_rfl) (fun _ _ _ h => h) (Or.inl ⟨rfl, ?_⟩) hS ?_
                rotate_left
                · (intro wS hSw; (try dsimp only at hSw); go_simp; try (with_reducible rfl))
                simp only [Act.put, List.setIfInBounds_toArray, List.set_cons_zero, List.set_cons_succ]
                refine takeT (i := 9) (v := undef) rfl (by kernel_rfl) (fun _ _ _ h => h) (Or.inr ⟨rfl, rfl⟩) hS ?_
                simp only [Act.put, List.setIfInBounds_toArray, List.set_cons_zero, List.set_cons_succ]
                refine takeT (i := 10) (v := undef) rfl (by kernel_rfl) (fun _ _ _ h => h) (Or.inr ⟨rfl, rfl⟩) hS ?_
                simp only [Act.put, List.setIfInBounds_toArray, List.set_cons_zero, List.set_cons_succ]
                refine takeT (i := 11) (v := undef) rfl (by kernel_rfl) (fun _ _ _ h => h) (Or.inr ⟨rfl, rfl⟩) hS ?_
                simp only [Act.put, List.setIfInBounds_toArray, List.set_cons_zero, List.set_cons_succ]
                refine takeT (i := 12) (v := undef) rfl (by kernel_rfl) (fun _ _ _ h => h) (Or.inr ⟨rfl, rfl⟩) hS ?_
                simp only [Act.put, List.setIfInBounds_toArray, List.set_cons_zero, List.set_cons_succ]
                refine takeT (i := 13) (v := undef) rfl (by kernel_rfl) (fun _ _ _ h => h) (Or.inr ⟨rfl, rfl⟩) hS ?_
                simp only [Act.put, List.setIfInBounds_toArray, List.set_cons_zero, List.set_cons_succ]
                refine takeT (i := 14) (v := undef) rfl (by kernel_rfl) (fun _ _ _ h => h) (Or.inr ⟨rfl, rfl⟩) hS ?_
                simp only [Act.put, List.setIfInBounds_toArray, List.set_cons_zero, List.set_cons_succ]
                refine takeT (i := 15) (v := undef) rfl (by kernel_rfl) (fun _ _ _ h => h) (Or.inr ⟨rfl, rfl⟩) hS ?_
                simp only [Act.put, List.setIfInBounds_toArray, List.set_cons_zero, List.set_cons_succ]
                refine takeT (i := 16) (v := undef) rfl (by kernel_rfl) (fun _ _ _ h => h) (Or.inr ⟨rfl, rfl⟩) hS ?_
                simp only [Act.put, List.setIfInBounds_toArray, List.set_cons_zero, List.set_cons_succ]
                refine takeT (i := 17) (v := undef) rfl (by kernel_rfl) (fun _ _ _ h => h) (Or.inr ⟨rfl, rfl⟩) hS ?_
                simp only [Act.put, List.setIfInBounds_toArray, List.set_cons_zero, List.set_cons_succ]
                refine takeT (i := 18) (v := undef) rfl (by kernel_rfl) (fun _ _ _ h => h) (Or.inr ⟨rfl, rfl⟩) hS ?_
                simp only [Act.put, List.setIfInBounds_toArray, List.set_cons_zero, List.set_cons_succ]
                refine takeT (i := 19) (v := undef) rfl (by kernel_rfl) (fun _ _ _ h => h) (Or.inr ⟨rfl, rfl⟩) hS ?_
                simp only [Act.put, List.setIfInBounds_toArray, List.set_cons_zero, List.set_cons_succ]
                refine takeT (i := 20) (v := undef) rfl (by kernel_rfl) (fun _ _ _ h => h) (Or.inr ⟨rfl, rfl⟩) hS ?_
                simp only [Act.put, List.setIfInBounds_toArray, List.set_cons_zero, List.set_cons_succ]
                refine takeT (i := 21) (v := ?_) rfl (by kernel_rfl) (fun _ _ _ h => h) (Or.inl ⟨rfl, ?_⟩) hS ?_
                rotate_left
                · (intro wS hSw; (try dsimp only at hSw); go_simp; try (with_reducible rfl))
                simp only [Act.put, List.setIfInBounds_toArray, List.set_cons_zero, List.set_cons_succ]
                refine doneT (by kernel_rfl) ?_ _
                go_wp2_with fail
                go_roundg (gk - 1)
                case measure => have := Hgi.out; omega
                case rel => exact ⟨i + 1, by go_num, by have := Hgi.out; omega, bl_trans hbi (bl_trans (Below.refl wr.heap.size wr).drew hbw)⟩
            · go_wp2_with fail
              go_roundg (k - (j + 1))
              case measure => have := Hgk.out; omega
              case rel => exact ⟨j + 1, by go_num, by have := Hgk.out; omega, hbi⟩
        · clear c0 c1 e1 e2 e3 hrp hrd
          go_wp2_with (go_at_call 10; refine (awake_walk _).mono ?_; rintro e w2 ⟨rfl, hb2⟩)
          go_ret
          exact ⟨rfl, bl_trans hB5 hb2⟩
namespace walkPath
open Go Go.RowKit Go.ChangeShapes Go.WideShapes Go.ChangeAt
set_option maxRecDepth 100000 in
theorem lifted (os : Os) (started : os.Started) (H : Type) (enc : TypeId × Value → H) :
    ReturnsInHanded {} Try.checked os 9 .any (Rows.walkPathSpec.pre6 enc Try.prog Try.f9 Rows.walkPathRow.domain false) (Rows.walkPathSpec.post enc Try.prog Try.f9 false true false false) := by
  refine returnsInHanded_of_change (C := Try.checked) rowOwn started (by kernel_rfl) Try.func9
    (ChangeSpec.witness6 (enc := enc) (C := Try.checked) false ⟨#[], #[.agg #[.int .i64 0, .slice none 0 0], .int .i64 0, .int .i64 0], []⟩ 8 (by kernel_rfl) (by kernel_rfl) (by kernel_rfl) (by kernel_rfl)) ?_
  intro W base args ds gs before hval0 hW hcnd _
  have hval : ∀ (j : Nat) t v, Try.f9.params[j]? = some t → args[j]? = some v → Value.okWide Try.prog W .any base t v := hval0
  have hW' := hW
  obtain ⟨p, q, hA0, hV, rfl, hfz, hnd⟩ := hW
  have hA : DataW.TrodAll enc Try.prog W 0 (fun _ => true) true Try.f9.params.toList args.toList ds p := hA0
  rw [Try.params9] at hA hval
  obtain ⟨v0, vs0, d0, ds0, p0, q0, hargs, rfl, rfl, h0, r0⟩ := trodAll_cons hA
  obtain ⟨v1, vs1, d1, ds1, p1, q1, rfl, rfl, rfl, h1, r1⟩ := trodAll_cons r0
  obtain ⟨v2, vs2, d2, ds2, p2, q2, rfl, rfl, rfl, h2, r2⟩ := trodAll_cons r1
  obtain ⟨rfl, rfl, rfl⟩ := trodAll_nil r2
  obtain rfl : args = #[v0, v1, v2] := by cases args; simp_all
  obtain ⟨rfl, rfl⟩ := trodVars_none hV
  have k0 := h0
  have lt0 : ∀ x ∈ p0, x.block < W.heap.size := by obtain ⟨m, hm⟩ := k0; exact DataW.trod_lt m _ _ _ hm
  obtain ⟨n0, a0, cap0, es0, rfl, rd0, hl0, hm0, wn0⟩ := open_graph (hval 0 24 v0 rfl rfl) h0
  obtain ⟨x1, rfl, rfl, rfl, wn1⟩ := open_int Try.underlying3 (hval 1 3 v1 rfl rfl) h1
  obtain ⟨x2, rfl, rfl, rfl, wn2⟩ := open_int Try.underlying3 (hval 2 3 v2 rfl rfl) h2
  clear hA0 hval0
  refine (walkPath_walk n0 a0 cap0 es0 x1 x2 W rd0 hl0 hm0 wn0 wn1 wn2).mono fun e W' ⟨he, bel⟩ => ?_
  subst he
  exact ⟨_, rfl, _, _, _, [], _, [], hW', trodAll_mk1 (shut_bool Try.underlying4 _), (trodAll_cons_mk (Below.trod rowLaid (by kernel_rfl) (of_decide_eq_true (by kernel_rfl)) k0 bel lt0) (trodAll_cons_mk (shut_int Try.underlying3 wn1) (trodAll_cons_mk (shut_int Try.underlying3 wn2) trodAll_mk0))), rfl, bel.frame _, fun h => by cases h⟩
theorem over : Rows.walkPathRow.holds Try.pinned (OpenSpec.ofChange Rows.walkPathSpec) :=
  OpenClaim.holds_of_wide 9 Try.f9 rfl rfl rfl rfl rfl rfl rfl ⟨rfl, rfl, rfl, rfl, rfl⟩ rfl rfl rfl rfl rfl (by kernel_rfl) Try.func9 (by kernel_rfl)
    (of_decide_eq_true (by kernel_rfl)) (by unfold Func.isWrapper; first | (rw [if_pos (by decide +kernel)]; kernel_rfl) | (rw [if_neg (by decide +kernel)]; exact ⟨rfl, rfl⟩))
    (fun os started H enc _ => lifted os started H enc)
/-- The statement. -/
theorem proved : Rows.WalkPathSaid := over
#print axioms proved
end walkPath
end Go.Proofs.Ytddndhhhmlcgjaa
