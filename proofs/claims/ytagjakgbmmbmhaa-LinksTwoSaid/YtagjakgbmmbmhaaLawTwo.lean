/- The law LinksTwo: whatever links come in (of more than 60, or of links that are not right, only the chapter's examples are asked): links.Two answers just what the law reckons: joined, and without any one vertex all others are come to from one of them. It holds for every input. -/
import Derived.Test.YtagjakgbmmbmhaaAwakeL
import Derived.Test.YtagjakgbmmbmhaaLawTwoP
import Derived.Test.YtagjakgbmmbmhaaRowL
namespace Go.Proofs.Ytagjakgbmmbmhaa
open Go Go.RowKit Go.ChangeShapes Go.WideShapes Go.ChangeAt Go.Joins Go.Deep

theorem goneF_in (L : List Int) (x : Int) : (goneF L x).isSome = decide (x ∈ L) := by
  unfold goneF
  by_cases h : x ∈ L <;> simp [h]
theorem goneF_addV (L : List Int) (x : Int) : updF (goneF L) x 1 = goneF (addV L x) := by
  unfold addV
  by_cases h : x ∈ L
  · rw [if_pos h]
    funext v
    unfold updF goneF
    by_cases e : v = x
    · simp [e, h]
    · simp [e]
  · rw [if_neg h]; exact goneF_snoc L x
theorem MZ.addV {w : World} {B : Nat} {L : List Int} {x : Int} (h : MZ w B (if (goneF L x).isSome then L.length else L.length + 1) (updF (goneF L) x 1)) : MZ w B (Go.Proofs.Ytagjakgbmmbmhaa.addV L x).length (goneF (Go.Proofs.Ytagjakgbmmbmhaa.addV L x)) := by
  rw [goneF_addV, goneF_in] at h
  have e : (if decide (x ∈ L) = true then L.length else L.length + 1) = (Go.Proofs.Ytagjakgbmmbmhaa.addV L x).length := by
    unfold Go.Proofs.Ytagjakgbmmbmhaa.addV
    by_cases h : x ∈ L <;> simp [h]
  rw [e] at h; exact h

set_option maxRecDepth 100000 in
set_option maxHeartbeats 8000000 in
theorem linksTwo_walk (a : Option Addr) (cap : Nat) (ls : List Lk) (w : World) (hr : RdL w a ls) (hl : ls.length ≤ cap) (hm : cap ≤ maxLen) (_hw : ∀ k ∈ ls, WfZ k.1 ∧ WfZ k.2.1 ∧ WfZ k.2.2) :
    Calls Try.prog 3 #[.slice a ls.length cap] w (RetT w true) := by
  have hcap : ls.length ≤ 9223372036854775807 := by unfold maxLen at hm; omega
  clear _hw hm hl
  by_cases h60 : 60 < ls.length
  · have g0 : decide ((60 : Int) < (ls.length : Int)) = true := by simp; omega
    go_enter Try.func3, Try.ntmps3
    go_wp2_with fail
    refine (awake_walk _).mono ?_
    rintro e w1 ⟨rfl, hb1⟩
    go_wp2_with fail
    go_ret
    exact ⟨rfl, hb1⟩
  have h60' : ls.length ≤ 60 := by omega
  have g0 : decide ((60 : Int) < (ls.length : Int)) = false := by simp; omega
  clear h60
  cases hrt : rightL ls with
  | false =>
    have Hrt := Lib.hid hrt; clear hrt
    go_enter Try.func3, Try.ntmps3
    go_wp2_with fail
    refine (lright_walk a cap ls _ hr hcap).mono ?_
    rw [Hrt.out]
    rintro e w1 ⟨rfl, hb1⟩
    go_wp2_with fail
    refine (awake_walk _).mono ?_
    rintro e w2 ⟨rfl, hb2⟩
    go_wp2_with fail
    go_ret
    exact ⟨rfl, bl_trans hb1 hb2⟩
  | true =>
  have hR := (rightL_iff ls).1 hrt
  have Hrt := Lib.hid hrt; have HR := Lib.hid hR
  clear hrt hR
  obtain ⟨vs, hvs⟩ : ∃ vs, vs = vertsL ls := ⟨_, rfl⟩
  have hvl : vs.length ≤ 2000 := by rw [hvs]; have := vertsL_length ls; omega
  have Hvs := Lib.hid hvs; clear hvs
  have hmm := @run_makeMap Try.prog
  go_enter Try.func3, Try.ntmps3
  go_wp2_with fail
  refine (lright_walk a cap ls _ hr hcap).mono ?_
  rw [Hrt.out]
  rintro e w1 ⟨rfl, hb1⟩
  go_wp2_with fail
  refine (joined_walk a cap ls _ (hr.below hb1) hcap).mono ?_
  rintro e w2 ⟨rfl, hb2⟩
  have hB2 := bl_trans hb1 hb2
  clear hb1 hb2
  go_wp2_with fail
  refine (verts_walk a cap ls _ (hr.below hB2) (by omega)).mono ?_
  rw [← Hvs.out]
  rintro e w3 ⟨av, cv, rfl, hrv, _, hvc, hvm, hb3⟩
  have hB3 := bl_trans hB2 hb3
  clear hb3 hB2
  obtain ⟨jn, hjn⟩ : ∃ j, j = joinedL ls := ⟨_, rfl⟩
  rw [← hjn]
  have Hjn := Lib.hid hjn; clear hjn
  go_wp2_with fail
  go_loopg [3, 26] vs.length (fun r vw i wr => ∃ (k : Nat) (want : Bool), k + r = vs.length ∧ i = .int .i64 k ∧ vw = .bool want ∧ want = (jn && (vs.take k).all fun v => (groupsL ls [v]).length == 1) ∧ (vs.length ≤ 2 → k = 0) ∧ Below w3.heap.size w3 wr)
  case atStart => exact ⟨0, jn, by omega, rfl, rfl, by simp, fun _ => rfl, bl_refl _⟩
  case round =>
    obtain ⟨k, want, hk, rfl, rfl, hwant, hfew, hB⟩ := hrel
    by_cases hlt : k < vs.length
    · obtain ⟨bv, ov, rfl, c0⟩ := (hrv.below hB).at k hlt
      obtain ⟨g, hg⟩ : ∃ g, vs[k] = g := ⟨_, rfl⟩
      rw [hg] at c0
      by_cases h2 : vs.length ≤ 2
      · have hk0 := hfew h2
        subst hk0
        have g2 : decide ((vs.length : Int) ≤ 2) = true := by simp; omega
        have hfin : twoL ls = want := by
          unfold twoL
          rw [hwant, ← Hvs.out, Hjn.out]
          simp [h2]
        have Hfin := Lib.hid hfin
        simp only [Nat.add_zero] at c0
        clear hfin hwant hfew hk hg
        have hbb : (want == want) = true := by simp
        have hB9 := (bl_trans hB3 hB)
        have htwo := two_walk a cap ls _ (hr.below hB9) hcap
        rw [Hfin.out] at htwo
        go_wp2_with fail
        refine htwo.mono ?_
        rintro e w9 ⟨rfl, hb9⟩
        have hB10 := bl_trans hB9 hb9
        clear htwo hb9 hB9
        go_wp2_with fail
        refine (awake_walk _).mono ?_
        rintro e w10 ⟨rfl, hb10⟩
        have hB11 := bl_trans hB10 hb10
        clear hb10 hB10
        go_wp2_with fail
        go_ret
        exact ⟨by simp, hB11⟩
      · have g2 : decide ((vs.length : Int) ≤ 2) = false := by simp; omega
        have hgm : g ∈ vertsL ls := by rw [← Hvs.out, ← hg]; exact List.getElem_mem hlt
        have hne : ls ≠ [] := fun e => by subst e; simp [vertsL, endsL] at hgm
        -- where to start
        obtain ⟨b0, o0, e0, d0⟩ := (hrv.below hB).at 0 (by omega)
        cases e0
        obtain ⟨b1, o1, e1, d1⟩ := (hrv.below hB).at 1 (by omega)
        cases e1
        obtain ⟨v0, hv0⟩ : ∃ v, vs[0]'(by omega) = v := ⟨_, rfl⟩
        obtain ⟨v1, hv1⟩ : ∃ v, vs[1]'(by omega) = v := ⟨_, rfl⟩
        rw [hv0] at d0; rw [hv1] at d1
        simp only [Nat.add_zero] at d0
        have hm0 : v0 ∈ vertsL ls := by rw [← Hvs.out, ← hv0]; exact List.getElem_mem _
        have hm1 : v1 ∈ vertsL ls := by rw [← Hvs.out, ← hv1]; exact List.getElem_mem _
        have h01 : v0 ≠ v1 := fun e => by
          have hnd := verts_nodup ls
          rw [← Hvs.out] at hnd
          have := (List.getElem_inj hnd).1 (hv0.trans (e.trans hv1.symm))
          omega
        have hstep : ∀ b : Bool, b = ((groupsL ls [g]).length == 1) → (want && b) = (jn && (vs.take (k + 1)).all fun v => (groupsL ls [v]).length == 1) := fun b hb => by
          rw [hwant, hb, List.take_succ_eq_append_getElem hlt, hg, List.all_append]
          simp [Bool.and_assoc]
        have Hstep := Lib.hid hstep; have Hk := Lib.hid hk; have Hgm := Lib.hid hgm; have Hne := Lib.hid hne
        clear hstep hk hgm hne hwant hfew hg hv0 hv1
        go_upto_if 38 with (fail)
        go_cut [7] (fun sv wx => ∃ s : Int, sv = .int .i64 s ∧ s ∈ vertsL ls ∧ s ≠ g ∧ wr = wx)
        case first =>
          by_cases h0 : v0 = g
          · have q1 : (v0 == g) = true := by simpa using h0
            have Hh := Lib.hid h0; have H01 := Lib.hid h01; clear h0 h01
            go_wp2_with fail
            go_meet
            exact ⟨v1, rfl, hm1, fun e => H01.out (Hh.out.trans e.symm), rfl⟩
          · have q1 : (v0 == g) = false := by simpa using h0
            have Hh := Lib.hid h0; clear h0 h01
            go_wp2_with fail
            go_meet
            exact ⟨v0, rfl, hm0, Hh.out, rfl⟩
        case rest =>
        obtain ⟨s, rfl, hsm, hsg, rfl⟩ := hcut
        obtain ⟨wA, rfl⟩ : ∃ wA : World, wA = wr := ⟨_, rfl⟩
        obtain ⟨gA, rfl⟩ : ∃ n : Nat, n = gk := ⟨_, rfl⟩
        have hzb : ∀ z, z ∈ vertsL ls → 0 ≤ z ∧ z ≤ 1048576 := fun z hz => by
          obtain ⟨q, hq, e⟩ := (mem_vertsL ls z).1 hz
          have ok := HR.out.2.1 q hq
          unfold OkL at ok
          rcases e with rfl | rfl <;> omega
        have hsb := hzb s hsm
        have hws : WfZ s := wfZ_of (by omega)
        obtain ⟨w5, hrun, hm5, hg5⟩ := (MZ.made wA).store (k := s) (v := 1) hws (wfZ_of (by omega)) (by omega)
        have hmS : MZ w5 wA.heap.size [s].length (goneF [s]) := by
          have e : updF (fun _ => none) s 1 = goneF [s] := by rw [← goneF_nil, goneF_snoc]; rfl
          rw [e] at hm5; exact hm5
        have hb5 : Below wA.heap.size wA w5 := (bl_alloc wA (.map #[] 0)).grown hg5 (by simp) (fun j hj => by cases hj; exact Nat.le_refl _)
        have hpg := pass_group Hrt.out Hne.out Hgm.out hsm hsg
        rw [← Hvs.out] at hpg
        have hbnd : ∀ L : List Int, L.Nodup → (∀ x ∈ L, VCon ls [g] s x) → L.length ≤ vs.length := fun L h1 h2 => by
          rw [Hvs.out]
          exact nodup_len_leZ h1 fun x hx => (vcon_in hsm hsg (h2 x hx)).1
        have Hpg := Lib.hid hpg; have Hbnd := Lib.hid hbnd; have Hsm := Lib.hid hsm; have Hsg := Lib.hid hsg
        clear hpg hbnd hsm hsg hzb hm0 hm1 h01 d0 d1 hm5 hg5 hws
        go_wp2_with fail
        clear hrun
        go_loopg [47] vs.length (fun q i wi => ∃ j : Nat, j + q = vs.length ∧ i = .int .i64 j ∧ MZ wi wA.heap.size (passN g ls [s] j).length (goneF (passN g ls [s] j)) ∧ Below wA.heap.size wA wi)
        case atStart => exact ⟨0, by omega, rfl, hmS, hb5⟩
        case round =>
          clear hmS hb5
          obtain ⟨j, hj, rfl, hmL, hbL⟩ := hrel
          by_cases hjl : j < vs.length
          · obtain ⟨wB, rfl⟩ : ∃ wB : World, wB = wr := ⟨_, rfl⟩
            obtain ⟨gB, rfl⟩ : ∃ n : Nat, n = gk := ⟨_, rfl⟩
            obtain ⟨L, hL⟩ : ∃ L, L = passN g ls [s] j := ⟨_, rfl⟩
            rw [← hL] at hmL
            have hLn : L.Nodup := by rw [hL]; exact passN_nodup j
            have hLs : ∀ x ∈ L, VCon ls [g] s x := by rw [hL]; exact passN_sound j
            have hnext : passV g ls L = passN g ls [s] (j + 1) := by rw [hL]; rfl
            have Hnext := Lib.hid hnext; have Hj := Lib.hid hj; have HLn := Lib.hid hLn; have HLs := Lib.hid hLs
            clear hnext hj hLn hLs hL
            go_wp2_with fail
            go_loopg [51] ls.length (fun q i wi => ∃ m : Nat, m + q = ls.length ∧ i = .int .i64 m ∧ MZ wi wA.heap.size (passV g (ls.take m) L).length (goneF (passV g (ls.take m) L)) ∧ Below wA.heap.size wA wi)
            case atStart => exact ⟨0, by omega, rfl, by simpa [passV] using hmL, hbL⟩
            case round =>
              clear hmL hbL
              obtain ⟨m, hm, rfl, hmM, hbM⟩ := hrel
              by_cases hml : m < ls.length
              · obtain ⟨b, o, rfl, c0, c1, c2⟩ := (hr.below (bl_trans (bl_trans hB3 hB) hbM)).at m hml
                have hok := HR.out.2.1 _ (List.getElem_mem hml)
                have hMst : passV g (ls.take (m + 1)) L = stepV g (passV g (ls.take m) L) ls[m] := by
                  unfold passV
                  rw [List.take_succ_eq_append_getElem hml, List.foldl_append]; rfl
                obtain ⟨M, hM⟩ : ∃ M, M = passV g (ls.take m) L := ⟨_, rfl⟩
                have hMl : M.length ≤ vs.length := by
                  rw [hM]
                  exact Hbnd.out _ (passV_nodup _ HLn.out) (passV_sound _ (fun e he => List.mem_of_mem_take he) HLs.out)
                rw [← hM] at hmM hMst
                obtain ⟨⟨x, y, z⟩, hx⟩ : ∃ x : Lk, ls[m] = x := ⟨_, rfl⟩
                rw [hx] at c0 c1 c2 hok hMst
                obtain ⟨k0, k1, k2, k3, k4⟩ := hok
                simp only at c0 c1 c2 k0 k1 k2 k3 k4
                have hmM0 := hmM.lt
                have hmA := hmM.alloc (.cells #[.int .i64 x, .int .i64 y, .int .i64 z] 29)
                have Hm := Lib.hid hm; clear hm hx hM hmM
                by_cases hxg : x = g
                · have q1 : (x != g) = false := by simpa using hxg
                  have hs2 : stepV g M (x, y, z) = M := by unfold stepV; rw [if_neg (by rw [useB_iff]; exact fun h => h.1 hxg)]
                  rw [hs2] at hMst
                  have HMst := Lib.hid hMst; clear hMst hs2 hxg
                  go_wp2_with fail
                  go_roundg (gk - 1)
                  case measure => have := Hm.out; omega
                  case rel => exact ⟨m + 1, by have := Hm.out; omega, by go_num, by rw [HMst.out]; exact hmA, bl_trans hbM (bl_alloc _ _)⟩
                · have q1 : (x != g) = true := by simpa using hxg
                  by_cases hyg : y = g
                  · have q2 : (y != g) = false := by simpa using hyg
                    have hs2 : stepV g M (x, y, z) = M := by unfold stepV; rw [if_neg (by rw [useB_iff]; exact fun h => h.2.1 hyg)]
                    rw [hs2] at hMst
                    have HMst := Lib.hid hMst; clear hMst hs2 hyg
                    go_wp2_with fail
                    go_roundg (gk - 1)
                    case measure => have := Hm.out; omega
                    case rel => exact ⟨m + 1, by have := Hm.out; omega, by go_num, by rw [HMst.out]; exact hmA, bl_trans hbM (bl_alloc _ _)⟩
                  · have q2 : (y != g) = true := by simpa using hyg
                    by_cases hxM : x ∈ M
                    · have l1 := hmA.goneYes (wfZ_of (by omega : -9223372036854775808 ≤ x ∧ x ≤ 9223372036854775807)) hxM
                      have hs2 : stepV g M (x, y, z) = addV (addV M x) y := by unfold stepV; rw [if_pos (by rw [useB_iff]; exact ⟨hxg, hyg, .inl hxM⟩)]
                      rw [hs2] at hMst
                      have HMst := Lib.hid hMst; clear hMst hs2
                      have hbA : Below wA.heap.size wA (wr.alloc (.cells #[.int .i64 x, .int .i64 y, .int .i64 z] 29)) := bl_trans hbM (bl_alloc _ _)
                      have e0 : (wr.alloc (.cells #[.int .i64 x, .int .i64 y, .int .i64 z] 29)).cell? ⟨wr.heap.size, 0, none⟩ = some (.int .i64 x) := by simp
                      have e1 : (wr.alloc (.cells #[.int .i64 x, .int .i64 y, .int .i64 z] 29)).cell? ⟨wr.heap.size, 1, none⟩ = some (.int .i64 y) := by simp
                      have hszA : wA.heap.size < wr.heap.size := hmM0
                      have hwx : WfZ x := wfZ_of (by omega)
                      have hwy : WfZ y := wfZ_of (by omega)
                      have hw1 : WfZ 1 := wfZ_of (by omega)
                      have Hwx := Lib.hid hwx; have Hwy := Lib.hid hwy; have Hw1 := Lib.hid hw1
                      go_upto_region 19 with (fail)
                      clear c0 c1 c2 hwx hwy hw1
                      generalize wr.alloc (.cells #[.int .i64 x, .int .i64 y, .int .i64 z] 29) = wX at hmA hbA e0 e1 ⊢
                      refine regionT (fun w' => w'.cell? ⟨wr.heap.size, 0, none⟩ = some (.int .i64 x) ∧ w'.cell? ⟨wr.heap.size, 1, none⟩ = some (.int .i64 y)) 7 (by kernel_rfl) ?_
                      have hS : wX.drew.cell? ⟨wr.heap.size, 0, none⟩ = some (.int .i64 x) ∧ wX.drew.cell? ⟨wr.heap.size, 1, none⟩ = some (.int .i64 y) := ⟨e0, e1⟩
                      refine takeT (i := 0) (v := ?_) rfl (by kernel_rfl) (fun _ _ _ h => h) (Or.inl ⟨rfl, ?_⟩) hS ?_
                      rotate_left
                      · (intro wS hSw; (try dsimp only at hSw); go_simp; try (with_reducible rfl))
                      simp only [Act.put, List.setIfInBounds_toArray, List.set_cons_zero, List.set_cons_succ]
                      refine takeT (i := 1) (v := ?_) rfl (by kernel_rfl) (fun _ _ _ h => h) (Or.inl ⟨rfl, ?_⟩) hS ?_
                      rotate_left
                      · (intro wS hSw; (try dsimp only at hSw); go_simp; try (with_reducible rfl))
                      simp only [Act.put, List.setIfInBounds_toArray, List.set_cons_zero, List.set_cons_succ]
                      refine takeT (i := 2) (v := ?_) rfl (by kernel_rfl) (fun _ _ _ h => h) (Or.inl ⟨rfl, ?_⟩) hS ?_
                      rotate_left
                      · (intro wS hSw; (try dsimp only at hSw); go_simp; try (with_reducible rfl))
                      simp only [Act.put, List.setIfInBounds_toArray, List.set_cons_zero, List.set_cons_succ]
                      refine takeT (i := 3) (v := ?_) rfl (by kernel_rfl) (fun _ _ _ h => h) (Or.inl ⟨rfl, ?_⟩) hS ?_
                      rotate_left
                      · (intro wS hSw; (try dsimp only at hSw); go_simp; try (with_reducible rfl))
                      simp only [Act.put, List.setIfInBounds_toArray, List.set_cons_zero, List.set_cons_succ]
                      refine takeT (i := 4) (v := ?_) rfl (by kernel_rfl) (fun _ _ _ h => h) (Or.inl ⟨rfl, ?_⟩) hS ?_
                      rotate_left
                      · (intro wS hSw; (try dsimp only at hSw); go_simp; try (with_reducible rfl))
                      simp only [Act.put, List.setIfInBounds_toArray, List.set_cons_zero, List.set_cons_succ]
                      refine takeT (i := 5) (v := ?_) rfl (by kernel_rfl) (fun _ _ _ h => h) (Or.inl ⟨rfl, ?_⟩) hS ?_
                      rotate_left
                      · (intro wS hSw; (try dsimp only at hSw); go_simp; try (with_reducible rfl))
                      simp only [Act.put, List.setIfInBounds_toArray, List.set_cons_zero, List.set_cons_succ]
                      refine oneT (i := 6) rfl (by kernel_rfl) (fun K hK => ?_)
                      refine step_put_MZ rfl _ _ _ rfl (show MZ wX.drew wA.heap.size _ _ from hmA) (k := x) (v := 1) (by simp [Act.eval]) (by simp [Act.eval]) (by simp [Act.eval]) Hwx.out Hw1.out (by omega) ?_
                      intro w6 hm6 hg6
                      replace hm6 := hm6.addV
                      have q0' := grown_cell hg6 hS.1 (by simp; omega)
                      have q1' := grown_cell hg6 hS.2 (by simp; omega)
                      refine hK _ _ (fun _ => ⟨q0', q1'⟩) ?_
                      clear hK K hS
                      simp only [Act.put]
                      refine oneT (i := 7) rfl (by kernel_rfl) (fun K hK => ?_)
                      refine step_put_MZ rfl _ _ _ rfl hm6 (k := y) (v := 1) (by simp [Act.eval]) (by simp [Act.eval]) (by simp [Act.eval]) Hwy.out Hw1.out (by have := addV_len M x; omega) ?_
                      intro w7 hm7 hg7
                      replace hm7 := hm7.addV
                      refine hK _ _ (fun h => absurd h (by omega)) ?_
                      clear hK K
                      simp only [Act.put]
                      refine doneT (by kernel_rfl) ?_ _
                      have hb7 : Below wA.heap.size wA w7 := ((hbA.drew).grown hg6 (by have := hbA.size; simpa using this) (fun j hj => by cases hj; exact Nat.le_refl _)).grown hg7 (by have := hg6.size; have := hbA.size; simp at *; omega) (fun j hj => by cases hj; exact Nat.le_refl _)
                      clear hm6 hg6 hg7 q0' q1' e0 e1 hbA hmA
                      go_wp2_with fail
                      go_roundg (gk - 1)
                      case measure => have := Hm.out; omega
                      case rel => exact ⟨m + 1, by have := Hm.out; omega, by go_num, by rw [HMst.out]; exact hm7, hb7⟩
                    · have l1 := hmA.goneNo (wfZ_of (by omega : -9223372036854775808 ≤ x ∧ x ≤ 9223372036854775807)) hxM
                      by_cases hyM : y ∈ M
                      · have l2 := hmA.goneYes (wfZ_of (by omega : -9223372036854775808 ≤ y ∧ y ≤ 9223372036854775807)) hyM
                        have hs2 : stepV g M (x, y, z) = addV (addV M x) y := by unfold stepV; rw [if_pos (by rw [useB_iff]; exact ⟨hxg, hyg, .inr hyM⟩)]
                        rw [hs2] at hMst
                        have HMst := Lib.hid hMst; clear hMst hs2
                        have hbA : Below wA.heap.size wA (wr.alloc (.cells #[.int .i64 x, .int .i64 y, .int .i64 z] 29)) := bl_trans hbM (bl_alloc _ _)
                        have e0 : (wr.alloc (.cells #[.int .i64 x, .int .i64 y, .int .i64 z] 29)).cell? ⟨wr.heap.size, 0, none⟩ = some (.int .i64 x) := by simp
                        have e1 : (wr.alloc (.cells #[.int .i64 x, .int .i64 y, .int .i64 z] 29)).cell? ⟨wr.heap.size, 1, none⟩ = some (.int .i64 y) := by simp
                        have hszA : wA.heap.size < wr.heap.size := hmM0
                        have hwx : WfZ x := wfZ_of (by omega)
                        have hwy : WfZ y := wfZ_of (by omega)
                        have hw1 : WfZ 1 := wfZ_of (by omega)
                        have Hwx := Lib.hid hwx; have Hwy := Lib.hid hwy; have Hw1 := Lib.hid hw1
                        go_upto_region 19 with (fail)
                        clear c0 c1 c2 hwx hwy hw1
                        generalize wr.alloc (.cells #[.int .i64 x, .int .i64 y, .int .i64 z] 29) = wX at hmA hbA e0 e1 ⊢
                        refine regionT (fun w' => w'.cell? ⟨wr.heap.size, 0, none⟩ = some (.int .i64 x) ∧ w'.cell? ⟨wr.heap.size, 1, none⟩ = some (.int .i64 y)) 7 (by kernel_rfl) ?_
                        have hS : wX.drew.cell? ⟨wr.heap.size, 0, none⟩ = some (.int .i64 x) ∧ wX.drew.cell? ⟨wr.heap.size, 1, none⟩ = some (.int .i64 y) := ⟨e0, e1⟩
                        refine takeT (i := 0) (v := ?_) rfl (by kernel_rfl) (fun _ _ _ h => h) (Or.inl ⟨rfl, ?_⟩) hS ?_
                        rotate_left
                        · (intro wS hSw; (try dsimp only at hSw); go_simp; try (with_reducible rfl))
                        simp only [Act.put, List.setIfInBounds_toArray, List.set_cons_zero, List.set_cons_succ]
                        refine takeT (i := 1) (v := ?_) rfl (by kernel_rfl) (fun _ _ _ h => h) (Or.inl ⟨rfl, ?_⟩) hS ?_
                        rotate_left
                        · (intro wS hSw; (try dsimp only at hSw); go_simp; try (with_reducible rfl))
                        simp only [Act.put, List.setIfInBounds_toArray, List.set_cons_zero, List.set_cons_succ]
                        refine takeT (i := 2) (v := ?_) rfl (by kernel_rfl) (fun _ _ _ h => h) (Or.inl ⟨rfl, ?_⟩) hS ?_
                        rotate_left
                        · (intro wS hSw; (try dsimp only at hSw); go_simp; try (with_reducible rfl))
                        simp only [Act.put, List.setIfInBounds_toArray, List.set_cons_zero, List.set_cons_succ]
                        refine takeT (i := 3) (v := ?_) rfl (by kernel_rfl) (fun _ _ _ h => h) (Or.inl ⟨rfl, ?_⟩) hS ?_
                        rotate_left
                        · (intro wS hSw; (try dsimp only at hSw); go_simp; try (with_reducible rfl))
                        simp only [Act.put, List.setIfInBounds_toArray, List.set_cons_zero, List.set_cons_succ]
                        refine takeT (i := 4) (v := ?_) rfl (by kernel_rfl) (fun _ _ _ h => h) (Or.inl ⟨rfl, ?_⟩) hS ?_
                        rotate_left
                        · (intro wS hSw; (try dsimp only at hSw); go_simp; try (with_reducible rfl))
                        simp only [Act.put, List.setIfInBounds_toArray, List.set_cons_zero, List.set_cons_succ]
                        refine takeT (i := 5) (v := ?_) rfl (by kernel_rfl) (fun _ _ _ h => h) (Or.inl ⟨rfl, ?_⟩) hS ?_
                        rotate_left
                        · (intro wS hSw; (try dsimp only at hSw); go_simp; try (with_reducible rfl))
                        simp only [Act.put, List.setIfInBounds_toArray, List.set_cons_zero, List.set_cons_succ]
                        refine oneT (i := 6) rfl (by kernel_rfl) (fun K hK => ?_)
                        refine step_put_MZ rfl _ _ _ rfl (show MZ wX.drew wA.heap.size _ _ from hmA) (k := x) (v := 1) (by simp [Act.eval]) (by simp [Act.eval]) (by simp [Act.eval]) Hwx.out Hw1.out (by omega) ?_
                        intro w6 hm6 hg6
                        replace hm6 := hm6.addV
                        have q0' := grown_cell hg6 hS.1 (by simp; omega)
                        have q1' := grown_cell hg6 hS.2 (by simp; omega)
                        refine hK _ _ (fun _ => ⟨q0', q1'⟩) ?_
                        clear hK K hS
                        simp only [Act.put]
                        refine oneT (i := 7) rfl (by kernel_rfl) (fun K hK => ?_)
                        refine step_put_MZ rfl _ _ _ rfl hm6 (k := y) (v := 1) (by simp [Act.eval]) (by simp [Act.eval]) (by simp [Act.eval]) Hwy.out Hw1.out (by have := addV_len M x; omega) ?_
                        intro w7 hm7 hg7
                        replace hm7 := hm7.addV
                        refine hK _ _ (fun h => absurd h (by omega)) ?_
                        clear hK K
                        simp only [Act.put]
                        refine doneT (by kernel_rfl) ?_ _
                        have hb7 : Below wA.heap.size wA w7 := ((hbA.drew).grown hg6 (by have := hbA.size; simpa using this) (fun j hj => by cases hj; exact Nat.le_refl _)).grown hg7 (by have := hg6.size; have := hbA.size; simp at *; omega) (fun j hj => by cases hj; exact Nat.le_refl _)
                        clear hm6 hg6 hg7 q0' q1' e0 e1 hbA hmA
                        go_wp2_with fail
                        go_roundg (gk - 1)
                        case measure => have := Hm.out; omega
                        case rel => exact ⟨m + 1, by have := Hm.out; omega, by go_num, by rw [HMst.out]; exact hm7, hb7⟩
                      · have l2 := hmA.goneNo (wfZ_of (by omega : -9223372036854775808 ≤ y ∧ y ≤ 9223372036854775807)) hyM
                        have hs2 : stepV g M (x, y, z) = M := by unfold stepV; rw [if_neg (by rw [useB_iff]; exact fun h => h.2.2.elim hxM hyM)]
                        rw [hs2] at hMst
                        have HMst := Lib.hid hMst; clear hMst hs2  
                        go_wp2_with fail
                        go_roundg (gk - 1)
                        case measure => have := Hm.out; omega
                        case rel => exact ⟨m + 1, by have := Hm.out; omega, by go_num, by rw [HMst.out]; exact hmA, bl_trans hbM (bl_alloc _ _)⟩
              · have hml2 : m = ls.length := by omega
                subst hml2
                rw [List.take_length, Hnext.out] at hmM
                clear hm
                go_wp2_with fail
                go_roundg (gB - 1)
                case measure => have := Hj.out; omega
                case rel => exact ⟨j + 1, by have := Hj.out; omega, by go_num, hmM, hbM⟩
          · have hje : j = vs.length := by omega
            subst hje
            have hlenf := fun ty => hmL.len ty
            have hLl : (passN g ls [s] vs.length).length ≤ vs.length := Hbnd.out _ (passN_nodup _) (passN_sound _)
            have hgb : ((((passN g ls [s] vs.length).length : Nat) : Int) == (vs.length : Int) - 1) = ((groupsL ls [g]).length == 1) := by
              rw [Bool.eq_iff_iff, beq_iff_eq, beq_iff_eq, ← Hpg.out]; omega
            have hst := Hstep.out _ hgb
            have hbL2 := bl_trans hB hbL
            obtain ⟨c, hc⟩ : ∃ c : Nat, c = (passN g ls [s] vs.length).length := ⟨_, rfl⟩
            rw [← hc] at hlenf hst
            have Hst := Lib.hid hst
            clear hst hgb hmL hLl hc hj hbL
            cases want with
            | false =>
              go_wp2_with fail
              go_roundg (gA - 1)
              case measure => have := Hk.out; omega
              case rel => exact ⟨k + 1, false, by have := Hk.out; omega, by go_num, rfl, by rw [← Hst.out]; rfl, fun h => absurd h h2, hbL2⟩
            | true =>
              go_wp2_with fail
              go_roundg (gA - 1)
              case measure => have := Hk.out; omega
              case rel => exact ⟨k + 1, _, by have := Hk.out; omega, by go_num, rfl, by rw [← Hst.out]; simp, fun h => absurd h h2, hbL2⟩
    · have hkl : k = vs.length := by omega
      subst hkl
      have hfin : twoL ls = want := by
        unfold twoL
        rw [hwant, List.take_length, ← Hvs.out, Hjn.out]
        by_cases h2 : vs.length ≤ 2
        · have h0 := hfew h2
          have hnil : vs = [] := List.eq_nil_of_length_eq_zero h0
          rw [hnil]; simp
        · rw [show decide (vs.length ≤ 2) = false by simpa using h2]; simp
      have Hfin := Lib.hid hfin
      clear hfin hwant hfew hk
      have hbb : (want == want) = true := by simp
      have hB9 := (bl_trans hB3 hB)
      have htwo := two_walk a cap ls _ (hr.below hB9) hcap
      rw [Hfin.out] at htwo
      go_wp2_with fail
      refine htwo.mono ?_
      rintro e w9 ⟨rfl, hb9⟩
      have hB10 := bl_trans hB9 hb9
      clear htwo hb9 hB9
      go_wp2_with fail
      refine (awake_walk _).mono ?_
      rintro e w10 ⟨rfl, hb10⟩
      have hB11 := bl_trans hB10 hb10
      clear hb10 hB10
      go_wp2_with fail
      go_ret
      exact ⟨by simp, hB11⟩
namespace linksTwo
open Go Go.RowKit Go.ChangeShapes Go.WideShapes Go.ChangeAt
set_option maxRecDepth 100000 in
theorem lifted (os : Os) (started : os.Started) (H : Type) (enc : TypeId × Value → H) :
    ReturnsInHanded {} Try.checked os 3 .any (Rows.linksTwoSpec.pre6 enc Try.prog Try.f3 Rows.linksTwoRow.domain false) (Rows.linksTwoSpec.post enc Try.prog Try.f3 false true false false) := by
  refine returnsInHanded_of_change (C := Try.checked) rowOwn started (by kernel_rfl) Try.func3
    (ChangeSpec.witness6 (enc := enc) (C := Try.checked) false ⟨#[], #[.slice none 0 0], []⟩ 8 (by kernel_rfl) (by kernel_rfl) (by kernel_rfl) (by kernel_rfl)) ?_
  intro W base args ds gs before hval0 hW hcnd _
  have hval : ∀ (j : Nat) t v, Try.f3.params[j]? = some t → args[j]? = some v → Value.okWide Try.prog W .any base t v := hval0
  have hW' := hW
  obtain ⟨p, q, hA0, hV, rfl, hfz, hnd⟩ := hW
  have hA : DataW.TrodAll enc Try.prog W 0 (fun _ => true) true Try.f3.params.toList args.toList ds p := hA0
  rw [Try.params3] at hA hval
  obtain ⟨v0, vs0, d0, ds0, p0, q0, hargs, rfl, rfl, h0, r0⟩ := trodAll_cons hA
  obtain ⟨rfl, rfl, rfl⟩ := trodAll_nil r0
  obtain rfl : args = #[v0] := by cases args; simp_all
  obtain ⟨rfl, rfl⟩ := trodVars_none hV
  have k0 := h0
  have lt0 : ∀ x ∈ p0, x.block < W.heap.size := by obtain ⟨m, hm⟩ := k0; exact DataW.trod_lt m _ _ _ hm
  obtain ⟨a0, cap0, es0, rfl, rd0, hl0, hm0, wn0⟩ := open_links (hval 0 22 v0 rfl rfl) h0
  clear hA0 hval0
  refine (linksTwo_walk a0 cap0 es0 W rd0 hl0 hm0 wn0).mono fun e W' ⟨he, bel⟩ => ?_
  subst he
  exact ⟨_, rfl, _, _, _, [], _, [], hW', trodAll_mk1 (shut_bool Try.underlying4 _), (trodAll_cons_mk (Below.trod rowLaid (by kernel_rfl) (of_decide_eq_true (by kernel_rfl)) k0 bel lt0) trodAll_mk0), rfl, bel.frame _, fun h => by cases h⟩
theorem over : Rows.linksTwoRow.holds Try.pinned (OpenSpec.ofChange Rows.linksTwoSpec) :=
  OpenClaim.holds_of_wide 3 Try.f3 rfl rfl rfl rfl rfl rfl rfl ⟨rfl, rfl, rfl, rfl, rfl⟩ rfl rfl rfl rfl rfl (by kernel_rfl) Try.func3 (by kernel_rfl)
    (of_decide_eq_true (by kernel_rfl)) (by unfold Func.isWrapper; first | (rw [if_pos (by decide +kernel)]; kernel_rfl) | (rw [if_neg (by decide +kernel)]; exact ⟨rfl, rfl⟩))
    (fun os started H enc _ => lifted os started H enc)
/-- The statement. -/
theorem proved : Rows.LinksTwoSaid := over
#print axioms proved
end linksTwo
end Go.Proofs.Ytagjakgbmmbmhaa
