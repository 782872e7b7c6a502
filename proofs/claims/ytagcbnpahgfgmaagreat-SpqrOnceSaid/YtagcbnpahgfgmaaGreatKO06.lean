/- Facts that the claim rests on, part 7. -/
import Derived.Test.YtagcbnpahgfgmaaGreatKO05
namespace Go.Proofs.YtagcbnpahgfgmaaGreat
open Go Go.RowKit
theorem cell_new1 {W : World} {b : Nat} {v : Value} {t : TypeId} (h : b = W.heap.size) : (W.alloc (.cells #[v] t)).cell? ⟨b, 0, none⟩ = some v := by
 subst h; simp
set_option maxRecDepth 100000 in
set_option maxHeartbeats 8000000 in
theorem groups_walk (a : Option Addr) (cap : Nat) (ls : List Lk) (aw : Option Addr) (capw : Nat) (wo : List Int) (w : World) (hr : RdL w a ls) (hcap : ls.length ≤ 9223372036854775807) (hw : RdI w aw wo) (hwl : wo.length ≤ 1000000) (hwf : ∀ z ∈ wo, WfZ z) :
  Calls Tryz.prog 30 #[.slice a ls.length cap, .slice aw wo.length capw] w (RetGs w (groupsL ls wo)) := by
 cases hrt : rightL ls with
 | false =>
  have hg : groupsL ls wo = [] := by unfold groupsL; rw [hrt]; rfl
  rw [hg]
  have Hrt := Lib.hid hrt; clear hrt hg
  go_enter Tryz.func30, Tryz.ntmps30
  go_wp2_with fail
  refine (lright_walk a cap ls _ hr hcap).mono ?_
  rw [Hrt.out]
  rintro e w1 ⟨rfl, hb1⟩
  go_wp2_with fail
  go_ret
  exact ⟨_, [], rfl, LRows.start _ _, hb1⟩
 | true =>
  have hR := (rightL_iff ls).1 hrt
  have hn := hR.1
  have Hwf := Lib.hid hwf; have HR := Lib.hid hR; have Hrt := Lib.hid hrt
  clear hwf hR hrt
  have hmm := run_makeMapZ
  go_enter Tryz.func30, Tryz.ntmps30
  go_wp2_with fail
  refine (lright_walk a cap ls _ hr hcap).mono ?_
  rw [Hrt.out]
  rintro e w1 ⟨rfl, hb1⟩
  have hw1 := hw.below hb1
  have hr1 := hr.below hb1
  clear hw hr
  go_wp2_with fail
  go_loopg [29] wo.length (fun r i wr => ∃ k c : Nat, k + r = wo.length ∧ i = .int .i64 k ∧ c ≤ k ∧ MZ wr w1.heap.size c (goneF (wo.take k)) ∧ Below w1.heap.size w1 wr)
  case atStart => exact ⟨0, 0, by omega, rfl, Nat.le_refl _, by rw [List.take_zero, goneF_nil]; exact MZ.made w1, bl_alloc _ _⟩
  case round =>
   obtain ⟨k, c, hk, rfl, hck, hm, hb⟩ := hrel; by_cases hlt : k < wo.length
   ·
    obtain ⟨b, o, rfl, c0⟩ := (hw1.below hb).at k hlt; obtain ⟨z, hz⟩ : ∃ z, wo[k] = z := ⟨_, rfl⟩
    rw [hz] at c0; have hwz : WfZ z := Hwf.out z (by rw [← hz]; exact List.getElem_mem hlt); have hstep : updF (goneF (wo.take k)) z 1 = goneF (wo.take (k + 1)) := by rw [goneF_snoc, List.take_succ_eq_append_getElem hlt, hz]
    have Hstep := Lib.hid hstep; have Hwz := Lib.hid hwz; have Hk := Lib.hid hk; clear hstep hwz hz hk; go_wp2_with (at_mapUpdate; refine wpList_put_MZ rfl _ _ _ rfl hm rfl rfl rfl Hwz.out (wfZ_of (by omega)) (by omega) ?_; intro w5 hm5 hg5); rw [Hstep.out] at hm5; have hb5 : Below w1.heap.size w1 w5 := hb.grown hg5 hb.size (fun j hj => by cases hj; exact Nat.le_refl _); have hc5 : (if ((goneF (wo.take k)) z).isSome then c else c + 1) ≤ k + 1 := by split <;> omega
    clear hg5 hm; go_roundg (gk - 1)
    case measure => have := Hk.out; omega
    case rel => exact ⟨k + 1, _, by have := Hk.out; omega, by go_num, hc5, hm5, hb5⟩
   ·
    have hkl : k = wo.length := by omega
    subst hkl; rw [List.take_length] at hm; obtain ⟨w2, rfl⟩ : ∃ w2 : World, w2 = wr := ⟨_, rfl⟩
    have hr2 := hr1.below hb; have hB2 := bl_trans hb1 hb; have hz2 := hm.lt; clear hk hr1 hw1; go_wp2_with fail; go_loopg [42] ls.length (fun r i wr => ∃ (k c : Nat) (F : Int → Option Int) (root : Int → Int), k + r = ls.length ∧ i = .int .i64 k ∧ c ≤ 3 * k ∧ MZ wr w2.heap.size c F ∧ Heads F root ∧ RootOf (ls.take k) wo root ∧ wr.cell? ⟨w2.heap.size + 1, 0, none⟩ = some (.map (some w2.heap.size)) ∧ Below w2.heap.size w2 wr ∧ w2.heap.size + 2 ≤ wr.heap.size)
    case atStart => exact ⟨0, 0, _, _, by omega, rfl, Nat.le_refl _, (MZ.made w2).alloc _, Heads.start, by rw [List.take_zero]; exact RootOf.start wo, by simp, bl_trans (bl_alloc _ _) (bl_alloc _ _), by simp⟩
    case round =>
     obtain ⟨k, c2, F, root, hk, rfl, hc2, hF, hH, hRoot, hbox, hbl, hsz⟩ := hrel; by_cases hlt : k < ls.length
     ·
      obtain ⟨b, o, rfl, c0, c1, c3⟩ := (hr2.below hbl).at k hlt; have hok := HR.out.2.1 _ (List.getElem_mem hlt); have htk := List.take_succ_eq_append_getElem hlt; obtain ⟨⟨x, y, z⟩, hx⟩ : ∃ x : Lk, ls[k] = x := ⟨_, rfl⟩
      rw [hx] at c0 c1 c3 hok htk; obtain ⟨k0, k1, k2, k3, k4⟩ := hok; simp only at c0 c1 c3 k0 k1 k2 k3 k4; have hwx : WfZ x := wfZ_of (by omega); have hwy : WfZ y := wfZ_of (by omega); have hm3 := (hm.below hbl).alloc (.cells #[.int .i64 x, .int .i64 y, .int .i64 z] 38); have hF3 := hF.alloc (.cells #[.int .i64 x, .int .i64 y, .int .i64 z] 38); have hbl3 : Below w2.heap.size w2 (wr.alloc (.cells #[.int .i64 x, .int .i64 y, .int .i64 z] 38)) := bl_trans hbl (bl_alloc _ _); have hbox3 := keep_cell (bl_alloc wr (.cells #[.int .i64 x, .int .i64 y, .int .i64 z] 38)) hbox; have Hk := Lib.hid hk; have Htk := Lib.hid htk; have HRoot := Lib.hid hRoot; have HH := Lib.hid hH; clear hx hk htk hRoot hH; by_cases hxo : x ∈ wo
      ·
       have l1 := hm3.goneYes hwx hxo; have Hxo := Lib.hid hxo; clear hxo; go_wp2_with fail; go_roundg (gk - 1)
       case measure => have := Hk.out; omega
       case rel => exact ⟨k + 1, c2, F, root, by have := Hk.out; omega, by go_num, by omega, hF3, HH.out, by rw [Htk.out]; exact HRoot.out.skip (.inl Hxo.out), hbox3, hbl3, by simp; omega⟩
      ·
       have l1 := hm3.goneNo hwx hxo; have Hxo := Lib.hid hxo; clear hxo; by_cases hyo : y ∈ wo
       ·
        have l2 := hm3.goneYes hwy hyo; have Hyo := Lib.hid hyo; clear hyo; go_wp2_with fail; go_roundg (gk - 1)
        case measure => have := Hk.out; omega
        case rel => exact ⟨k + 1, c2, F, root, by have := Hk.out; omega, by go_num, by omega, hF3, HH.out, by rw [Htk.out]; exact HRoot.out.skip (.inr Hyo.out), hbox3, hbl3, by simp; omega⟩
       ·
        have l2 := hm3.goneNo hwy hyo; have Hyo := Lib.hid hyo; clear hyo; go_upto_region 15 with (fail)
        clear l1 l2 c0 c1 c3; have d0 : (wr.alloc (.cells #[.int .i64 x, .int .i64 y, .int .i64 z] 38)).cell? ⟨wr.heap.size, 0, none⟩ = some (.int .i64 x) := by simp
        have d1 : (wr.alloc (.cells #[.int .i64 x, .int .i64 y, .int .i64 z] 38)).cell? ⟨wr.heap.size, 1, none⟩ = some (.int .i64 y) := by simp
        have hsz3 : w2.heap.size + 2 ≤ (wr.alloc (.cells #[.int .i64 x, .int .i64 y, .int .i64 z] 38)).heap.size := by simp; omega
        generalize wr.alloc (.cells #[.int .i64 x, .int .i64 y, .int .i64 z] 38) = wa at hm3 hF3 hbl3 hbox3 d0 d1 hsz3 ⊢; have hfx := fun n => (find_walk (w2.heap.size + 1) w2.heap.size c2 F root x (wa.drewN n) hbox3 hF3 HH.out k0 (by omega)).mono fun _ _ h => (⟨h.1, h.2.symm⟩ : _ ∧ _)
        have hfy := fun n => (find_walk (w2.heap.size + 1) w2.heap.size c2 F root y (wa.drewN n) hbox3 hF3 HH.out (by omega) (by omega)).mono fun _ _ h => (⟨h.1, h.2.symm⟩ : _ ∧ _)
        go_quiet ((first | (go_at_call_of 67 (Value.int .i64 x); exact Calls.quiet_of_same (hfx _)) | (go_at_call_of 67 (Value.int .i64 y); exact Calls.quiet_of_same (hfy _))))
        clear hfx hfy; have px := HH.out.le x; have py := HH.out.le y; have p0 := HH.out.nn x k0; have q0 := HH.out.nn y (by omega); have hstep := HH.out.step k0 (show (0 : Int) ≤ y by omega); have hroot2 := HRoot.out.unite (k := (x, y, z)) Hxo.out Hyo.out; rw [← Htk.out] at hroot2; simp only at hroot2; obtain ⟨p, hp⟩ : ∃ p, root x = p := ⟨_, rfl⟩
        obtain ⟨q, hq⟩ : ∃ q, root y = q := ⟨_, rfl⟩
        rw [hp, hq] at hstep hroot2 ⊢; rw [hp] at px p0; rw [hq] at py q0; clear hp hq; have Hstep := Lib.hid hstep; have Hroot2 := Lib.hid hroot2; clear hstep hroot2; replace hm3 : MZ (wa.drewN nq) w1.heap.size c (goneF wo) := hm3; replace hF3 : MZ (wa.drewN nq) w2.heap.size c2 F := hF3; replace hbl3 : Below w2.heap.size w2 (wa.drewN nq) := below_drewN hbl3 _; replace hbox3 : (wa.drewN nq).cell? ⟨w2.heap.size + 1, 0, none⟩ = some (.map (some w2.heap.size)) := hbox3; replace d0 : (wa.drewN nq).cell? ⟨wr.heap.size, 0, none⟩ = some (.int .i64 x) := d0; replace d1 : (wa.drewN nq).cell? ⟨wr.heap.size, 1, none⟩ = some (.int .i64 y) := d1; replace hsz3 : w2.heap.size + 2 ≤ (wa.drewN nq).heap.size := hsz3; generalize wa.drewN nq = wb at hm3 hF3 hbl3 hbox3 d0 d1 hsz3 ⊢; clear hm hF hbox hbl; have hwM : WfZ (max p q) := wfZ_of (by omega); have hwm : WfZ (min p q) := wfZ_of (by omega); have HM := Lib.hid hwM; have Hm := Lib.hid hwm; have Hwx := Lib.hid hwx; have Hwy := Lib.hid hwy; clear hwM hwm hwx hwy; go_wp2_with (at_mapUpdate; refine wpList_put_MZ rfl _ _ _ rfl hF3 (k := (max p q)) (v := (min p q)) rfl rfl rfl HM.out Hm.out (by omega) ?_; intro w5 hm5 hg5); have hm35 := hm3.grown hg5 (by simp; omega); have hbox5 := grown_cell hg5 hbox3 (by simp); have e0 := grown_cell hg5 d0 (by simp; omega); have e1 := grown_cell hg5 d1 (by simp; omega); have hbl5 : Below w2.heap.size w2 w5 := hbl3.grown hg5 (by omega) (fun j hj => by cases hj; exact Nat.le_refl _); have hsz5 : w2.heap.size + 2 ≤ w5.heap.size := by have := hg5.size; omega
        have hwr5 : wr.heap.size < w5.heap.size := World.block_lt_of_cell? w5 _ e0; have hc5 : (if (F (max p q)).isSome then c2 else c2 + 1) ≤ c2 + 1 := by split <;> omega
        clear hm3 hF3 hbl3 hbox3 d0 d1 hsz3 hg5; go_upto_region 17 with (fail)
        refine regionT (fun w' => w'.cell? ⟨w2.heap.size + 1, 0, none⟩ = some (.map (some w2.heap.size)) ∧ w'.cell? ⟨wr.heap.size, 0, none⟩ = some (.int .i64 x) ∧ w'.cell? ⟨wr.heap.size, 1, none⟩ = some (.int .i64 y)) 13 (by kernel_rfl) ?_; have hS : w5.drew.cell? ⟨w2.heap.size + 1, 0, none⟩ = some (.map (some w2.heap.size)) ∧ w5.drew.cell? ⟨wr.heap.size, 0, none⟩ = some (.int .i64 x) ∧ w5.drew.cell? ⟨wr.heap.size, 1, none⟩ = some (.int .i64 y) := ⟨hbox5, e0, e1⟩
        refine tkT 0 ?_ rfl hS ?_ ?_ (by kernel_rfl) (fun _ _ _ h => h) (by rfl); rotate_left; (· intro wS hSw; (try dsimp only at hSw); go_simp; try with_reducible rfl); simp only [Act.put, zA, z0, z1]; refine tkT 1 ?_ rfl hS ?_ ?_ (by kernel_rfl) (fun _ _ _ h => h) (by rfl); rotate_left; (· intro wS hSw; (try dsimp only at hSw); go_simp; try with_reducible rfl); simp only [Act.put, zA, z0, z1]; refine tkT 2 ?_ rfl hS ?_ ?_ (by kernel_rfl) (fun _ _ _ h => h) (by rfl); rotate_left; (· intro wS hSw; (try dsimp only at hSw); go_simp; try with_reducible rfl); simp only [Act.put, zA, z0, z1]; refine tkT 3 ?_ rfl hS ?_ ?_ (by kernel_rfl) (fun _ _ _ h => h) (by rfl); rotate_left; (· intro wS hSw; (try dsimp only at hSw); go_simp; try with_reducible rfl); simp only [Act.put, zA, z0, z1]; refine tkT 4 ?_ rfl hS ?_ ?_ (by kernel_rfl) (fun _ _ _ h => h) (by rfl); rotate_left; (· intro wS hSw; (try dsimp only at hSw); go_simp; try with_reducible rfl); simp only [Act.put, zA, z0, z1]; refine tkT 5 ?_ rfl hS ?_ ?_ (by kernel_rfl) (fun _ _ _ h => h) (by rfl); rotate_left; (· intro wS hSw; (try dsimp only at hSw); go_simp; try with_reducible rfl); simp only [Act.put, zA, z0, z1]; refine tkT 6 ?_ rfl hS ?_ ?_ (by kernel_rfl) (fun _ _ _ h => h) (by rfl); rotate_left; (· intro wS hSw; (try dsimp only at hSw); go_simp; try with_reducible rfl); simp only [Act.put, zA, z0, z1]; refine tkT 7 ?_ rfl hS ?_ ?_ (by kernel_rfl) (fun _ _ _ h => h) (by rfl); rotate_left; (· intro wS hSw; (try dsimp only at hSw); go_simp; try with_reducible rfl); simp only [Act.put, zA, z0, z1]
        refine tkT 8 ?_ rfl hS ?_ ?_ (by kernel_rfl) (fun _ _ _ h => h) (by rfl); rotate_left; (· intro wS hSw; (try dsimp only at hSw); go_simp; try with_reducible rfl); simp only [Act.put, zA, z0, z1]; refine tkT 9 ?_ rfl hS ?_ ?_ (by kernel_rfl) (fun _ _ _ h => h) (by rfl); rotate_left; (· intro wS hSw; (try dsimp only at hSw); go_simp; try with_reducible rfl); simp only [Act.put, zA, z0, z1]; refine tkT 10 ?_ rfl hS ?_ ?_ (by kernel_rfl) (fun _ _ _ h => h) (by rfl); rotate_left; (· intro wS hSw; (try dsimp only at hSw); go_simp; try with_reducible rfl); simp only [Act.put, zA, z0, z1]; refine tkT 11 ?_ rfl hS ?_ ?_ (by kernel_rfl) (fun _ _ _ h => h) (by rfl); rotate_left; (· intro wS hSw; (try dsimp only at hSw); go_simp; try with_reducible rfl); simp only [Act.put, zA, z0, z1]; refine oneT (i := 12) rfl (by kernel_rfl) (fun K hK => ?_); refine step_put_MZ rfl _ _ _ rfl (show MZ w5.drew w2.heap.size _ _ from hm5) (k := y) (v := (min p q)) (by simp [Act.eval]) (by simp [Act.eval]) (by simp [Act.eval]) Hwy.out Hm.out (by omega) ?_; intro w6 hm6 hg6; have hbox6 := grown_cell hg6 hS.1 (by simp); have q0' := grown_cell hg6 hS.2.1 (by simp; omega); have q1' := grown_cell hg6 hS.2.2 (by simp; omega); refine hK _ _ (fun _ => ⟨hbox6, q0', q1'⟩) ?_; clear hK K hS; simp only [Act.put]; refine oneT (i := 13) rfl (by kernel_rfl) (fun K hK => ?_); refine step_put_MZ rfl _ _ _ rfl hm6 (k := x) (v := (min p q)) (by simp [Act.eval]) (by simp [Act.eval]) (by simp [Act.eval]) Hwx.out Hm.out (by split <;> omega) ?_
        intro w7 hm7 hg7; refine hK _ _ (fun h => absurd h (by omega)) ?_; clear hK K; simp only [Act.put]; refine doneT (by kernel_rfl) ?_ _; have hbl7 : Below w2.heap.size w2 w7 := ((hbl5.drew).grown hg6 (by simp; omega) (fun j hj => by cases hj; exact Nat.le_refl _)).grown hg7 (by have := hg6.size; simp at this; omega) (fun j hj => by cases hj; exact Nat.le_refl _); have hbox7 := grown_cell hg7 hbox6 (by simp); have hsz7 : w2.heap.size + 2 ≤ w7.heap.size := by
         have h1 := hg6.size; have h2 := hg7.size; simp at h1 h2; omega
        have hcc : ∀ (P Q : Bool) (c : Nat), (if Q then (if P then c else c + 1) else (if P then c else c + 1) + 1) ≤ c + 2 := by intro P Q c; cases P <;> cases Q <;> simp <;> omega
        have hc7 := hcc ((updF F (max p q) (min p q)) y).isSome ((updF (updF F (max p q) (min p q)) y (min p q)) x).isSome (if (F (max p q)).isSome then c2 else c2 + 1); clear hm35 hm5 hbl5 hbox5 hg6 hg7 hm6 hbox6 q0' q1' e0 e1 hcc; go_wp2_with fail; go_roundg (gk - 1)
        case measure => have := Hk.out; omega
        case rel => exact ⟨k + 1, _, _, _, by have := Hk.out; omega, by go_num, by omega, hm7, Hstep.out, Hroot2.out, hbox7, hbl7, hsz7⟩
     ·
      have hkl : k = ls.length := by omega
      subst hkl; rw [List.take_length] at hRoot; have hm3 := hm.below hbl; obtain ⟨w3, rfl⟩ : ∃ w3 : World, w3 = wr := ⟨_, rfl⟩
      have hr3 := hr2.below hbl; have hB3 := bl_trans hB2 hbl; have hzm := hm3.lt; have hnn := hH.nn; have hcol : ∀ i j, i < ls.length → j < ls.length → (colZ ls wo root i = colZ ls wo root j ↔ LCon ls wo i j) := fun i j hi hj => col_iff hRoot hnn HR.out.2.1 hi hj; have hgr := groupsL_by Hrt.out hcol; obtain ⟨col, hcolE⟩ : ∃ col, col = colZ ls wo root := ⟨_, rfl⟩
      rw [← hcolE] at hgr; have Hgr := Lib.hid hgr; have HcolE := Lib.hid hcolE; have Hnn := Lib.hid hnn; have HRoot := Lib.hid hRoot; have HH := Lib.hid hH; clear hgr hcolE hcol hnn hRoot hH hk hm hbl hr2 hB2; go_wp2_with fail; go_loopg [14, 91] ls.length (fun r so i wr => ∃ (k c3 : Nat) (A : Int → Option Int) (vo : Value) (vals : List Value), vo = so ∧ k + r = ls.length ∧ i = .int .i64 k ∧ LRows wr (w3.heap.size + 1) vo vals ((gIdx col k).map (pickL ls)) ∧ MZ wr w3.heap.size c3 A ∧ c3 ≤ k ∧ AtOf A col k ∧ Below w3.heap.size w3 wr ∧ w3.heap.size + 1 ≤ wr.heap.size)
      case atStart => exact ⟨0, 0, _, _, [], rfl, by omega, rfl, by simpa [gIdx, firsts] using LRows.start _ _, MZ.made w3, Nat.le_refl _, AtOf.start _, bl_alloc _ _, by simp⟩
      case round =>
       obtain ⟨k, c3, A, vo, vals, rfl, hk, rfl, hL, hA, hc3, hAt, hbl, hsz3⟩ := hrel; by_cases hlt : k < ls.length
       ·
        obtain ⟨b, o, rfl, c0, c1, c4⟩ := (hr3.below hbl).at k hlt; have hok := HR.out.2.1 _ (List.getElem_mem hlt); obtain ⟨⟨x, y, z⟩, hx⟩ : ∃ x : Lk, ls[k] = x := ⟨_, rfl⟩
        rw [hx] at c0 c1 c4 hok; have hkx : ls[k]? = some (x, y, z) := by rw [List.getElem?_eq_getElem hlt, hx]
        obtain ⟨k0, k1, k2, k3, k4⟩ := hok; simp only at c0 c1 c4 k0 k1 k2 k3 k4; have hwx : WfZ x := wfZ_of (by omega); have hwy : WfZ y := wfZ_of (by omega); have hg3 := (hm3.below hbl).alloc (.cells #[.int .i64 x, .int .i64 y, .int .i64 z] 38); have hA3 := hA.alloc (.cells #[.int .i64 x, .int .i64 y, .int .i64 z] 38); have hF3 := (hF.below hbl).alloc (.cells #[.int .i64 x, .int .i64 y, .int .i64 z] 38); have hL3 := hL.ext (bl_alloc wr (.cells #[.int .i64 x, .int .i64 y, .int .i64 z] 38)); have hbl3 : Below w3.heap.size w3 (wr.alloc (.cells #[.int .i64 x, .int .i64 y, .int .i64 z] 38)) := bl_trans hbl (bl_alloc _ _); have hbox3 := keep_cell hbl3 hbox; have hvl : vals.length ≤ 1000 := by have := hL.len; rw [List.length_map, gIdx_length] at this; have := firsts_length_le col k; omega
        have Hk := Lib.hid hk; have Hkx := Lib.hid hkx; have HAt := Lib.hid hAt; have Hc3 := Lib.hid hc3; clear hx hk hkx hAt hA; by_cases hxo : x ∈ wo
        ·
         by_cases hyo : y ∈ wo
         ·
          have l1 := hg3.goneYes hwx hxo; have l2 := hg3.goneYes hwy hyo; have hneg := col_neg Hnn.out HR.out.2.1 Hkx.out hxo hyo; rw [← HcolE.out] at hneg; have Hneg := Lib.hid hneg; clear hneg hxo hyo; go_upto_region 28 with (fail)
          clear l1 l2; obtain ⟨G0, hG0⟩ : ∃ G0, G0 = (gIdx col k).map (pickL ls) := ⟨_, rfl⟩
          have hfin : G0 ++ [[(x, y, z)]] = (gIdx col (k + 1)).map (pickL ls) := by
           rw [gIdx_new _ _ Hneg.out.2, List.map_append, hG0]; simp [pickL_one Hkx.out]
          rw [← hG0] at hL3; have hlen := hL3.len; have Hfin := Lib.hid hfin; have Hlen := Lib.hid hlen; clear hfin hG0 hlen c0 c1 c4; have hbl4 := bl_trans hbl3 (bl_alloc (wr.alloc (.cells #[.int .i64 x, .int .i64 y, .int .i64 z] 38)) (.cells #[.int .i64 x, .int .i64 y, .int .i64 z] 38)); have hL4 := (hL3.ext (bl_alloc _ (.cells #[.int .i64 x, .int .i64 y, .int .i64 z] 38))).ext (bl_alloc _ (.cells #[.slice (some ⟨wr.heap.size + 1, 0, none⟩) 1 1] 22)); have hrow1 : Row ((wr.alloc (.cells #[.int .i64 x, .int .i64 y, .int .i64 z] 38)).alloc (.cells #[.int .i64 x, .int .i64 y, .int .i64 z] 38)) (wr.heap.size + 1) 38 3 1 (lkCells [(x, y, z)]) := by
           have := row_new (wr.alloc (.cells #[.int .i64 x, .int .i64 y, .int .i64 z] 38)) #[.int .i64 x, .int .i64 y, .int .i64 z] 38 3 1 rfl (by unfold maxLen; omega); simpa [lkCells] using this
          have hown1 : OwnL _ (.slice (some ⟨wr.heap.size + 1, 0, none⟩) 1 1) [(x, y, z)] := (hrow1.alloc (.cells #[.slice (some ⟨wr.heap.size + 1, 0, none⟩) 1 1] 22)).own rfl (Nat.le_refl _); have hA4 := (hA3.alloc (.cells #[.int .i64 x, .int .i64 y, .int .i64 z] 38)).alloc (.cells #[.slice (some ⟨wr.heap.size + 1, 0, none⟩) 1 1] 22); have hol := hL4.outer; have hn1 : (((wr.alloc (.cells #[.int .i64 x, .int .i64 y, .int .i64 z] 38)).alloc (.cells #[.int .i64 x, .int .i64 y, .int .i64 z] 38)).alloc (.cells #[.slice (some ⟨wr.heap.size + 1, 0, none⟩) 1 1] 22)).cell? ⟨wr.heap.size + 1 + 1, 0, none⟩ = some (.slice (some ⟨wr.heap.size + 1, 0, none⟩) 1 1) := cell_new1 (by simp); have hone : ∀ u ∈ [Value.slice (some ⟨wr.heap.size + 1, 0, none⟩) 1 1], u.oneCell' = true := by intro u hu; rw [List.mem_singleton] at hu; subst hu; rfl
          go_wp2_with (at_builtin; refine wpList_append_row _ rfl (.tmp 107) (.tmp 110) 50 rfl 22 (.slice none 0 0) 1 24 Tryz.underlying50 links_info rfl vo vals.length vals rfl hol ⟨wr.heap.size + 1 + 1, 0, none⟩ 1 1 [.slice (some ⟨wr.heap.size + 1, 0, none⟩) 1 1] rfl rfl (one_new hn1) hone (by omega) (by unfold maxLen; omega) (by omega) ?_); intro g' cap' w5 hr5 hc5 hg5 hor5
          have hL5 := hL4.push hown1 (fun g hg => by
           have hg' : wr.heap.size + 1 = g := Option.some.inj hg; refine ⟨by omega, fun e => ?_, fun i v hv e => ?_⟩
           · have := Own.lt hL.outer e; omega
           · have := hL.rlt hv e; omega) hr5 hc5 hg5 (hor5.imp id (fun h => by simpa using h)) (by simp; omega)
          have hbl5 : Below w3.heap.size w3 w5 := (bl_trans hbl4 (bl_alloc _ _)).grown hg5 (by simp; omega) (fun j hj => by have := hL.lo j hj; omega); have hA5 := hA4.grown hg5 (fun e => by have := hL.lo _ e; omega); have hsz5 : w3.heap.size + 1 ≤ w5.heap.size := by have := hg5.size; simp at this; omega
          clear hL3 hL4 hA3 hA4 hg5 hor5 hr5 hown1 hrow1 hbl4 hn1 hone hol; go_wp2_with fail; go_roundg (gk - 1)
          case measure => have := Hk.out; omega
          case rel => exact ⟨k + 1, c3, A, _, _, rfl, by have := Hk.out; omega, by go_num, by rw [← Hfin.out]; exact hL5, hA5, by have := Hc3.out; omega, HAt.out.neg Hneg.out.2 Hneg.out.1, hbl5, hsz5⟩
         ·
          have l1 := hg3.goneYes hwx hxo; have l2 := hg3.goneNo hwy hyo; have hce := col_end HRoot.out Hkx.out hyo (.inr rfl); clear hxo hyo; rw [← HcolE.out] at hce; have hr0 := Hnn.out y (by omega); have hr1 := HH.out.le y; have hfv := find_walk (w2.heap.size + 1) w2.heap.size c2 F root y _ hbox3 hF3 HH.out (by omega) (by omega); go_upto_region 29 with (fail)
          clear l1 l2 c0 c1 c4; go_wp2_with fail; refine hfv.mono ?_; rintro e w' ⟨rfl, rfl⟩; clear hfv; obtain ⟨rv, hrv⟩ : ∃ rv, rv = root y := ⟨_, rfl⟩
          rw [← hrv] at hce hr0 hr1 ⊢; clear hrv; have e0 : (wr.alloc (.cells #[.int .i64 x, .int .i64 y, .int .i64 z] 38)).cell? ⟨wr.heap.size, 0, none⟩ = some (.int .i64 x) := by simp
          have e1 : (wr.alloc (.cells #[.int .i64 x, .int .i64 y, .int .i64 z] 38)).cell? ⟨wr.heap.size, 1, none⟩ = some (.int .i64 y) := by simp
          have e2 : (wr.alloc (.cells #[.int .i64 x, .int .i64 y, .int .i64 z] 38)).cell? ⟨wr.heap.size, 2, none⟩ = some (.int .i64 z) := by simp
          have hwX : wr.heap.size < (wr.alloc (.cells #[.int .i64 x, .int .i64 y, .int .i64 z] 38)).heap.size := by simp
          have hlt0 : ∀ g, vo.ownBlock = some g → g < wr.heap.size := fun g e => Own.lt hL.outer e; have hlt1 : ∀ (i g : Nat) (v : Value), vals[i]? = some v → v.ownBlock = some g → g < wr.heap.size := fun i g v hv e => hL.rlt hv e; have Hlt0 := Lib.hid hlt0; have Hlt1 := Lib.hid hlt1; clear hL hlt0 hlt1 hF3 hg3 hbox3; generalize wr.alloc (.cells #[.int .i64 x, .int .i64 y, .int .i64 z] 38) = wX at hA3 hL3 hbl3 e0 e1 e2 hwX ⊢; have hwrv : WfZ rv := wfZ_of (by omega); have hlk := hA3.lookOk hwrv; have Hce := Lib.hid hce; clear hce; cases hAr : A rv with
          | some q =>
           rw [hAr] at hlk; obtain ⟨p, i, rfl, hp, hci⟩ := HAt.out.1 _ _ hAr; have hAt2 := HAt.out.old hp (by rw [hci, Hce.out]); have hgp : ((gIdx col k).map (pickL ls))[p]? = some (pickL ls (ofCol col k (col i))) := by rw [List.getElem?_map, gIdx_get _ _ _ _ hp]; rfl
           have hfin : ((gIdx col k).map (pickL ls)).set p (pickL ls (ofCol col k (col i)) ++ [(x, y, z)]) = (gIdx col (k + 1)).map (pickL ls) := by
            rw [gIdx_old _ _ p i hp (by rw [hci, Hce.out]), List.map_set, pickL_append, pickL_one Hkx.out, hci, Hce.out]
           have hrl : (pickL ls (ofCol col k (col i))).length ≤ 1000 := by have := pickL_length_le ls (ofCol col k (col i)); have := ofCol_length_le col k (col i); omega
           have hpl : p < vals.length := by rw [hL3.len, List.length_map, gIdx_length]; exact (List.getElem?_eq_some_iff.1 hp).1
           generalize pickL ls (ofCol col k (col i)) = rr at hgp hfin hrl; generalize (gIdx col k).map (pickL ls) = gsX at hL3 hgp hfin; have hcX : c3 ≤ k + 1 := by have := Hc3.out; omega
           have HAt2 := Lib.hid hAt2; have Hfin := Lib.hid hfin; have Hgp := Lib.hid hgp; clear hAt2 hfin hgp hAr hp hci; simp only [Option.getD_some, Option.isSome_some] at hlk; obtain ⟨u, hu⟩ : ∃ u, vals[p]? = some u := ⟨vals[p], by simp⟩
           have hub : ∀ g, u.ownBlock = some g → g ≠ wr.heap.size := fun g e => Nat.ne_of_lt (Hlt1.out p g u hu e); have Hub := Lib.hid hub; clear hub; rcases hL3.outer.2 with ⟨_, h0⟩ | ⟨G, cap', hvo, hcG, hrG⟩
           · omega
           subst hvo; have hGc : wX.cell? ⟨G, p, none⟩ = some u := by rw [hrG.cell? (p) hpl]; exact hu
           have hGf := hrG.frozen (p); have hown : Own wX u 38 3 rr.length (lkCells rr) := hL3.row (p) u rr hu Hgp.out; have hul := hL3.rlo (p) u; have hol := Own.lt hL3.outer (g := G) rfl; have hGlo := hL3.lo G rfl; have hGne := hul G hu; have Hu := Lib.hid hu; have Hul := Lib.hid hul; have HL := Lib.hid hL3; clear hu hul hL3; have ip0 : (0 : Int) ≤ ((p : Nat) : Int) := by omega
           have ip1 : ((p : Nat) : Int) < ((vals.length : Nat) : Int) := by omega
           have ip2 : ((p : Nat) : Int) < ((p : Nat) : Int) + 1 := by omega
           have hone3 : ∀ u ∈ [Value.int .i64 x, Value.int .i64 y, Value.int .i64 z], u.oneCell' = true := by intro u hu; simp only [List.mem_cons, List.not_mem_nil, or_false] at hu; rcases hu with rfl | rfl | rfl <;> rfl
           have hnews3 : ∀ W : World, ∀ (j : Nat) v, [Value.int .i64 x, Value.int .i64 y, Value.int .i64 z][j]? = some v → (W.alloc (.cells #[.int .i64 x, .int .i64 y, .int .i64 z] 38)).cell? ((⟨W.heap.size, 0, none⟩ : Addr).add j) = some v := by
            intro W j v hj; match j with
            | 0 => simp at hj; subst hj; simp [Addr.add]
            | 1 => simp at hj; subst hj; simp [Addr.add]
            | 2 => simp at hj; subst hj; simp [Addr.add]
            | j + 3 => simp at hj
           have Hone3 := Lib.hid hone3; have Hnews3 := Lib.hid hnews3; clear hone3 hnews3; go_upto_region 35 with (fail)
           refine regionT (fun w' => w'.cell? ⟨G, p, none⟩ = some u ∧ w'.cell? ⟨wr.heap.size, 0, none⟩ = some (.int .i64 x) ∧ w'.cell? ⟨wr.heap.size, 1, none⟩ = some (.int .i64 y) ∧ w'.cell? ⟨wr.heap.size, 2, none⟩ = some (.int .i64 z)) 9 (by kernel_rfl) ?_; have hS : wX.drew.cell? ⟨G, p, none⟩ = some u ∧ wX.drew.cell? ⟨wr.heap.size, 0, none⟩ = some (.int .i64 x) ∧ wX.drew.cell? ⟨wr.heap.size, 1, none⟩ = some (.int .i64 y) ∧ wX.drew.cell? ⟨wr.heap.size, 2, none⟩ = some (.int .i64 z) := ⟨hGc, e0, e1, e2⟩
           refine tkT 0 ?_ rfl hS ?_ ?_ (by kernel_rfl) (fun _ _ _ h => h) (by rfl); rotate_left; (· intro wS hSw; (try dsimp only at hSw); go_simp; try with_reducible rfl); simp only [Act.put, zA, z0, z1]; refine tkT 1 ?_ rfl hS ?_ ?_ (by kernel_rfl) (fun _ _ _ h => h) (by rfl); rotate_left; (· intro wS hSw; (try dsimp only at hSw); go_simp; try with_reducible rfl); simp only [Act.put, zA, z0, z1]; refine tkT 2 ?_ rfl hS ?_ ?_ (by kernel_rfl) (fun _ _ _ h => h) (by rfl); rotate_left; (· intro wS hSw; (try dsimp only at hSw); go_simp; try with_reducible rfl); simp only [Act.put, zA, z0, z1]; refine tkT 3 ?_ rfl hS ?_ ?_ (by kernel_rfl) (fun _ _ _ h => h) (by rfl); rotate_left; (· intro wS hSw; (try dsimp only at hSw); go_simp; try with_reducible rfl); simp only [Act.put, zA, z0, z1]; refine tkT 4 ?_ rfl hS ?_ ?_ (by kernel_rfl) (fun _ _ _ h => h) (by rfl); rotate_left; (· intro wS hSw; (try dsimp only at hSw); go_simp; try with_reducible rfl); simp only [Act.put, zA, z0, z1]; refine tkT 5 ?_ rfl hS ?_ ?_ (by kernel_rfl) (fun _ _ _ h => h) (by rfl); rotate_left; (· intro wS hSw; (try dsimp only at hSw); go_simp; try with_reducible rfl); simp only [Act.put, zA, z0, z1]; refine tkT 6 ?_ rfl hS ?_ ?_ (by kernel_rfl) (fun _ _ _ h => h) (by rfl); rotate_left; (· intro wS hSw; (try dsimp only at hSw); go_simp; try with_reducible rfl); simp only [Act.put, zA, z0, z1]; refine oneT (i := 7) rfl (by kernel_rfl) (fun K hK => ?_); go_simp; have bW : Below wX.heap.size wX (wX.alloc (.cells #[.int .i64 x, .int .i64 y, .int .i64 z] 38)).drew := (bl_alloc _ _).drew
           refine hK _ _ (fun _ => ⟨keep_cell bW hGc, keep_cell bW e0, keep_cell bW e1, keep_cell bW e2⟩) ?_; clear hK K; refine oneT (i := 8) rfl (by kernel_rfl) (fun K hK => ?_); refine step_append_row rfl (.tmp 136) (.tmp 138) 22 rfl 38 (.agg #[.int .i64 0, .int .i64 0, .int .i64 0]) 3 24 Tryz.underlying22 link_info rfl u _ _ (by simp [Act.eval]) (hown.drew.alloc _) ⟨wX.heap.size, 0, none⟩ 1 1 [.int .i64 x, .int .i64 y, .int .i64 z] (by simp [Act.eval]) rfl (Hnews3.out _) Hone3.out (by omega) (by unfold maxLen; omega) (by omega) ?_; intro g2 c2' w8 hr8 hc8 hg8 hor8; have hune : ∀ b', (b' = wr.heap.size ∨ b' = G ∨ b' = w3.heap.size) → u.ownBlock ≠ some b' := fun b' hb' e => by
            have h1 := Hul.out b' Hu.out e; have h2 := Hub.out b' e; rcases hb' with rfl | rfl | rfl
            · exact h2 rfl
            · exact h1.2 rfl
            · omega
           have r0 := grown_cell hg8 (keep_cell bW hGc) (hune G (.inr (.inl rfl))); have r1 := grown_cell hg8 (keep_cell bW e0) (hune _ (.inl rfl)); have r2 := grown_cell hg8 (keep_cell bW e1) (hune _ (.inl rfl)); have r3 := grown_cell hg8 (keep_cell bW e2) (hune _ (.inl rfl)); have r4 := grown_frozen hg8 (by simp; omega) ((bW.frozen (p := ⟨G, p, none⟩) hol).trans hGf) (hune G (.inr (.inl rfl))); refine hK _ _ (fun _ => ⟨r0, r1, r2, r3⟩) ?_; clear hK K; refine oneT (i := 9) rfl (by kernel_rfl) (fun K hK => ?_); go_simp; refine hK _ _ (fun h => absurd h (by omega)) ?_; clear hK K; refine oneT (i := 10) rfl (by kernel_rfl) (fun K hK => ?_); go_simp; refine hK _ _ (fun h => absurd h (by omega)) ?_; clear hK K; refine doneT (by kernel_rfl) ?_ _; have hst := (HL.out.ext bW).stored (r' := rr ++ [(x, y, z)]) rfl Hu.out Hgp.out (by rw [lkCells_append]; exact hr8) (by simpa using hc8) hg8 (hor8.imp id (fun h => h)) (by simp; omega); rw [Hfin.out, show (rr ++ [(x, y, z)]).length = rr.length + 1 by simp] at hst; have hA8 := ((hA3.below bW).grown hg8 (hune _ (.inr (.inr rfl)))).other (a := ⟨G, p, none⟩) (by simp; omega) (.slice (some ⟨g2, 0, none⟩) (rr.length + 1) c2'); have hbl8 : Below w3.heap.size w3 (w8.setCell ⟨G, p, none⟩ (.slice (some ⟨g2, 0, none⟩) (rr.length + 1) c2')) := ((bl_trans hbl3 bW).grown hg8 (by simp; omega) (fun j hj => by have := Hul.out j Hu.out hj; omega)).setCell (by simp; omega) _; have hsz8 : w3.heap.size + 1 ≤ (w8.setCell ⟨G, p, none⟩ (.slice (some ⟨g2, 0, none⟩) (rr.length + 1) c2')).heap.size := by have := hg8.size; simp at this ⊢; omega
           clear r0 r1 r2 r3 r4 hg8 hr8 hor8 bW hGc e0 e1 e2 hGf hS hown hc8 hune hA3 hbl3; go_wp2_with fail; go_roundg (gk - 1)
           case measure => have := Hk.out; omega
           case rel => exact ⟨k + 1, _, _, _, _, rfl, by have := Hk.out; omega, by go_num, hst, hA8, hcX, HAt2.out, hbl8, hsz8⟩
          | none =>
           rw [hAr] at hlk; simp only [Option.getD_none, Option.isSome_none] at hlk; have hcnn : 0 ≤ col k := by rw [Hce.out]; exact hr0
           have hAk : A (col k) = none := by rw [Hce.out]; exact hAr
           have hnew := HAt.out.fresh hcnn hAk; have hAt2 := HAt.out.new hcnn hAk; have hvl2 : vals.length = (firsts col k).length := by rw [hL3.len, List.length_map, gIdx_length]
           rw [Hce.out, ← hvl2] at hAt2; have hfin0 : (gIdx col k).map (pickL ls) ++ [[(x, y, z)]] = (gIdx col (k + 1)).map (pickL ls) := by rw [gIdx_new _ _ hnew, List.map_append]; simp [pickL_one Hkx.out]
           obtain ⟨gs0, hgs0⟩ : ∃ g, g = (gIdx col k).map (pickL ls) := ⟨_, rfl⟩
           rw [← hgs0] at hL3 hfin0; obtain ⟨ao, co, hvo, _, hco1, hco2⟩ := hL3.read; have hgl := hL3.len; rw [← hgl] at hvo; have hcX : (if (A rv).isSome then c3 else c3 + 1) ≤ k + 1 := by have := Hc3.out; rw [hAr]; simp; omega
           obtain ⟨rr, hrr⟩ : ∃ rr : List Lk, rr = [] := ⟨_, rfl⟩
           have hfin : (gs0 ++ [rr]).set vals.length (rr ++ [(x, y, z)]) = (gIdx col (k + 1)).map (pickL ls) := by rw [← hfin0, hgl, hrr]; simp
           have hgp : (gs0 ++ [rr])[vals.length]? = some rr := by rw [hgl]; simp
           have Hrr := Lib.hid hrr; clear hrr; have HAt2 := Lib.hid hAt2; have Hfin := Lib.hid hfin; have Hgp := Lib.hid hgp; have hc3' : c3 ≤ 1000 := by have := Hc3.out; omega
           have hco3 : vals.length ≤ co := by omega
           clear hAt2 hfin hgp hfin0 hnew hAk hcnn hvl2 hgs0 hAr hgl hco1; subst hvo; go_upto_region 34 with (at_mapUpdate; refine wpList_put_MZ rfl _ _ _ rfl hA3 (k := rv) (v := (vals.length : Int)) rfl rfl rfl hwrv (wfZ_of (by omega)) (by omega) ?_; intro w5 hA5 hg5)
           have hn3 : ∀ g, w3.heap.size + 1 ≤ g → some w3.heap.size ≠ some g := fun g h e => by cases e; omega
           have hL5 := (hL3.grown hg5 (fun g e => hn3 g (hL3.lo g e)) (fun i v g h1 h2 => hn3 g (hL3.rlo i v g h1 h2).1)).ext (bl_alloc w5 (.cells #[.slice none 0 0] 22)); have hbl5 := bl_trans (hbl3.grown hg5 (by omega) (fun j hj => by cases hj; exact Nat.le_refl _)) (bl_alloc w5 (.cells #[.slice none 0 0] 22)); have hw3r : wr.heap.size ≠ w3.heap.size := by omega
           have hbw5 := bl_alloc w5 (.cells #[.slice none 0 0] 22); have d0 := keep_cell hbw5 (grown_cell hg5 e0 (fun e => hw3r (Option.some.inj e).symm)); have d1 := keep_cell hbw5 (grown_cell hg5 e1 (fun e => hw3r (Option.some.inj e).symm)); have d2 := keep_cell hbw5 (grown_cell hg5 e2 (fun e => hw3r (Option.some.inj e).symm)); have hA5a := hA5.alloc (.cells #[.slice none 0 0] 22); have hsz5 : wr.heap.size < w5.heap.size := by have := hg5.size; omega
           have hol := hL5.outer; have hn1 : (w5.alloc (.cells #[.slice none 0 0] 22)).cell? ⟨w5.heap.size, 0, none⟩ = some (.slice none 0 0) := cell_new1 rfl; have hone : ∀ u ∈ [Value.slice none 0 0], u.oneCell' = true := by intro u hu; rw [List.mem_singleton] at hu; subst hu; rfl
           clear hA3 hA5 hL3 hbl3 e0 e1 e2 hlk hn3 hg5 hbw5; go_wp2_with (at_builtin; refine wpList_append_row _ rfl (.tmp 128) (.tmp 129) 50 rfl 22 (.slice none 0 0) 1 24 Tryz.underlying50 links_info rfl _ vals.length vals rfl hol ⟨w5.heap.size, 0, none⟩ 1 1 [.slice none 0 0] rfl rfl (one_new hn1) hone (by omega) (by unfold maxLen; omega) (by omega) ?_); intro G cap' w6 hrG hc6 hg6 hor6; have hL6 := hL5.push (u := .slice none 0 0) (r := rr) (by rw [Hrr.out]; exact own_nil _ _ _) (fun g hg => by simp [Value.ownBlock] at hg) hrG hc6 hg6 (hor6.imp id (fun h => by simpa using h)) (by simp; omega); have hvob : ∀ g, (Value.slice ao vals.length co).ownBlock = some g → w3.heap.size + 1 ≤ g ∧ g < wr.heap.size := fun g e => ⟨hL5.lo g e, Hlt0.out g e⟩
           have e0 := grown_cell hg6 d0 (fun e => by have := hvob _ e; omega); have e1 := grown_cell hg6 d1 (fun e => by have := hvob _ e; omega); have e2 := grown_cell hg6 d2 (fun e => by have := hvob _ e; omega); have hA6 := hA5a.grown hg6 (fun e => by have := hvob _ e; omega); have hbl6 : Below w3.heap.size w3 w6 := hbl5.grown hg6 (by simp; omega) (fun j hj => by have := hvob j hj; omega); have hwX : wr.heap.size < w6.heap.size := by have := hg6.size; simp at this; omega
           have hpl : vals.length < (vals ++ [Value.slice none 0 0]).length := by simp
           obtain ⟨u, hu0⟩ : ∃ u, u = Value.slice none 0 0 := ⟨_, rfl⟩
           have hu : (vals ++ [Value.slice none 0 0])[vals.length]? = some u := by rw [hu0]; simp
           have hub : ∀ g, u.ownBlock = some g → g ≠ wr.heap.size := fun g e => by rw [hu0] at e; simp [Value.ownBlock] at e
           have hrl : rr.length ≤ 1000 := by rw [Hrr.out]; simp
           have Hub := Lib.hid hub; generalize vals ++ [Value.slice none 0 0] = vals2 at hL6 hrG hpl hu; generalize gs0 ++ [rr] = gs2 at hL6 Hgp Hfin; clear hub hu0 Hrr d0 d1 d2 hA5a hL5 hbl5 hn1 hone hol hg6 hor6 hvob; have hGc : w6.cell? ⟨G, vals.length, none⟩ = some u := by rw [hrG.cell? (vals.length) hpl]; exact hu
           have hGf := hrG.frozen (vals.length); have hown : Own w6 u 38 3 rr.length (lkCells rr) := hL6.row (vals.length) u rr hu Hgp.out; have hul := hL6.rlo (vals.length) u; have hol := Own.lt hL6.outer (g := G) rfl; have hGlo := hL6.lo G rfl; have hGne := hul G hu; have Hu := Lib.hid hu; have Hul := Lib.hid hul; have HL := Lib.hid hL6; clear hu hul hL6; have ip0 : (0 : Int) ≤ ((vals.length : Nat) : Int) := by omega
           have ip1 : ((vals.length : Nat) : Int) < (((vals.length+1) : Nat) : Int) := by omega
           have ip2 : ((vals.length : Nat) : Int) < ((vals.length : Nat) : Int) + 1 := by omega
           have hone3 : ∀ u ∈ [Value.int .i64 x, Value.int .i64 y, Value.int .i64 z], u.oneCell' = true := by intro u hu; simp only [List.mem_cons, List.not_mem_nil, or_false] at hu; rcases hu with rfl | rfl | rfl <;> rfl
           have hnews3 : ∀ W : World, ∀ (j : Nat) v, [Value.int .i64 x, Value.int .i64 y, Value.int .i64 z][j]? = some v → (W.alloc (.cells #[.int .i64 x, .int .i64 y, .int .i64 z] 38)).cell? ((⟨W.heap.size, 0, none⟩ : Addr).add j) = some v := by
            intro W j v hj; match j with
            | 0 => simp at hj; subst hj; simp [Addr.add]
            | 1 => simp at hj; subst hj; simp [Addr.add]
            | 2 => simp at hj; subst hj; simp [Addr.add]
            | j + 3 => simp at hj
           have Hone3 := Lib.hid hone3; have Hnews3 := Lib.hid hnews3; clear hone3 hnews3; go_upto_region 35 with (fail)
           refine regionT (fun w' => w'.cell? ⟨G, vals.length, none⟩ = some u ∧ w'.cell? ⟨wr.heap.size, 0, none⟩ = some (.int .i64 x) ∧ w'.cell? ⟨wr.heap.size, 1, none⟩ = some (.int .i64 y) ∧ w'.cell? ⟨wr.heap.size, 2, none⟩ = some (.int .i64 z)) 9 (by kernel_rfl) ?_; have hS : w6.drew.cell? ⟨G, vals.length, none⟩ = some u ∧ w6.drew.cell? ⟨wr.heap.size, 0, none⟩ = some (.int .i64 x) ∧ w6.drew.cell? ⟨wr.heap.size, 1, none⟩ = some (.int .i64 y) ∧ w6.drew.cell? ⟨wr.heap.size, 2, none⟩ = some (.int .i64 z) := ⟨hGc, e0, e1, e2⟩
           refine tkT 0 ?_ rfl hS ?_ ?_ (by kernel_rfl) (fun _ _ _ h => h) (by rfl); rotate_left; (· intro wS hSw; (try dsimp only at hSw); go_simp; try with_reducible rfl); simp only [Act.put, zA, z0, z1]; refine tkT 1 ?_ rfl hS ?_ ?_ (by kernel_rfl) (fun _ _ _ h => h) (by rfl); rotate_left; (· intro wS hSw; (try dsimp only at hSw); go_simp; try with_reducible rfl); simp only [Act.put, zA, z0, z1]; refine tkT 2 ?_ rfl hS ?_ ?_ (by kernel_rfl) (fun _ _ _ h => h) (by rfl); rotate_left; (· intro wS hSw; (try dsimp only at hSw); go_simp; try with_reducible rfl); simp only [Act.put, zA, z0, z1]; refine tkT 3 ?_ rfl hS ?_ ?_ (by kernel_rfl) (fun _ _ _ h => h) (by rfl); rotate_left; (· intro wS hSw; (try dsimp only at hSw); go_simp; try with_reducible rfl); simp only [Act.put, zA, z0, z1]; refine tkT 4 ?_ rfl hS ?_ ?_ (by kernel_rfl) (fun _ _ _ h => h) (by rfl); rotate_left; (· intro wS hSw; (try dsimp only at hSw); go_simp; try with_reducible rfl); simp only [Act.put, zA, z0, z1]; refine tkT 5 ?_ rfl hS ?_ ?_ (by kernel_rfl) (fun _ _ _ h => h) (by rfl); rotate_left; (· intro wS hSw; (try dsimp only at hSw); go_simp; try with_reducible rfl); simp only [Act.put, zA, z0, z1]; refine tkT 6 ?_ rfl hS ?_ ?_ (by kernel_rfl) (fun _ _ _ h => h) (by rfl); rotate_left; (· intro wS hSw; (try dsimp only at hSw); go_simp; try with_reducible rfl); simp only [Act.put, zA, z0, z1]; refine oneT (i := 7) rfl (by kernel_rfl) (fun K hK => ?_); go_simp; have bW : Below w6.heap.size w6 (w6.alloc (.cells #[.int .i64 x, .int .i64 y, .int .i64 z] 38)).drew := (bl_alloc _ _).drew
           refine hK _ _ (fun _ => ⟨keep_cell bW hGc, keep_cell bW e0, keep_cell bW e1, keep_cell bW e2⟩) ?_; clear hK K; refine oneT (i := 8) rfl (by kernel_rfl) (fun K hK => ?_); refine step_append_row rfl (.tmp 136) (.tmp 138) 22 rfl 38 (.agg #[.int .i64 0, .int .i64 0, .int .i64 0]) 3 24 Tryz.underlying22 link_info rfl u _ _ (by simp [Act.eval]) (hown.drew.alloc _) ⟨w6.heap.size, 0, none⟩ 1 1 [.int .i64 x, .int .i64 y, .int .i64 z] (by simp [Act.eval]) rfl (Hnews3.out _) Hone3.out (by omega) (by unfold maxLen; omega) (by omega) ?_; intro g2 c2' w8 hr8 hc8 hg8 hor8; have hune : ∀ b', (b' = wr.heap.size ∨ b' = G ∨ b' = w3.heap.size) → u.ownBlock ≠ some b' := fun b' hb' e => by
            have h1 := Hul.out b' Hu.out e; have h2 := Hub.out b' e; rcases hb' with rfl | rfl | rfl
            · exact h2 rfl
            · exact h1.2 rfl
            · omega
           have r0 := grown_cell hg8 (keep_cell bW hGc) (hune G (.inr (.inl rfl))); have r1 := grown_cell hg8 (keep_cell bW e0) (hune _ (.inl rfl)); have r2 := grown_cell hg8 (keep_cell bW e1) (hune _ (.inl rfl)); have r3 := grown_cell hg8 (keep_cell bW e2) (hune _ (.inl rfl)); have r4 := grown_frozen hg8 (by simp; omega) ((bW.frozen (p := ⟨G, vals.length, none⟩) hol).trans hGf) (hune G (.inr (.inl rfl))); refine hK _ _ (fun _ => ⟨r0, r1, r2, r3⟩) ?_; clear hK K; refine oneT (i := 9) rfl (by kernel_rfl) (fun K hK => ?_); go_simp; refine hK _ _ (fun h => absurd h (by omega)) ?_; clear hK K; refine oneT (i := 10) rfl (by kernel_rfl) (fun K hK => ?_); go_simp; refine hK _ _ (fun h => absurd h (by omega)) ?_; clear hK K; refine doneT (by kernel_rfl) ?_ _; have hst := (HL.out.ext bW).stored (r' := rr ++ [(x, y, z)]) rfl Hu.out Hgp.out (by rw [lkCells_append]; exact hr8) (by simpa using hc8) hg8 (hor8.imp id (fun h => h)) (by simp; omega); rw [Hfin.out, show (rr ++ [(x, y, z)]).length = rr.length + 1 by simp] at hst; have hA8 := ((hA6.below bW).grown hg8 (hune _ (.inr (.inr rfl)))).other (a := ⟨G, vals.length, none⟩) (by simp; omega) (.slice (some ⟨g2, 0, none⟩) (rr.length + 1) c2'); have hbl8 : Below w3.heap.size w3 (w8.setCell ⟨G, vals.length, none⟩ (.slice (some ⟨g2, 0, none⟩) (rr.length + 1) c2')) := ((bl_trans hbl6 bW).grown hg8 (by simp; omega) (fun j hj => by have := Hul.out j Hu.out hj; omega)).setCell (by simp; omega) _; have hsz8 : w3.heap.size + 1 ≤ (w8.setCell ⟨G, vals.length, none⟩ (.slice (some ⟨g2, 0, none⟩) (rr.length + 1) c2')).heap.size := by have := hg8.size; simp at this ⊢; omega
           clear r0 r1 r2 r3 r4 hg8 hr8 hor8 bW hGc e0 e1 e2 hGf hS hown hc8 hune hA6 hbl6; go_wp2_with fail; go_roundg (gk - 1)
           case measure => have := Hk.out; omega
           case rel => exact ⟨k + 1, _, _, _, _, rfl, by have := Hk.out; omega, by go_num, hst, hA8, hcX, HAt2.out, hbl8, hsz8⟩
        ·
         have l1 := hg3.goneNo hwx hxo; have hce := col_end HRoot.out Hkx.out hxo (.inl rfl); clear hxo; rw [← HcolE.out] at hce; have hr0 := Hnn.out x (by omega); have hr1 := HH.out.le x; have hfv := find_walk (w2.heap.size + 1) w2.heap.size c2 F root x _ hbox3 hF3 HH.out (by omega) (by omega); go_upto_region 29 with (fail)
         clear l1   c0 c1 c4; go_wp2_with fail; refine hfv.mono ?_; rintro e w' ⟨rfl, rfl⟩; clear hfv; obtain ⟨rv, hrv⟩ : ∃ rv, rv = root x := ⟨_, rfl⟩
         rw [← hrv] at hce hr0 hr1 ⊢; clear hrv; have e0 : (wr.alloc (.cells #[.int .i64 x, .int .i64 y, .int .i64 z] 38)).cell? ⟨wr.heap.size, 0, none⟩ = some (.int .i64 x) := by simp
         have e1 : (wr.alloc (.cells #[.int .i64 x, .int .i64 y, .int .i64 z] 38)).cell? ⟨wr.heap.size, 1, none⟩ = some (.int .i64 y) := by simp
         have e2 : (wr.alloc (.cells #[.int .i64 x, .int .i64 y, .int .i64 z] 38)).cell? ⟨wr.heap.size, 2, none⟩ = some (.int .i64 z) := by simp
         have hwX : wr.heap.size < (wr.alloc (.cells #[.int .i64 x, .int .i64 y, .int .i64 z] 38)).heap.size := by simp
         have hlt0 : ∀ g, vo.ownBlock = some g → g < wr.heap.size := fun g e => Own.lt hL.outer e; have hlt1 : ∀ (i g : Nat) (v : Value), vals[i]? = some v → v.ownBlock = some g → g < wr.heap.size := fun i g v hv e => hL.rlt hv e; have Hlt0 := Lib.hid hlt0; have Hlt1 := Lib.hid hlt1; clear hL hlt0 hlt1 hF3 hg3 hbox3; generalize wr.alloc (.cells #[.int .i64 x, .int .i64 y, .int .i64 z] 38) = wX at hA3 hL3 hbl3 e0 e1 e2 hwX ⊢; have hwrv : WfZ rv := wfZ_of (by omega); have hlk := hA3.lookOk hwrv; have Hce := Lib.hid hce; clear hce; cases hAr : A rv with
         | some q =>
          rw [hAr] at hlk; obtain ⟨p, i, rfl, hp, hci⟩ := HAt.out.1 _ _ hAr; have hAt2 := HAt.out.old hp (by rw [hci, Hce.out]); have hgp : ((gIdx col k).map (pickL ls))[p]? = some (pickL ls (ofCol col k (col i))) := by rw [List.getElem?_map, gIdx_get _ _ _ _ hp]; rfl
          have hfin : ((gIdx col k).map (pickL ls)).set p (pickL ls (ofCol col k (col i)) ++ [(x, y, z)]) = (gIdx col (k + 1)).map (pickL ls) := by
           rw [gIdx_old _ _ p i hp (by rw [hci, Hce.out]), List.map_set, pickL_append, pickL_one Hkx.out, hci, Hce.out]
          have hrl : (pickL ls (ofCol col k (col i))).length ≤ 1000 := by have := pickL_length_le ls (ofCol col k (col i)); have := ofCol_length_le col k (col i); omega
          have hpl : p < vals.length := by rw [hL3.len, List.length_map, gIdx_length]; exact (List.getElem?_eq_some_iff.1 hp).1
          generalize pickL ls (ofCol col k (col i)) = rr at hgp hfin hrl; generalize (gIdx col k).map (pickL ls) = gsX at hL3 hgp hfin; have hcX : c3 ≤ k + 1 := by have := Hc3.out; omega
          have HAt2 := Lib.hid hAt2; have Hfin := Lib.hid hfin; have Hgp := Lib.hid hgp; clear hAt2 hfin hgp hAr hp hci; simp only [Option.getD_some, Option.isSome_some] at hlk; obtain ⟨u, hu⟩ : ∃ u, vals[p]? = some u := ⟨vals[p], by simp⟩
          have hub : ∀ g, u.ownBlock = some g → g ≠ wr.heap.size := fun g e => Nat.ne_of_lt (Hlt1.out p g u hu e); have Hub := Lib.hid hub; clear hub; rcases hL3.outer.2 with ⟨_, h0⟩ | ⟨G, cap', hvo, hcG, hrG⟩
          · omega
          subst hvo; have hGc : wX.cell? ⟨G, p, none⟩ = some u := by rw [hrG.cell? (p) hpl]; exact hu
          have hGf := hrG.frozen (p); have hown : Own wX u 38 3 rr.length (lkCells rr) := hL3.row (p) u rr hu Hgp.out; have hul := hL3.rlo (p) u; have hol := Own.lt hL3.outer (g := G) rfl; have hGlo := hL3.lo G rfl; have hGne := hul G hu; have Hu := Lib.hid hu; have Hul := Lib.hid hul; have HL := Lib.hid hL3; clear hu hul hL3; have ip0 : (0 : Int) ≤ ((p : Nat) : Int) := by omega
          have ip1 : ((p : Nat) : Int) < ((vals.length : Nat) : Int) := by omega
          have ip2 : ((p : Nat) : Int) < ((p : Nat) : Int) + 1 := by omega
          have hone3 : ∀ u ∈ [Value.int .i64 x, Value.int .i64 y, Value.int .i64 z], u.oneCell' = true := by intro u hu; simp only [List.mem_cons, List.not_mem_nil, or_false] at hu; rcases hu with rfl | rfl | rfl <;> rfl
          have hnews3 : ∀ W : World, ∀ (j : Nat) v, [Value.int .i64 x, Value.int .i64 y, Value.int .i64 z][j]? = some v → (W.alloc (.cells #[.int .i64 x, .int .i64 y, .int .i64 z] 38)).cell? ((⟨W.heap.size, 0, none⟩ : Addr).add j) = some v := by
           intro W j v hj; match j with
           | 0 => simp at hj; subst hj; simp [Addr.add]
           | 1 => simp at hj; subst hj; simp [Addr.add]
           | 2 => simp at hj; subst hj; simp [Addr.add]
           | j + 3 => simp at hj
          have Hone3 := Lib.hid hone3; have Hnews3 := Lib.hid hnews3; clear hone3 hnews3; go_upto_region 35 with (fail)
          refine regionT (fun w' => w'.cell? ⟨G, p, none⟩ = some u ∧ w'.cell? ⟨wr.heap.size, 0, none⟩ = some (.int .i64 x) ∧ w'.cell? ⟨wr.heap.size, 1, none⟩ = some (.int .i64 y) ∧ w'.cell? ⟨wr.heap.size, 2, none⟩ = some (.int .i64 z)) 9 (by kernel_rfl) ?_; have hS : wX.drew.cell? ⟨G, p, none⟩ = some u ∧ wX.drew.cell? ⟨wr.heap.size, 0, none⟩ = some (.int .i64 x) ∧ wX.drew.cell? ⟨wr.heap.size, 1, none⟩ = some (.int .i64 y) ∧ wX.drew.cell? ⟨wr.heap.size, 2, none⟩ = some (.int .i64 z) := ⟨hGc, e0, e1, e2⟩
          refine tkT 0 ?_ rfl hS ?_ ?_ (by kernel_rfl) (fun _ _ _ h => h) (by rfl); rotate_left; (· intro wS hSw; (try dsimp only at hSw); go_simp; try with_reducible rfl); simp only [Act.put, zA, z0, z1]; refine tkT 1 ?_ rfl hS ?_ ?_ (by kernel_rfl) (fun _ _ _ h => h) (by rfl); rotate_left; (· intro wS hSw; (try dsimp only at hSw); go_simp; try with_reducible rfl); simp only [Act.put, zA, z0, z1]; refine tkT 2 ?_ rfl hS ?_ ?_ (by kernel_rfl) (fun _ _ _ h => h) (by rfl); rotate_left; (· intro wS hSw; (try dsimp only at hSw); go_simp; try with_reducible rfl); simp only [Act.put, zA, z0, z1]; refine tkT 3 ?_ rfl hS ?_ ?_ (by kernel_rfl) (fun _ _ _ h => h) (by rfl); rotate_left; (· intro wS hSw; (try dsimp only at hSw); go_simp; try with_reducible rfl); simp only [Act.put, zA, z0, z1]; refine tkT 4 ?_ rfl hS ?_ ?_ (by kernel_rfl) (fun _ _ _ h => h) (by rfl); rotate_left; (· intro wS hSw; (try dsimp only at hSw); go_simp; try with_reducible rfl); simp only [Act.put, zA, z0, z1]; refine tkT 5 ?_ rfl hS ?_ ?_ (by kernel_rfl) (fun _ _ _ h => h) (by rfl); rotate_left; (· intro wS hSw; (try dsimp only at hSw); go_simp; try with_reducible rfl); simp only [Act.put, zA, z0, z1]; refine tkT 6 ?_ rfl hS ?_ ?_ (by kernel_rfl) (fun _ _ _ h => h) (by rfl); rotate_left; (· intro wS hSw; (try dsimp only at hSw); go_simp; try with_reducible rfl); simp only [Act.put, zA, z0, z1]; refine oneT (i := 7) rfl (by kernel_rfl) (fun K hK => ?_); go_simp; have bW : Below wX.heap.size wX (wX.alloc (.cells #[.int .i64 x, .int .i64 y, .int .i64 z] 38)).drew := (bl_alloc _ _).drew
          refine hK _ _ (fun _ => ⟨keep_cell bW hGc, keep_cell bW e0, keep_cell bW e1, keep_cell bW e2⟩) ?_; clear hK K; refine oneT (i := 8) rfl (by kernel_rfl) (fun K hK => ?_); refine step_append_row rfl (.tmp 136) (.tmp 138) 22 rfl 38 (.agg #[.int .i64 0, .int .i64 0, .int .i64 0]) 3 24 Tryz.underlying22 link_info rfl u _ _ (by simp [Act.eval]) (hown.drew.alloc _) ⟨wX.heap.size, 0, none⟩ 1 1 [.int .i64 x, .int .i64 y, .int .i64 z] (by simp [Act.eval]) rfl (Hnews3.out _) Hone3.out (by omega) (by unfold maxLen; omega) (by omega) ?_; intro g2 c2' w8 hr8 hc8 hg8 hor8; have hune : ∀ b', (b' = wr.heap.size ∨ b' = G ∨ b' = w3.heap.size) → u.ownBlock ≠ some b' := fun b' hb' e => by
           have h1 := Hul.out b' Hu.out e; have h2 := Hub.out b' e; rcases hb' with rfl | rfl | rfl
           · exact h2 rfl
           · exact h1.2 rfl
           · omega
          have r0 := grown_cell hg8 (keep_cell bW hGc) (hune G (.inr (.inl rfl))); have r1 := grown_cell hg8 (keep_cell bW e0) (hune _ (.inl rfl)); have r2 := grown_cell hg8 (keep_cell bW e1) (hune _ (.inl rfl)); have r3 := grown_cell hg8 (keep_cell bW e2) (hune _ (.inl rfl)); have r4 := grown_frozen hg8 (by simp; omega) ((bW.frozen (p := ⟨G, p, none⟩) hol).trans hGf) (hune G (.inr (.inl rfl))); refine hK _ _ (fun _ => ⟨r0, r1, r2, r3⟩) ?_; clear hK K; refine oneT (i := 9) rfl (by kernel_rfl) (fun K hK => ?_); go_simp; refine hK _ _ (fun h => absurd h (by omega)) ?_; clear hK K; refine oneT (i := 10) rfl (by kernel_rfl) (fun K hK => ?_); go_simp; refine hK _ _ (fun h => absurd h (by omega)) ?_; clear hK K; refine doneT (by kernel_rfl) ?_ _; have hst := (HL.out.ext bW).stored (r' := rr ++ [(x, y, z)]) rfl Hu.out Hgp.out (by rw [lkCells_append]; exact hr8) (by simpa using hc8) hg8 (hor8.imp id (fun h => h)) (by simp; omega); rw [Hfin.out, show (rr ++ [(x, y, z)]).length = rr.length + 1 by simp] at hst; have hA8 := ((hA3.below bW).grown hg8 (hune _ (.inr (.inr rfl)))).other (a := ⟨G, p, none⟩) (by simp; omega) (.slice (some ⟨g2, 0, none⟩) (rr.length + 1) c2'); have hbl8 : Below w3.heap.size w3 (w8.setCell ⟨G, p, none⟩ (.slice (some ⟨g2, 0, none⟩) (rr.length + 1) c2')) := ((bl_trans hbl3 bW).grown hg8 (by simp; omega) (fun j hj => by have := Hul.out j Hu.out hj; omega)).setCell (by simp; omega) _; have hsz8 : w3.heap.size + 1 ≤ (w8.setCell ⟨G, p, none⟩ (.slice (some ⟨g2, 0, none⟩) (rr.length + 1) c2')).heap.size := by have := hg8.size; simp at this ⊢; omega
          clear r0 r1 r2 r3 r4 hg8 hr8 hor8 bW hGc e0 e1 e2 hGf hS hown hc8 hune hA3 hbl3; go_wp2_with fail; go_roundg (gk - 1)
          case measure => have := Hk.out; omega
          case rel => exact ⟨k + 1, _, _, _, _, rfl, by have := Hk.out; omega, by go_num, hst, hA8, hcX, HAt2.out, hbl8, hsz8⟩
         | none =>
          rw [hAr] at hlk; simp only [Option.getD_none, Option.isSome_none] at hlk; have hcnn : 0 ≤ col k := by rw [Hce.out]; exact hr0
          have hAk : A (col k) = none := by rw [Hce.out]; exact hAr
          have hnew := HAt.out.fresh hcnn hAk; have hAt2 := HAt.out.new hcnn hAk; have hvl2 : vals.length = (firsts col k).length := by rw [hL3.len, List.length_map, gIdx_length]
          rw [Hce.out, ← hvl2] at hAt2; have hfin0 : (gIdx col k).map (pickL ls) ++ [[(x, y, z)]] = (gIdx col (k + 1)).map (pickL ls) := by rw [gIdx_new _ _ hnew, List.map_append]; simp [pickL_one Hkx.out]
          obtain ⟨gs0, hgs0⟩ : ∃ g, g = (gIdx col k).map (pickL ls) := ⟨_, rfl⟩
          rw [← hgs0] at hL3 hfin0; obtain ⟨ao, co, hvo, _, hco1, hco2⟩ := hL3.read; have hgl := hL3.len; rw [← hgl] at hvo; have hcX : (if (A rv).isSome then c3 else c3 + 1) ≤ k + 1 := by have := Hc3.out; rw [hAr]; simp; omega
          obtain ⟨rr, hrr⟩ : ∃ rr : List Lk, rr = [] := ⟨_, rfl⟩
          have hfin : (gs0 ++ [rr]).set vals.length (rr ++ [(x, y, z)]) = (gIdx col (k + 1)).map (pickL ls) := by rw [← hfin0, hgl, hrr]; simp
          have hgp : (gs0 ++ [rr])[vals.length]? = some rr := by rw [hgl]; simp
          have Hrr := Lib.hid hrr; clear hrr; have HAt2 := Lib.hid hAt2; have Hfin := Lib.hid hfin; have Hgp := Lib.hid hgp; have hc3' : c3 ≤ 1000 := by have := Hc3.out; omega
          have hco3 : vals.length ≤ co := by omega
          clear hAt2 hfin hgp hfin0 hnew hAk hcnn hvl2 hgs0 hAr hgl hco1; subst hvo; go_upto_region 34 with (at_mapUpdate; refine wpList_put_MZ rfl _ _ _ rfl hA3 (k := rv) (v := (vals.length : Int)) rfl rfl rfl hwrv (wfZ_of (by omega)) (by omega) ?_; intro w5 hA5 hg5)
          have hn3 : ∀ g, w3.heap.size + 1 ≤ g → some w3.heap.size ≠ some g := fun g h e => by cases e; omega
          have hL5 := (hL3.grown hg5 (fun g e => hn3 g (hL3.lo g e)) (fun i v g h1 h2 => hn3 g (hL3.rlo i v g h1 h2).1)).ext (bl_alloc w5 (.cells #[.slice none 0 0] 22)); have hbl5 := bl_trans (hbl3.grown hg5 (by omega) (fun j hj => by cases hj; exact Nat.le_refl _)) (bl_alloc w5 (.cells #[.slice none 0 0] 22)); have hw3r : wr.heap.size ≠ w3.heap.size := by omega
          have hbw5 := bl_alloc w5 (.cells #[.slice none 0 0] 22); have d0 := keep_cell hbw5 (grown_cell hg5 e0 (fun e => hw3r (Option.some.inj e).symm)); have d1 := keep_cell hbw5 (grown_cell hg5 e1 (fun e => hw3r (Option.some.inj e).symm)); have d2 := keep_cell hbw5 (grown_cell hg5 e2 (fun e => hw3r (Option.some.inj e).symm)); have hA5a := hA5.alloc (.cells #[.slice none 0 0] 22); have hsz5 : wr.heap.size < w5.heap.size := by have := hg5.size; omega
          have hol := hL5.outer; have hn1 : (w5.alloc (.cells #[.slice none 0 0] 22)).cell? ⟨w5.heap.size, 0, none⟩ = some (.slice none 0 0) := cell_new1 rfl; have hone : ∀ u ∈ [Value.slice none 0 0], u.oneCell' = true := by intro u hu; rw [List.mem_singleton] at hu; subst hu; rfl
          clear hA3 hA5 hL3 hbl3 e0 e1 e2 hlk hn3 hg5 hbw5; go_wp2_with (at_builtin; refine wpList_append_row _ rfl (.tmp 128) (.tmp 129) 50 rfl 22 (.slice none 0 0) 1 24 Tryz.underlying50 links_info rfl _ vals.length vals rfl hol ⟨w5.heap.size, 0, none⟩ 1 1 [.slice none 0 0] rfl rfl (one_new hn1) hone (by omega) (by unfold maxLen; omega) (by omega) ?_); intro G cap' w6 hrG hc6 hg6 hor6; have hL6 := hL5.push (u := .slice none 0 0) (r := rr) (by rw [Hrr.out]; exact own_nil _ _ _) (fun g hg => by simp [Value.ownBlock] at hg) hrG hc6 hg6 (hor6.imp id (fun h => by simpa using h)) (by simp; omega); have hvob : ∀ g, (Value.slice ao vals.length co).ownBlock = some g → w3.heap.size + 1 ≤ g ∧ g < wr.heap.size := fun g e => ⟨hL5.lo g e, Hlt0.out g e⟩
          have e0 := grown_cell hg6 d0 (fun e => by have := hvob _ e; omega); have e1 := grown_cell hg6 d1 (fun e => by have := hvob _ e; omega); have e2 := grown_cell hg6 d2 (fun e => by have := hvob _ e; omega); have hA6 := hA5a.grown hg6 (fun e => by have := hvob _ e; omega); have hbl6 : Below w3.heap.size w3 w6 := hbl5.grown hg6 (by simp; omega) (fun j hj => by have := hvob j hj; omega); have hwX : wr.heap.size < w6.heap.size := by have := hg6.size; simp at this; omega
          have hpl : vals.length < (vals ++ [Value.slice none 0 0]).length := by simp
          obtain ⟨u, hu0⟩ : ∃ u, u = Value.slice none 0 0 := ⟨_, rfl⟩
          have hu : (vals ++ [Value.slice none 0 0])[vals.length]? = some u := by rw [hu0]; simp
          have hub : ∀ g, u.ownBlock = some g → g ≠ wr.heap.size := fun g e => by rw [hu0] at e; simp [Value.ownBlock] at e
          have hrl : rr.length ≤ 1000 := by rw [Hrr.out]; simp
          have Hub := Lib.hid hub; generalize vals ++ [Value.slice none 0 0] = vals2 at hL6 hrG hpl hu; generalize gs0 ++ [rr] = gs2 at hL6 Hgp Hfin; clear hub hu0 Hrr d0 d1 d2 hA5a hL5 hbl5 hn1 hone hol hg6 hor6 hvob; have hGc : w6.cell? ⟨G, vals.length, none⟩ = some u := by rw [hrG.cell? (vals.length) hpl]; exact hu
          have hGf := hrG.frozen (vals.length); have hown : Own w6 u 38 3 rr.length (lkCells rr) := hL6.row (vals.length) u rr hu Hgp.out; have hul := hL6.rlo (vals.length) u; have hol := Own.lt hL6.outer (g := G) rfl; have hGlo := hL6.lo G rfl; have hGne := hul G hu; have Hu := Lib.hid hu; have Hul := Lib.hid hul; have HL := Lib.hid hL6; clear hu hul hL6; have ip0 : (0 : Int) ≤ ((vals.length : Nat) : Int) := by omega
          have ip1 : ((vals.length : Nat) : Int) < (((vals.length+1) : Nat) : Int) := by omega
          have ip2 : ((vals.length : Nat) : Int) < ((vals.length : Nat) : Int) + 1 := by omega
          have hone3 : ∀ u ∈ [Value.int .i64 x, Value.int .i64 y, Value.int .i64 z], u.oneCell' = true := by intro u hu; simp only [List.mem_cons, List.not_mem_nil, or_false] at hu; rcases hu with rfl | rfl | rfl <;> rfl
          have hnews3 : ∀ W : World, ∀ (j : Nat) v, [Value.int .i64 x, Value.int .i64 y, Value.int .i64 z][j]? = some v → (W.alloc (.cells #[.int .i64 x, .int .i64 y, .int .i64 z] 38)).cell? ((⟨W.heap.size, 0, none⟩ : Addr).add j) = some v := by
           intro W j v hj; match j with
           | 0 => simp at hj; subst hj; simp [Addr.add]
           | 1 => simp at hj; subst hj; simp [Addr.add]
           | 2 => simp at hj; subst hj; simp [Addr.add]
           | j + 3 => simp at hj
          have Hone3 := Lib.hid hone3; have Hnews3 := Lib.hid hnews3; clear hone3 hnews3; go_upto_region 35 with (fail)
          refine regionT (fun w' => w'.cell? ⟨G, vals.length, none⟩ = some u ∧ w'.cell? ⟨wr.heap.size, 0, none⟩ = some (.int .i64 x) ∧ w'.cell? ⟨wr.heap.size, 1, none⟩ = some (.int .i64 y) ∧ w'.cell? ⟨wr.heap.size, 2, none⟩ = some (.int .i64 z)) 9 (by kernel_rfl) ?_; have hS : w6.drew.cell? ⟨G, vals.length, none⟩ = some u ∧ w6.drew.cell? ⟨wr.heap.size, 0, none⟩ = some (.int .i64 x) ∧ w6.drew.cell? ⟨wr.heap.size, 1, none⟩ = some (.int .i64 y) ∧ w6.drew.cell? ⟨wr.heap.size, 2, none⟩ = some (.int .i64 z) := ⟨hGc, e0, e1, e2⟩
          refine tkT 0 ?_ rfl hS ?_ ?_ (by kernel_rfl) (fun _ _ _ h => h) (by rfl); rotate_left; (· intro wS hSw; (try dsimp only at hSw); go_simp; try with_reducible rfl); simp only [Act.put, zA, z0, z1]; refine tkT 1 ?_ rfl hS ?_ ?_ (by kernel_rfl) (fun _ _ _ h => h) (by rfl); rotate_left; (· intro wS hSw; (try dsimp only at hSw); go_simp; try with_reducible rfl); simp only [Act.put, zA, z0, z1]; refine tkT 2 ?_ rfl hS ?_ ?_ (by kernel_rfl) (fun _ _ _ h => h) (by rfl); rotate_left; (· intro wS hSw; (try dsimp only at hSw); go_simp; try with_reducible rfl); simp only [Act.put, zA, z0, z1]; refine tkT 3 ?_ rfl hS ?_ ?_ (by kernel_rfl) (fun _ _ _ h => h) (by rfl); rotate_left; (· intro wS hSw; (try dsimp only at hSw); go_simp; try with_reducible rfl); simp only [Act.put, zA, z0, z1]; refine tkT 4 ?_ rfl hS ?_ ?_ (by kernel_rfl) (fun _ _ _ h => h) (by rfl); rotate_left; (· intro wS hSw; (try dsimp only at hSw); go_simp; try with_reducible rfl); simp only [Act.put, zA, z0, z1]; refine tkT 5 ?_ rfl hS ?_ ?_ (by kernel_rfl) (fun _ _ _ h => h) (by rfl); rotate_left; (· intro wS hSw; (try dsimp only at hSw); go_simp; try with_reducible rfl); simp only [Act.put, zA, z0, z1]; refine tkT 6 ?_ rfl hS ?_ ?_ (by kernel_rfl) (fun _ _ _ h => h) (by rfl); rotate_left; (· intro wS hSw; (try dsimp only at hSw); go_simp; try with_reducible rfl); simp only [Act.put, zA, z0, z1]; refine oneT (i := 7) rfl (by kernel_rfl) (fun K hK => ?_); go_simp; have bW : Below w6.heap.size w6 (w6.alloc (.cells #[.int .i64 x, .int .i64 y, .int .i64 z] 38)).drew := (bl_alloc _ _).drew
          refine hK _ _ (fun _ => ⟨keep_cell bW hGc, keep_cell bW e0, keep_cell bW e1, keep_cell bW e2⟩) ?_; clear hK K; refine oneT (i := 8) rfl (by kernel_rfl) (fun K hK => ?_); refine step_append_row rfl (.tmp 136) (.tmp 138) 22 rfl 38 (.agg #[.int .i64 0, .int .i64 0, .int .i64 0]) 3 24 Tryz.underlying22 link_info rfl u _ _ (by simp [Act.eval]) (hown.drew.alloc _) ⟨w6.heap.size, 0, none⟩ 1 1 [.int .i64 x, .int .i64 y, .int .i64 z] (by simp [Act.eval]) rfl (Hnews3.out _) Hone3.out (by omega) (by unfold maxLen; omega) (by omega) ?_; intro g2 c2' w8 hr8 hc8 hg8 hor8; have hune : ∀ b', (b' = wr.heap.size ∨ b' = G ∨ b' = w3.heap.size) → u.ownBlock ≠ some b' := fun b' hb' e => by
           have h1 := Hul.out b' Hu.out e; have h2 := Hub.out b' e; rcases hb' with rfl | rfl | rfl
           · exact h2 rfl
           · exact h1.2 rfl
           · omega
          have r0 := grown_cell hg8 (keep_cell bW hGc) (hune G (.inr (.inl rfl))); have r1 := grown_cell hg8 (keep_cell bW e0) (hune _ (.inl rfl)); have r2 := grown_cell hg8 (keep_cell bW e1) (hune _ (.inl rfl)); have r3 := grown_cell hg8 (keep_cell bW e2) (hune _ (.inl rfl)); have r4 := grown_frozen hg8 (by simp; omega) ((bW.frozen (p := ⟨G, vals.length, none⟩) hol).trans hGf) (hune G (.inr (.inl rfl))); refine hK _ _ (fun _ => ⟨r0, r1, r2, r3⟩) ?_; clear hK K; refine oneT (i := 9) rfl (by kernel_rfl) (fun K hK => ?_); go_simp; refine hK _ _ (fun h => absurd h (by omega)) ?_; clear hK K; refine oneT (i := 10) rfl (by kernel_rfl) (fun K hK => ?_); go_simp; refine hK _ _ (fun h => absurd h (by omega)) ?_; clear hK K; refine doneT (by kernel_rfl) ?_ _; have hst := (HL.out.ext bW).stored (r' := rr ++ [(x, y, z)]) rfl Hu.out Hgp.out (by rw [lkCells_append]; exact hr8) (by simpa using hc8) hg8 (hor8.imp id (fun h => h)) (by simp; omega); rw [Hfin.out, show (rr ++ [(x, y, z)]).length = rr.length + 1 by simp] at hst; have hA8 := ((hA6.below bW).grown hg8 (hune _ (.inr (.inr rfl)))).other (a := ⟨G, vals.length, none⟩) (by simp; omega) (.slice (some ⟨g2, 0, none⟩) (rr.length + 1) c2'); have hbl8 : Below w3.heap.size w3 (w8.setCell ⟨G, vals.length, none⟩ (.slice (some ⟨g2, 0, none⟩) (rr.length + 1) c2')) := ((bl_trans hbl6 bW).grown hg8 (by simp; omega) (fun j hj => by have := Hul.out j Hu.out hj; omega)).setCell (by simp; omega) _; have hsz8 : w3.heap.size + 1 ≤ (w8.setCell ⟨G, vals.length, none⟩ (.slice (some ⟨g2, 0, none⟩) (rr.length + 1) c2')).heap.size := by have := hg8.size; simp at this ⊢; omega
          clear r0 r1 r2 r3 r4 hg8 hr8 hor8 bW hGc e0 e1 e2 hGf hS hown hc8 hune hA6 hbl6; go_wp2_with fail; go_roundg (gk - 1)
          case measure => have := Hk.out; omega
          case rel => exact ⟨k + 1, _, _, _, _, rfl, by have := Hk.out; omega, by go_num, hst, hA8, hcX, HAt2.out, hbl8, hsz8⟩
       ·
        have hkl : k = ls.length := by omega
        subst hkl; rw [← Hgr.out] at hL; have hbl4 := bl_trans hB3 hbl; go_wp2_with fail; go_ret; exact ⟨vo, vals, rfl, { hL with lo := fun g hg => by have := hL.lo g hg; have := hB3.size; omega, rlo := fun i u g hu hg => by have h1 := hL.rlo i u g hu hg; have := hB3.size; exact ⟨by omega, h1.2⟩ }, hbl4⟩
end Go.Proofs.YtagcbnpahgfgmaaGreat
namespace Go.Proofs.YtagcbnpahgfgmaaGreat
open Go Go.RowKit
def rowN (n : Nat) (f : Nat → Nat) : List Value := (List.range n).map fun i => vN (f i)
def rowB (n : Nat) (f : Nat → Bool) : List Value := (List.range n).map fun i => .bool (f i)
theorem rowN_len (n : Nat) (f : Nat → Nat) : (rowN n f).length = n := by simp [rowN]
theorem rowB_len (n : Nat) (f : Nat → Bool) : (rowB n f).length = n := by simp [rowB]
theorem rowN_set (n : Nat) (f : Nat → Nat) (i y : Nat) : (rowN n f).set i (vN y) = rowN n (upd f i y) := by
 apply List.ext_getElem (by simp [rowN])
 intro j h1 h2
 simp only [rowN, List.length_set, List.length_map, List.length_range] at h1
 simp only [rowN, List.getElem_set, List.getElem_map, List.getElem_range, upd]
 by_cases e : i = j
 · simp [e]
 · rw [if_neg e, if_neg (fun e' => e e'.symm)]
theorem rowB_set (n : Nat) (f : Nat → Bool) (i : Nat) (y : Bool) : (rowB n f).set i (.bool y) = rowB n (upd f i y) := by
 apply List.ext_getElem (by simp [rowB])
 intro j h1 h2
 simp only [rowB, List.length_set, List.length_map, List.length_range] at h1
 simp only [rowB, List.getElem_set, List.getElem_map, List.getElem_range, upd]
 by_cases e : i = j
 · simp [e]
 · rw [if_neg e, if_neg (fun e' => e e'.symm)]
theorem rowN_zero (n : Nat) : List.replicate n (Value.int .i64 0) = rowN n (fun _ => 0) := by
 apply List.ext_getElem (by simp [rowN])
 intro j h1 h2
 simp [rowN, vN]
theorem rowB_zero (n : Nat) : List.replicate n (Value.bool false) = rowB n (fun _ => false) := by
 apply List.ext_getElem (by simp [rowB])
 intro j h1 h2
 simp [rowB]
theorem Row.atN {w : World} {g n cap : Nat} {e : TypeId} {f : Nat → Nat} (h : Row w g e 1 cap (rowN n f)) {i : Nat} (hi : i < n) : w.cell? ⟨g, i, none⟩ = some (.int .i64 (f i)) := by
 rw [h.cell? i (by rw [rowN_len]; exact hi)]; simp [rowN, hi, vN]
theorem Row.atB {w : World} {g n cap : Nat} {e : TypeId} {f : Nat → Bool} (h : Row w g e 1 cap (rowB n f)) {i : Nat} (hi : i < n) : w.cell? ⟨g, i, none⟩ = some (.bool (f i)) := by
 rw [h.cell? i (by rw [rowB_len]; exact hi)]; simp [rowB, hi]
def RdG (w : World) (G n : Nat) (bs : Nat → List Nat) : Prop := ∀ v, v < n → ∃ au cu, w.cell? ⟨G, v, none⟩ = some (.slice au (bs v).length cu) ∧ CellsAt w au ((bs v).map vN)
theorem RdG.below {w w' : World} {G n : Nat} {bs : Nat → List Nat} (h : RdG w G n bs) (hb : Below w.heap.size w w') : RdG w' G n bs := fun v hv => by
 obtain ⟨au, cu, h1, h2⟩ := h v hv
 exact ⟨au, cu, keep_cell hb h1, h2.below hb⟩
structure CM (w : World) (B gn gl gu ga gc gs cs n : Nat) (num low up at_ : Nat → Nat) (cut : Nat → Bool) (stack : List Nat) : Prop where
 rn : Row w gn 3 1 n (rowN n num)
 rl : Row w gl 3 1 n (rowN n low)
 ru : Row w gu 3 1 n (rowN n up)
 ra : Row w ga 3 1 n (rowN n at_)
 rc : Row w gc 4 1 n (rowB n cut)
 rs : Row w gs 3 1 cs (stack.reverse.map vN)
 nd : gn ≠ gl ∧ gn ≠ gu ∧ gn ≠ ga ∧ gn ≠ gc ∧ gl ≠ gu ∧ gl ≠ ga ∧ gl ≠ gc ∧ gu ≠ ga ∧ gu ≠ gc ∧ ga ≠ gc
 ns : gs ≠ gn ∧ gs ≠ gl ∧ gs ≠ gu ∧ gs ≠ ga ∧ gs ≠ gc
 lo : B ≤ gn ∧ B ≤ gl ∧ B ≤ gu ∧ B ≤ ga ∧ B ≤ gc ∧ B ≤ gs
namespace CM
variable {w w' : World} {B gn gl gu ga gc gs cs n : Nat} {num low up at_ : Nat → Nat} {cut : Nat → Bool} {stack : List Nat}
theorem ext (h : CM w B gn gl gu ga gc gs cs n num low up at_ cut stack) (hb : Below w.heap.size w w') : CM w' B gn gl gu ga gc gs cs n num low up at_ cut stack :=
 { h with rn := h.rn.below hb h.rn.lt, rl := h.rl.below hb h.rl.lt, ru := h.ru.below hb h.ru.lt, ra := h.ra.below hb h.ra.lt, rc := h.rc.below hb h.rc.lt, rs := h.rs.below hb h.rs.lt }
theorem set_num (h : CM w B gn gl gu ga gc gs cs n num low up at_ cut stack) (v t : Nat) : CM (w.setCell ⟨gn, v, none⟩ (vN t)) B gn gl gu ga gc gs cs n (upd num v t) low up at_ cut stack := by
 obtain ⟨rn, rl, ru, ra, rc, rs, nd, ns, lo⟩ := h
 exact ⟨by rw [← rowN_set]; exact rn.set v _, rl.other nd.1.symm _, ru.other nd.2.1.symm _, ra.other nd.2.2.1.symm _, rc.other nd.2.2.2.1.symm _, rs.other ns.1 _, nd, ns, lo⟩
theorem set_low (h : CM w B gn gl gu ga gc gs cs n num low up at_ cut stack) (v t : Nat) : CM (w.setCell ⟨gl, v, none⟩ (vN t)) B gn gl gu ga gc gs cs n num (upd low v t) up at_ cut stack := by
 obtain ⟨rn, rl, ru, ra, rc, rs, nd, ns, lo⟩ := h
 exact ⟨rn.other nd.1 _, by rw [← rowN_set]; exact rl.set v _, ru.other nd.2.2.2.2.1.symm _, ra.other nd.2.2.2.2.2.1.symm _, rc.other nd.2.2.2.2.2.2.1.symm _, rs.other ns.2.1 _, nd, ns, lo⟩
theorem set_up (h : CM w B gn gl gu ga gc gs cs n num low up at_ cut stack) (v t : Nat) : CM (w.setCell ⟨gu, v, none⟩ (vN t)) B gn gl gu ga gc gs cs n num low (upd up v t) at_ cut stack := by
 obtain ⟨rn, rl, ru, ra, rc, rs, nd, ns, lo⟩ := h
 exact ⟨rn.other nd.2.1 _, rl.other nd.2.2.2.2.1 _, by rw [← rowN_set]; exact ru.set v _, ra.other nd.2.2.2.2.2.2.2.1.symm _, rc.other nd.2.2.2.2.2.2.2.2.1.symm _, rs.other ns.2.2.1 _, nd, ns, lo⟩
theorem set_at (h : CM w B gn gl gu ga gc gs cs n num low up at_ cut stack) (v t : Nat) : CM (w.setCell ⟨ga, v, none⟩ (vN t)) B gn gl gu ga gc gs cs n num low up (upd at_ v t) cut stack := by
 obtain ⟨rn, rl, ru, ra, rc, rs, nd, ns, lo⟩ := h
 exact ⟨rn.other nd.2.2.1 _, rl.other nd.2.2.2.2.2.1 _, ru.other nd.2.2.2.2.2.2.2.1 _, by rw [← rowN_set]; exact ra.set v _, rc.other nd.2.2.2.2.2.2.2.2.2.symm _, rs.other ns.2.2.2.1 _, nd, ns, lo⟩
theorem set_cut (h : CM w B gn gl gu ga gc gs cs n num low up at_ cut stack) (v : Nat) (b : Bool) : CM (w.setCell ⟨gc, v, none⟩ (.bool b)) B gn gl gu ga gc gs cs n num low up at_ (upd cut v b) stack := by
 obtain ⟨rn, rl, ru, ra, rc, rs, nd, ns, lo⟩ := h
 exact ⟨rn.other nd.2.2.2.1 _, rl.other nd.2.2.2.2.2.2.1 _, ru.other nd.2.2.2.2.2.2.2.2.1 _, ra.other nd.2.2.2.2.2.2.2.2.2 _, by rw [← rowB_set]; exact rc.set v _, rs.other ns.2.2.2.2 _, nd, ns, lo⟩
theorem pop (h : CM w B gn gl gu ga gc gs cs n num low up at_ cut stack) : CM w B gn gl gu ga gc gs cs n num low up at_ cut stack.tail :=
 { h with rs := (by
   have := h.rs.take (stack.length - 1)
   cases stack with
   | nil => simpa using this
   | cons a r => simpa [List.take_append] using this) }
theorem push {x g' c' : Nat} (h : CM w B gn gl gu ga gc gs cs n num low up at_ cut stack) (hr : Row w' g' 3 1 c' (stack.reverse.map vN ++ [vN x])) (hg : w.grownBy w' (some gs)) (hor : some gs = some g' ∨ w.heap.size ≤ g') :
  CM w' B gn gl gu ga gc g' c' n num low up at_ cut (x :: stack) := by
 obtain ⟨rn, rl, ru, ra, rc, rs, nd, ns, lo⟩ := h
 have hne : ∀ k, k ≠ gs → k < w.heap.size → g' ≠ k := fun k hk hlt e => by
  rcases hor with h1 | h1
  · cases h1; exact hk e.symm
  · omega
 have hs : ∀ k, gs ≠ k → some gs ≠ some k := fun k hk e => hk (Option.some.inj e)
 refine ⟨rn.grown hg (hs _ ns.1), rl.grown hg (hs _ ns.2.1), ru.grown hg (hs _ ns.2.2.1), ra.grown hg (hs _ ns.2.2.2.1), rc.grown hg (hs _ ns.2.2.2.2), by simpa using hr, nd, ?_, ?_⟩
 · exact ⟨hne _ ns.1.symm rn.lt, hne _ ns.2.1.symm rl.lt, hne _ ns.2.2.1.symm ru.lt, hne _ ns.2.2.2.1.symm ra.lt, hne _ ns.2.2.2.2.symm rc.lt⟩
 ·
  obtain ⟨l1, l2, l3, l4, l5, l6⟩ := lo
  refine ⟨l1, l2, l3, l4, l5, ?_⟩
  rcases hor with h1 | h1
  · cases h1; exact l6
  · have := rn.lt; omega
end CM
theorem CT.met_le {n : Nat} {bs : Nat → List Nat} {gone : Int} {root : Nat} {s : CS} (h : CT n bs gone root s) : s.met ≤ n := by
 obtain ⟨o, h1, h2, h3⟩ := h.ord
 have := nodup_len_le (m := List.range n) h1 fun x hx => List.mem_range.2 (h.numP x ((h3 x).1 hx)).1
 rw [List.length_range] at this; omega
def sumR (f : Nat → Nat) : Nat → Nat
 | 0 => 0
 | n + 1 => sumR f n + f n
theorem sumR_congr {f g : Nat → Nat} {n : Nat} (h : ∀ x, x < n → f x = g x) : sumR f n = sumR g n := by
 induction n with
 | zero => rfl
 | succ n ih => rw [sumR, sumR, ih fun x hx => h x (by omega), h n (by omega)]
theorem sumR_one {f g : Nat → Nat} {n v : Nat} (hv : v < n) (h1 : g v + 1 = f v) (h : ∀ x, x ≠ v → f x = g x) : sumR g n + 1 = sumR f n := by
 induction n with
 | zero => omega
 | succ n ih =>
  rw [sumR, sumR]
  by_cases e : v = n
  ·
   subst e; have : sumR f v = sumR g v := sumR_congr fun x hx => h x (by omega); omega
  · have := ih (by omega); have := h n (fun e' => e e'.symm); omega
def restS (n : Nat) (bs : Nat → List Nat) (at_ : Nat → Nat) : Nat := sumR (fun v => (bs v).length - at_ v) n
theorem restS_inc {n : Nat} {bs : Nat → List Nat} {at_ : Nat → Nat} {v : Nat} (hv : v < n) (h : at_ v < (bs v).length) : restS n bs (upd at_ v (at_ v + 1)) + 1 = restS n bs at_ :=
 sumR_one hv (by simp only [upd_same]; omega) fun x hx => by simp only [upd_ne _ _ hx]
def RetCuts (w : World) (n : Nat) (bs : Nat → List Nat) (gone : Int) (e : Ending) (w' : World) : Prop :=
 ∃ (j : Bool) (cut : Nat → Bool) (gc : Nat), e = .returned (.tuple #[.bool j, .slice (some ⟨gc, 0, none⟩) n n]) ∧ Row w' gc 4 1 n (rowB n cut) ∧ w.heap.size ≤ gc ∧ Below w.heap.size w w' ∧ CutSpec n bs gone j cut
theorem left_len (n : Nat) (gone : Int) (h : -1 ≤ gone) (hn : gone < n) : (((List.range n).filter (presB gone)).length : Int) = if 0 ≤ gone then (n : Int) - 1 else n := by
 have key : ∀ m : Nat, (((List.range m).filter (presB gone)).length : Int) = if 0 ≤ gone ∧ gone < m then (m : Int) - 1 else m := by
  intro m
  induction m with
  | zero => simp
  | succ m ih =>
   rw [List.range_succ, List.filter_append, List.length_append]; by_cases e : (m : Int) = gone
   ·
    have hf : List.filter (presB gone) [m] = [] := by simp [presB, e]
    have : ¬ (0 ≤ gone ∧ gone < (m : Int)) := by omega
    rw [if_neg this] at ih; rw [hf, if_pos (by omega)]; simp only [List.length_nil]; omega
   ·
    have hf : List.filter (presB gone) [m] = [m] := by simp [presB, e]
    rw [hf]; by_cases h2 : 0 ≤ gone ∧ gone < (m : Int)
    · rw [if_pos h2] at ih; rw [if_pos (by omega)]; simp only [List.length_cons, List.length_nil]; omega
    · rw [if_neg h2] at ih; rw [if_neg (by omega)]; simp only [List.length_cons, List.length_nil]; omega
 rw [key n]
 by_cases h0 : 0 ≤ gone
 · rw [if_pos ⟨h0, hn⟩, if_pos h0]
 · rw [if_neg (by omega), if_neg h0]
theorem cut_none {n : Nat} {bs : Nat → List Nat} {gone : Int} (h : ∀ v, ¬ Pres n gone v) : CutSpec n bs gone true (fun _ => false) :=
 ⟨by simp; exact fun x y hx => absurd hx (h x), fun _ u hu => absurd hu (h u), fun _ _ => rfl⟩
end Go.Proofs.YtagcbnpahgfgmaaGreat
