/- pair.neighbours. -/
import Derived.Test.YtagcbnpahgfgmaaTwo
import Derived.Test.YtagcbnpahgfgmaaPaP
namespace Go.Proofs.Ytagcbnpahgfgmaa
open Go Go.RowKit

/-- What 'neighbours' hands back. -/
def RetNb (w : World) (n : Nat) (bs : Nat → List Nat) (e : Ending) (w' : World) : Prop :=
  ∃ g, e = .returned (.slice (some ⟨g, 0, none⟩) n n) ∧ RdG w' g n bs ∧ w.heap.size ≤ g ∧ Below w.heap.size w w'

set_option maxRecDepth 100000 in
set_option maxHeartbeats 8000000 in
theorem neighbours_walk (a : Option Addr) (cap : Nat) (ls : List Lk) (av : Option Addr) (cv : Nat) (vs : List Int) (w : World) (hr2 : RdL w a ls) (hRR : RightL ls) (hvs : vs = vertsL ls) (hrv : RdI w av vs) (hvc : vs.length ≤ cv) :
    Calls Try.prog 29 #[.slice a ls.length cap, .slice av vs.length cv] w (RetNb w vs.length (nbN vs ls)) := by
  have hn := hRR.1
  have HR := Lib.hid hRR; clear hRR
  have hvl : vs.length ≤ 2000 := by rw [hvs]; have := vertsL_length ls; omega
  have Hvs := Lib.hid hvs; clear hvs
  have hvn : vs.Nodup := by rw [Hvs.out]; exact verts_nodup ls
  have Hvn := Lib.hid hvn; clear hvn
  have hmm := run_makeMapZ
  have hmk := run_make_row' (P := Try.prog) 41 38 (.slice none 0 0) 24 Try.underlying41 ints_info2 rfl .i64 .i64 vs.length (by omega) (by omega)
  go_enter Try.func29, Try.ntmps29
  go_wp2_with fail
  go_loopg [18] vs.length (fun r i wr => ∃ (k c : Nat) (F : Int → Option Int), k + r = vs.length ∧ i = .int .i64 k ∧ c ≤ k ∧ MZ wr w.heap.size c F ∧ (∀ (j : Nat) (x : Int), j < k → vs[j]? = some x → F x = some (j : Int)) ∧ Below w.heap.size w wr)
  case atStart => exact ⟨0, 0, _, by omega, rfl, Nat.le_refl _, MZ.made w, fun j x hj => by omega, bl_alloc _ _⟩
  case round =>
    obtain ⟨k, c, F, hk, rfl, hck, hm, hF, hb⟩ := hrel
    by_cases hlt : k < vs.length
    · obtain ⟨bv, ov, rfl, c0⟩ := (hrv.below hb).at k hlt
      obtain ⟨z, hz⟩ : ∃ z, vs[k] = z := ⟨_, rfl⟩
      rw [hz] at c0
      have hzm : z ∈ vertsL ls := by rw [← Hvs.out, ← hz]; exact List.getElem_mem hlt
      have hzb : 0 ≤ z ∧ z ≤ 1048576 := by
        obtain ⟨q, hq, e⟩ := (mem_vertsL ls z).1 hzm
        have ok := HR.out.2.1 q hq
        unfold OkL at ok
        rcases e with rfl | rfl <;> omega
      have hwz : WfZ z := wfZ_of (by omega)
      have hF2 : ∀ (j : Nat) (x : Int), j < k + 1 → vs[j]? = some x → updF F z k x = some (j : Int) := fun j x hj hx => by
        by_cases e : j = k
        · subst e
          rw [List.getElem?_eq_getElem hlt, hz] at hx
          cases hx
          exact updF_same _ _ _
        · have hjl := (List.getElem?_eq_some_iff.1 hx).1
          rw [updF_ne _ _ fun e2 => ?_]
          · exact hF j x (by omega) hx
          · rw [List.getElem?_eq_getElem hjl] at hx
            exact e ((List.getElem_inj Hvn.out).1 ((Option.some.inj hx).trans (e2.trans hz.symm)))
      have HF2 := Lib.hid hF2; have Hwz := Lib.hid hwz; have Hk := Lib.hid hk
      clear hF2 hwz hz hk hF hzm hzb
      go_wp2_with (at_mapUpdate; refine wpList_put_MZ rfl _ _ _ rfl hm rfl rfl rfl Hwz.out (wfZ_of (by omega)) (by omega) ?_; intro w5 hm5 hg5)
      have hb5 : Below w.heap.size w w5 := hb.grown hg5 hb.size (fun j hj => by cases hj; exact Nat.le_refl _)
      have hc5 : (if (F z).isSome then c else c + 1) ≤ k + 1 := by split <;> omega
      clear hg5 hm
      go_roundg (gk - 1)
      case measure => have := Hk.out; omega
      case rel => exact ⟨k + 1, _, _, by have := Hk.out; omega, by go_num, hc5, hm5, HF2.out, hb5⟩
    · have hkl : k = vs.length := by omega
      subst hkl
      obtain ⟨w3, rfl⟩ : ∃ w3 : World, w3 = wr := ⟨_, rfl⟩
      have hr3 := hr2.below hb
      have hB3 := hb
      have hF0 : ∀ x, x ∈ vertsL ls → F x = some ((vs.idxOf x : Nat) : Int) := fun x hx => by
        rw [← Hvs.out] at hx
        exact hF _ x (List.idxOf_lt_length_of_mem hx) (get_idxOf hx)
      have HF := Lib.hid hF0; clear hF hF0 hk hr2 hb hrv
      have hok0 : nbRows vs.length vs (ls.take 0) = List.replicate vs.length [] := by
        apply List.ext_getElem (by simp [nbRows])
        intro i h1 h2
        simp [nbRows, nbN]
      have Hok0 := Lib.hid hok0; clear hok0
      have hzm3 := hm.lt
      go_wp2_with fail
      go_loopg [32] ls.length (fun r i wr => ∃ (k : Nat) (vals : List Value), k + r = ls.length ∧ i = .int .i64 k ∧ OwnRows wr w3.heap.size 38 3 vs.length vals (nbRows vs.length vs (ls.take k)) ∧ Below w3.heap.size w3 wr ∧ w3.heap.size < wr.heap.size)
      case atStart => exact ⟨0, _, by omega, rfl, by rw [Hok0.out]; exact ownRows_made w3 vs.length _ _ (by unfold maxLen; omega), bl_alloc _ _, by simp⟩
      case round =>
        obtain ⟨k, vals, hk, rfl, hO, hb, hsz⟩ := hrel
        by_cases hlt : k < ls.length
        · obtain ⟨b, o, rfl, c0, c1, c2⟩ := (hr3.below hb).at k hlt
          have hok := HR.out.2.1 _ (List.getElem_mem hlt)
          have hmemk := List.getElem_mem hlt
          have hstep := fun (A B : Nat) (hA : vs.idxOf ls[k].1 = A) (hBe : vs.idxOf ls[k].2.1 = B) => nbRows_step (n := vs.length) (vs := vs) hlt hA hBe
          obtain ⟨⟨x, y, z⟩, hx⟩ : ∃ x : Lk, ls[k] = x := ⟨_, rfl⟩
          rw [hx] at c0 c1 c2 hok hmemk hstep
          obtain ⟨k0, k1, k2, k3, k4⟩ := hok
          simp only at c0 c1 c2 k0 k1 k2 k3 k4 hstep
          have hxm : x ∈ vertsL ls := (mem_vertsL ls x).2 ⟨_, hmemk, .inl rfl⟩
          have hym : y ∈ vertsL ls := (mem_vertsL ls y).2 ⟨_, hmemk, .inr rfl⟩
          obtain ⟨A, hA⟩ : ∃ A, vs.idxOf x = A := ⟨_, rfl⟩
          obtain ⟨B, hBe⟩ : ∃ B, vs.idxOf y = B := ⟨_, rfl⟩
          have hAn : A < vs.length := by rw [← hA]; exact List.idxOf_lt_length_of_mem (by rw [Hvs.out]; exact hxm)
          have hBn : B < vs.length := by rw [← hBe]; exact List.idxOf_lt_length_of_mem (by rw [Hvs.out]; exact hym)
          have hAB : A ≠ B := fun e => by
            have := idxOf_inj (vs := vs) (by rw [Hvs.out]; exact hxm) (by rw [Hvs.out]; exact hym) (by rw [hA, hBe, e])
            omega
          have hst := hstep A B hA hBe hAB hAn hBn
          have hFx := HF.out x hxm; have hFy := HF.out y hym
          rw [hA] at hFx; rw [hBe] at hFy
          have hl1 : ∀ n, (Instr.lookup 40 (.map (some w.heap.size)) (.int .i64 x) false).run Try.prog ((wr.alloc (.cells #[.int .i64 x, .int .i64 y, .int .i64 z] 25)).drewN n) = .ok (.int .i64 A) ((wr.alloc (.cells #[.int .i64 x, .int .i64 y, .int .i64 z] 25)).drewN n) := fun n => by
            have := ((hm.below (bl_trans hb (bl_alloc wr (.cells #[.int .i64 x, .int .i64 y, .int .i64 z] 25)))).block (w' := (wr.alloc (.cells #[.int .i64 x, .int .i64 y, .int .i64 z] 25)).drewN n) rfl).look (v := x) (wfZ_of (by omega))
            rw [hFx] at this; exact this
          have hl2 : ∀ n, (Instr.lookup 40 (.map (some w.heap.size)) (.int .i64 y) false).run Try.prog ((wr.alloc (.cells #[.int .i64 x, .int .i64 y, .int .i64 z] 25)).drewN n) = .ok (.int .i64 B) ((wr.alloc (.cells #[.int .i64 x, .int .i64 y, .int .i64 z] 25)).drewN n) := fun n => by
            have := ((hm.below (bl_trans hb (bl_alloc wr (.cells #[.int .i64 x, .int .i64 y, .int .i64 z] 25)))).block (w' := (wr.alloc (.cells #[.int .i64 x, .int .i64 y, .int .i64 z] 25)).drewN n) rfl).look (v := y) (wfZ_of (by omega))
            rw [hFy] at this; exact this
          have Hst := Lib.hid hst; have Hk := Lib.hid hk
          clear hst hstep hx hk hmemk hxm hym hA hBe hFx hFy
          go_wp2_with fail
          go_quiet (fail)
          have hO1 := (hO.alloc (.cells #[.int .i64 x, .int .i64 y, .int .i64 z] 25)).drewN nq
          have hbl1 : Below w3.heap.size w3 ((wr.alloc (.cells #[.int .i64 x, .int .i64 y, .int .i64 z] 25)).drewN nq) := below_drewN (bl_trans hb (bl_alloc _ _)) _
          have hsz1 : w3.heap.size < ((wr.alloc (.cells #[.int .i64 x, .int .i64 y, .int .i64 z] 25)).drewN nq).heap.size := by simp; omega
          generalize (wr.alloc (.cells #[.int .i64 x, .int .i64 y, .int .i64 z] 25)).drewN nq = wX at hO1 hbl1 hsz1 ⊢
          clear hl1 hl2 hO hb c0 c1 c2
          have hvl0 : vals.length = vs.length := by rw [hO1.len]; simp [nbRows]
          obtain ⟨u, hu⟩ : ∃ u, vals[A]? = some u := ⟨vals[A]'(by omega), by simp⟩
          have hrA := nbRows_get (vs := vs) (ls := ls.take k) hAn
          have hown := hO1.own A u _ hu hrA
          rw [List.length_map] at hown
          have hln := nbN_take_len vs ls k A hn
          have hln2 := nbN_take_len vs ls k B hn
          have hcA : wX.cell? ⟨w3.heap.size, A, none⟩ = some u := by rw [hO1.outer.cell? A (by omega)]; exact hu
          have hfA := hO1.outer.frozen A
          have hneA := hO1.ne_outer hu
          obtain ⟨rA, hrAe⟩ : ∃ r, r = nbN vs (ls.take k) A := ⟨_, rfl⟩
          obtain ⟨rB, hrBe⟩ : ∃ r, r = nbN vs (ls.take k) B := ⟨_, rfl⟩
          rw [← hrAe] at hrA hown hln
          rw [← hrBe] at hln2
          have hrB := nbRows_get (vs := vs) (ls := ls.take k) hBn
          have Hst2 := Hst.out
          rw [← hrBe] at hrB Hst2
          rw [← hrAe] at Hst2
          have HO1 := Lib.hid hO1; have HrA := Lib.hid hrA; have HrB := Lib.hid hrB; have Hu := Lib.hid hu; have Hst3 := Lib.hid Hst2; have Hvl0 := Lib.hid hvl0
          clear hO1 hrA hrB hu Hst2 hvl0 hrAe hrBe Hst
          have iA0 : (0 : Int) ≤ (A : Int) := by omega
          have iA1 : (A : Int) < (vs.length : Int) := by omega
          have iB0 : (0 : Int) ≤ (B : Int) := by omega
          have iB1 : (B : Int) < (vs.length : Int) := by omega
          go_upto_region 13 with (at_builtin; refine wpList_append_row _ rfl (.tmp 49) (.tmp 51) 38 rfl 3 (.int .i64 0) 1 8 Try.underlying38 int_info rfl u _ _ rfl (hown.alloc _) ⟨wX.heap.size, 0, none⟩ 1 1 [.int .i64 B] rfl rfl (one_new (cell_new1 rfl)) (one_ok _ _) (by omega) (by unfold maxLen; omega) (by omega) ?_; intro g5 cc5 w5 hr5 hc5 hg5 hor5; obtain ⟨q1⟩ : PLift (w5.cell? ⟨w3.heap.size, A, none⟩ = some u) := ⟨grown_cell hg5 (keep_cell (bl_alloc _ _) hcA) hneA⟩; obtain ⟨q2⟩ : PLift (w5.frozen? ⟨w3.heap.size, A, none⟩ = false) := ⟨grown_frozen hg5 (by simp; omega) ((((bl_alloc wX (.cells #[.int .i64 B] 3)).frozen (p := ⟨w3.heap.size, A, none⟩) hsz1)).trans hfA) hneA⟩)
          have hst1 := (HO1.out.alloc (.cells #[.int .i64 B] 3)).stored Hu.out HrA.out hr5 hg5 (hor5.imp id (fun h => by simpa using h))
          have hbl5 : Below w3.heap.size w3 (w5.setCell ⟨w3.heap.size, A, none⟩ (.slice (some ⟨g5, 0, none⟩) (rA.length + 1) cc5)) := ((bl_trans hbl1 (bl_alloc _ _)).grown hg5 (by simp; omega) (fun j hj => by have := (HO1.out.young A u j Hu.out hj); omega)).setCell (by simp) _
          rw [show (rA.map vN ++ [Value.int .i64 (B : Int)]) = rA.map vN ++ [vN B] from rfl, show (rA.map vN ++ [vN B]).length = rA.length + 1 by simp] at hst1
          have hsz5 : w3.heap.size < (w5.setCell ⟨w3.heap.size, A, none⟩ (.slice (some ⟨g5, 0, none⟩) (rA.length + 1) cc5)).heap.size := by have := hg5.size; simp at this ⊢; omega
          generalize w5.setCell ⟨w3.heap.size, A, none⟩ (.slice (some ⟨g5, 0, none⟩) (rA.length + 1) cc5) = wY at hst1 hbl5 hsz5 ⊢
          clear hr5 hg5 hor5 q1 q2 hcA hfA hneA hown hbl1 hsz1
          generalize vals.set A (.slice (some ⟨g5, 0, none⟩) (rA.length + 1) cc5) = vals2 at hst1
          have hvl2 : vals2.length = vs.length := by rw [hst1.len]; simp [nbRows]
          obtain ⟨u2, hu2⟩ : ∃ u, vals2[B]? = some u := ⟨vals2[B]'(by omega), by simp⟩
          have hrB2 : ((nbRows vs.length vs (ls.take k)).set A (rA.map vN ++ [vN B]))[B]? = some (rB.map vN) := by rw [List.getElem?_set, if_neg hAB]; exact HrB.out
          have hown2 := hst1.own B u2 _ hu2 hrB2
          rw [List.length_map] at hown2
          have hcB : wY.cell? ⟨w3.heap.size, B, none⟩ = some u2 := by rw [hst1.outer.cell? B (by omega)]; exact hu2
          have hfB := hst1.outer.frozen B
          have hneB := hst1.ne_outer hu2
          have HS1 := Lib.hid hst1; have HrB2 := Lib.hid hrB2; have Hu2 := Lib.hid hu2
          clear hst1 hrB2 hu2 hvl2
          go_upto_region 14 with (at_builtin; refine wpList_append_row _ rfl (.tmp 59) (.tmp 61) 38 rfl 3 (.int .i64 0) 1 8 Try.underlying38 int_info rfl u2 _ _ rfl (hown2.alloc _) ⟨wY.heap.size, 0, none⟩ 1 1 [.int .i64 A] rfl rfl (one_new (cell_new1 rfl)) (one_ok _ _) (by omega) (by unfold maxLen; omega) (by omega) ?_; intro g6 cc6 w6 hr6 hc6 hg6 hor6; obtain ⟨q1⟩ : PLift (w6.cell? ⟨w3.heap.size, B, none⟩ = some u2) := ⟨grown_cell hg6 (keep_cell (bl_alloc _ _) hcB) hneB⟩; obtain ⟨q2⟩ : PLift (w6.frozen? ⟨w3.heap.size, B, none⟩ = false) := ⟨grown_frozen hg6 (by simp; omega) ((((bl_alloc wY (.cells #[.int .i64 A] 3)).frozen (p := ⟨w3.heap.size, B, none⟩) hsz5)).trans hfB) hneB⟩)
          have hst2 := (HS1.out.alloc (.cells #[.int .i64 A] 3)).stored Hu2.out HrB2.out hr6 hg6 (hor6.imp id (fun h => by simpa using h))
          have hbl6 : Below w3.heap.size w3 (w6.setCell ⟨w3.heap.size, B, none⟩ (.slice (some ⟨g6, 0, none⟩) (rB.length + 1) cc6)) := ((bl_trans hbl5 (bl_alloc _ _)).grown hg6 (by simp; omega) (fun j hj => by have := (HS1.out.young B u2 j Hu2.out hj); omega)).setCell (by simp) _
          rw [show (rB.map vN ++ [Value.int .i64 (A : Int)]) = rB.map vN ++ [vN A] from rfl, show (rB.map vN ++ [vN A]).length = rB.length + 1 by simp, Hst3.out] at hst2
          have hsz6 : w3.heap.size < (w6.setCell ⟨w3.heap.size, B, none⟩ (.slice (some ⟨g6, 0, none⟩) (rB.length + 1) cc6)).heap.size := by have := hg6.size; simp at this ⊢; omega
          clear hr6 hg6 hor6 q1 q2 hcB hfB hneB hown2 hbl5 hsz5
          go_wp2_with fail
          go_roundg (gk - 1)
          case measure => have := Hk.out; omega
          case rel => exact ⟨k + 1, _, by have := Hk.out; omega, by go_num, hst2, hbl6, hsz6⟩
        · have hkl : k = ls.length := by omega
          subst hkl
          rw [List.take_length] at hO
          have hok := HR.out.2.1
          have hG : RdG wr w3.heap.size vs.length (nbN vs ls) := fun v hv => by
            have hvl0 : vals.length = vs.length := by rw [hO.len]; simp [nbRows]
            obtain ⟨u, hu⟩ : ∃ u, vals[v]? = some u := ⟨vals[v]'(by omega), by simp⟩
            have hrA := nbRows_get (vs := vs) (ls := ls) hv
            have hown := hO.own v u _ hu hrA
            have hc : wr.cell? ⟨w3.heap.size, v, none⟩ = some u := by rw [hO.outer.cell? v (by omega)]; exact hu
            rcases hown.2 with ⟨rfl, h0⟩ | ⟨g, c', rfl, _, hrow⟩
            · rw [List.length_map] at h0
              have hnil := List.eq_nil_of_length_eq_zero h0
              exact ⟨none, 0, by rw [hc, hnil]; rfl, by rw [hnil]; intro i u hu; simp at hu⟩
            · rw [List.length_map] at hc
              exact ⟨some ⟨g, 0, none⟩, c', hc, hrow.at_⟩
          have hB4 := bl_trans hB3 hb
          have hszw := hB3.size
          clear hO hr3 hm hk hok hb
          go_wp2_with fail
          go_ret
          exact ⟨_, rfl, hG, hszw, hB4⟩
end Go.Proofs.Ytagcbnpahgfgmaa
