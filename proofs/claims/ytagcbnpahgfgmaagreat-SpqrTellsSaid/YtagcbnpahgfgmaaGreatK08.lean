/- Facts that the claim rests on, part 9. -/
import Derived.Test.YtagcbnpahgfgmaaGreatK07
namespace Go.Proofs.YtagcbnpahgfgmaaGreat
open Go Go.RowKit
def RetNb (w : World) (n : Nat) (bs : Nat → List Nat) (e : Ending) (w' : World) : Prop :=
 ∃ g, e = .returned (.slice (some ⟨g, 0, none⟩) n n) ∧ RdG w' g n bs ∧ w.heap.size ≤ g ∧ Below w.heap.size w w'
set_option maxRecDepth 100000 in
set_option maxHeartbeats 8000000 in
theorem neighbours_walk (a : Option Addr) (cap : Nat) (ls : List Lk) (av : Option Addr) (cv : Nat) (vs : List Int) (w : World) (hr2 : RdL w a ls) (hRR : RightL ls) (hvs : vs = vertsL ls) (hrv : RdI w av vs) (hvc : vs.length ≤ cv) :
  Calls Tryz.prog 87 #[.slice a ls.length cap, .slice av vs.length cv] w (RetNb w vs.length (nbN vs ls)) := by
 have hn := hRR.1
 have HR := Lib.hid hRR; clear hRR
 have hvl : vs.length ≤ 2000 := by rw [hvs]; have := vertsL_length ls; omega
 have Hvs := Lib.hid hvs; clear hvs
 have hvn : vs.Nodup := by rw [Hvs.out]; exact verts_nodup ls
 have Hvn := Lib.hid hvn; clear hvn
 have hmm := run_makeMapZ
 have hmk := run_make_row' (P := Tryz.prog) 63 33 (.slice none 0 0) 24 Tryz.underlying63 ints_info2 rfl .i64 .i64 vs.length (by omega) (by omega)
 go_enter Tryz.func87, Tryz.ntmps87
 go_wp2_with fail
 go_loopg [18] vs.length (fun r i wr => ∃ (k c : Nat) (F : Int → Option Int), k + r = vs.length ∧ i = .int .i64 k ∧ c ≤ k ∧ MZ wr w.heap.size c F ∧ (∀ (j : Nat) (x : Int), j < k → vs[j]? = some x → F x = some (j : Int)) ∧ Below w.heap.size w wr)
 case atStart => exact ⟨0, 0, _, by omega, rfl, Nat.le_refl _, MZ.made w, fun j x hj => by omega, bl_alloc _ _⟩
 case round =>
  obtain ⟨k, c, F, hk, rfl, hck, hm, hF, hb⟩ := hrel
  by_cases hlt : k < vs.length
  ·
   obtain ⟨bv, ov, rfl, c0⟩ := (hrv.below hb).at k hlt; obtain ⟨z, hz⟩ : ∃ z, vs[k] = z := ⟨_, rfl⟩
   rw [hz] at c0; have hzm : z ∈ vertsL ls := by rw [← Hvs.out, ← hz]; exact List.getElem_mem hlt
   have hzb : 0 ≤ z ∧ z ≤ 1048576 := by
    obtain ⟨q, hq, e⟩ := (mem_vertsL ls z).1 hzm; have ok := HR.out.2.1 q hq; unfold OkL at ok; rcases e with rfl | rfl <;> omega
   have hwz : WfZ z := wfZ_of (by omega); have hF2 : ∀ (j : Nat) (x : Int), j < k + 1 → vs[j]? = some x → updF F z k x = some (j : Int) := fun j x hj hx => by
    by_cases e : j = k
    ·
     subst e; rw [List.getElem?_eq_getElem hlt, hz] at hx; cases hx; exact updF_same _ _ _
    ·
     have hjl := (List.getElem?_eq_some_iff.1 hx).1; rw [updF_ne _ _ fun e2 => ?_]
     · exact hF j x (by omega) hx
     ·
      rw [List.getElem?_eq_getElem hjl] at hx; exact e ((List.getElem_inj Hvn.out).1 ((Option.some.inj hx).trans (e2.trans hz.symm)))
   have HF2 := Lib.hid hF2; have Hwz := Lib.hid hwz; have Hk := Lib.hid hk; clear hF2 hwz hz hk hF hzm hzb; go_wp2_with (at_mapUpdate; refine wpList_put_MZ rfl _ _ _ rfl hm rfl rfl rfl Hwz.out (wfZ_of (by omega)) (by omega) ?_; intro w5 hm5 hg5); have hb5 : Below w.heap.size w w5 := hb.grown hg5 hb.size (fun j hj => by cases hj; exact Nat.le_refl _); have hc5 : (if (F z).isSome then c else c + 1) ≤ k + 1 := by split <;> omega
   clear hg5 hm; go_roundg (gk - 1)
   case measure => have := Hk.out; omega
   case rel => exact ⟨k + 1, _, _, by have := Hk.out; omega, by go_num, hc5, hm5, HF2.out, hb5⟩
  ·
   have hkl : k = vs.length := by omega
   subst hkl; obtain ⟨w3, rfl⟩ : ∃ w3 : World, w3 = wr := ⟨_, rfl⟩
   have hr3 := hr2.below hb; have hB3 := hb; have hF0 : ∀ x, x ∈ vertsL ls → F x = some ((vs.idxOf x : Nat) : Int) := fun x hx => by
    rw [← Hvs.out] at hx; exact hF _ x (List.idxOf_lt_length_of_mem hx) (get_idxOf hx)
   have HF := Lib.hid hF0; clear hF hF0 hk hr2 hb hrv; have hok0 : nbRows vs.length vs (ls.take 0) = List.replicate vs.length [] := by
    apply List.ext_getElem (by simp [nbRows]); intro i h1 h2; simp [nbRows, nbN]
   have Hok0 := Lib.hid hok0; clear hok0; have hzm3 := hm.lt; go_wp2_with fail; go_loopg [32] ls.length (fun r i wr => ∃ (k : Nat) (vals : List Value), k + r = ls.length ∧ i = .int .i64 k ∧ OwnRows wr w3.heap.size 33 3 vs.length vals (nbRows vs.length vs (ls.take k)) ∧ Below w3.heap.size w3 wr ∧ w3.heap.size < wr.heap.size)
   case atStart => exact ⟨0, _, by omega, rfl, by rw [Hok0.out]; exact ownRows_made w3 vs.length _ _ (by unfold maxLen; omega), bl_alloc _ _, by simp⟩
   case round =>
    obtain ⟨k, vals, hk, rfl, hO, hb, hsz⟩ := hrel; by_cases hlt : k < ls.length
    ·
     obtain ⟨b, o, rfl, c0, c1, c2⟩ := (hr3.below hb).at k hlt; have hok := HR.out.2.1 _ (List.getElem_mem hlt); have hmemk := List.getElem_mem hlt; have hstep := fun (A B : Nat) (hA : vs.idxOf ls[k].1 = A) (hBe : vs.idxOf ls[k].2.1 = B) => nbRows_step (n := vs.length) (vs := vs) hlt hA hBe; obtain ⟨⟨x, y, z⟩, hx⟩ : ∃ x : Lk, ls[k] = x := ⟨_, rfl⟩
     rw [hx] at c0 c1 c2 hok hmemk hstep; obtain ⟨k0, k1, k2, k3, k4⟩ := hok; simp only at c0 c1 c2 k0 k1 k2 k3 k4 hstep; have hxm : x ∈ vertsL ls := (mem_vertsL ls x).2 ⟨_, hmemk, .inl rfl⟩; have hym : y ∈ vertsL ls := (mem_vertsL ls y).2 ⟨_, hmemk, .inr rfl⟩; obtain ⟨A, hA⟩ : ∃ A, vs.idxOf x = A := ⟨_, rfl⟩
     obtain ⟨B, hBe⟩ : ∃ B, vs.idxOf y = B := ⟨_, rfl⟩
     have hAn : A < vs.length := by rw [← hA]; exact List.idxOf_lt_length_of_mem (by rw [Hvs.out]; exact hxm)
     have hBn : B < vs.length := by rw [← hBe]; exact List.idxOf_lt_length_of_mem (by rw [Hvs.out]; exact hym)
     have hAB : A ≠ B := fun e => by
      have := idxOf_inj (vs := vs) (by rw [Hvs.out]; exact hxm) (by rw [Hvs.out]; exact hym) (by rw [hA, hBe, e]); omega
     have hst := hstep A B hA hBe hAB hAn hBn; have hFx := HF.out x hxm; have hFy := HF.out y hym; rw [hA] at hFx; rw [hBe] at hFy; have hl1 : ∀ n, (Instr.lookup 35 (.map (some w.heap.size)) (.int .i64 x) false).run Tryz.prog ((wr.alloc (.cells #[.int .i64 x, .int .i64 y, .int .i64 z] 38)).drewN n) = .ok (.int .i64 A) ((wr.alloc (.cells #[.int .i64 x, .int .i64 y, .int .i64 z] 38)).drewN n) := fun n => by
      have := ((hm.below (bl_trans hb (bl_alloc wr (.cells #[.int .i64 x, .int .i64 y, .int .i64 z] 38)))).block (w' := (wr.alloc (.cells #[.int .i64 x, .int .i64 y, .int .i64 z] 38)).drewN n) rfl).look (v := x) (wfZ_of (by omega)); rw [hFx] at this; exact this
     have hl2 : ∀ n, (Instr.lookup 35 (.map (some w.heap.size)) (.int .i64 y) false).run Tryz.prog ((wr.alloc (.cells #[.int .i64 x, .int .i64 y, .int .i64 z] 38)).drewN n) = .ok (.int .i64 B) ((wr.alloc (.cells #[.int .i64 x, .int .i64 y, .int .i64 z] 38)).drewN n) := fun n => by
      have := ((hm.below (bl_trans hb (bl_alloc wr (.cells #[.int .i64 x, .int .i64 y, .int .i64 z] 38)))).block (w' := (wr.alloc (.cells #[.int .i64 x, .int .i64 y, .int .i64 z] 38)).drewN n) rfl).look (v := y) (wfZ_of (by omega)); rw [hFy] at this; exact this
     have Hst := Lib.hid hst; have Hk := Lib.hid hk; clear hst hstep hx hk hmemk hxm hym hA hBe hFx hFy; go_wp2_with fail; go_quiet (fail)
     have hO1 := (hO.alloc (.cells #[.int .i64 x, .int .i64 y, .int .i64 z] 38)).drewN nq; have hbl1 : Below w3.heap.size w3 ((wr.alloc (.cells #[.int .i64 x, .int .i64 y, .int .i64 z] 38)).drewN nq) := below_drewN (bl_trans hb (bl_alloc _ _)) _; have hsz1 : w3.heap.size < ((wr.alloc (.cells #[.int .i64 x, .int .i64 y, .int .i64 z] 38)).drewN nq).heap.size := by simp; omega
     generalize (wr.alloc (.cells #[.int .i64 x, .int .i64 y, .int .i64 z] 38)).drewN nq = wX at hO1 hbl1 hsz1 ⊢; clear hl1 hl2 hO hb c0 c1 c2; have hvl0 : vals.length = vs.length := by rw [hO1.len]; simp [nbRows]
     obtain ⟨u, hu⟩ : ∃ u, vals[A]? = some u := ⟨vals[A]'(by omega), by simp⟩
     have hrA := nbRows_get (vs := vs) (ls := ls.take k) hAn; have hown := hO1.own A u _ hu hrA; rw [List.length_map] at hown; have hln := nbN_take_len vs ls k A hn; have hln2 := nbN_take_len vs ls k B hn; have hcA : wX.cell? ⟨w3.heap.size, A, none⟩ = some u := by rw [hO1.outer.cell? A (by omega)]; exact hu
     have hfA := hO1.outer.frozen A; have hneA := hO1.ne_outer hu; obtain ⟨rA, hrAe⟩ : ∃ r, r = nbN vs (ls.take k) A := ⟨_, rfl⟩
     obtain ⟨rB, hrBe⟩ : ∃ r, r = nbN vs (ls.take k) B := ⟨_, rfl⟩
     rw [← hrAe] at hrA hown hln; rw [← hrBe] at hln2; have hrB := nbRows_get (vs := vs) (ls := ls.take k) hBn; have Hst2 := Hst.out; rw [← hrBe] at hrB Hst2; rw [← hrAe] at Hst2; have HO1 := Lib.hid hO1; have HrA := Lib.hid hrA; have HrB := Lib.hid hrB; have Hu := Lib.hid hu; have Hst3 := Lib.hid Hst2; have Hvl0 := Lib.hid hvl0; clear hO1 hrA hrB hu Hst2 hvl0 hrAe hrBe Hst; have iA0 : (0 : Int) ≤ (A : Int) := by omega
     have iA1 : (A : Int) < (vs.length : Int) := by omega
     have iB0 : (0 : Int) ≤ (B : Int) := by omega
     have iB1 : (B : Int) < (vs.length : Int) := by omega
     go_upto_region 13 with (at_builtin; refine wpList_append_row _ rfl (.tmp 49) (.tmp 51) 33 rfl 3 (.int .i64 0) 1 8 Tryz.underlying33 int_info rfl u _ _ rfl (hown.alloc _) ⟨wX.heap.size, 0, none⟩ 1 1 [.int .i64 B] rfl rfl (one_new (cell_new1 rfl)) (one_ok _ _) (by omega) (by unfold maxLen; omega) (by omega) ?_; intro g5 cc5 w5 hr5 hc5 hg5 hor5; obtain ⟨q1⟩ : PLift (w5.cell? ⟨w3.heap.size, A, none⟩ = some u) := ⟨grown_cell hg5 (keep_cell (bl_alloc _ _) hcA) hneA⟩; obtain ⟨q2⟩ : PLift (w5.frozen? ⟨w3.heap.size, A, none⟩ = false) := ⟨grown_frozen hg5 (by simp; omega) ((((bl_alloc wX (.cells #[.int .i64 B] 3)).frozen (p := ⟨w3.heap.size, A, none⟩) hsz1)).trans hfA) hneA⟩)
     have hst1 := (HO1.out.alloc (.cells #[.int .i64 B] 3)).stored Hu.out HrA.out hr5 hg5 (hor5.imp id (fun h => by simpa using h)); have hbl5 : Below w3.heap.size w3 (w5.setCell ⟨w3.heap.size, A, none⟩ (.slice (some ⟨g5, 0, none⟩) (rA.length + 1) cc5)) := ((bl_trans hbl1 (bl_alloc _ _)).grown hg5 (by simp; omega) (fun j hj => by have := (HO1.out.young A u j Hu.out hj); omega)).setCell (by simp) _; rw [show (rA.map vN ++ [Value.int .i64 (B : Int)]) = rA.map vN ++ [vN B] from rfl, show (rA.map vN ++ [vN B]).length = rA.length + 1 by simp] at hst1; have hsz5 : w3.heap.size < (w5.setCell ⟨w3.heap.size, A, none⟩ (.slice (some ⟨g5, 0, none⟩) (rA.length + 1) cc5)).heap.size := by have := hg5.size; simp at this ⊢; omega
     generalize w5.setCell ⟨w3.heap.size, A, none⟩ (.slice (some ⟨g5, 0, none⟩) (rA.length + 1) cc5) = wY at hst1 hbl5 hsz5 ⊢; clear hr5 hg5 hor5 q1 q2 hcA hfA hneA hown hbl1 hsz1; generalize vals.set A (.slice (some ⟨g5, 0, none⟩) (rA.length + 1) cc5) = vals2 at hst1; have hvl2 : vals2.length = vs.length := by rw [hst1.len]; simp [nbRows]
     obtain ⟨u2, hu2⟩ : ∃ u, vals2[B]? = some u := ⟨vals2[B]'(by omega), by simp⟩
     have hrB2 : ((nbRows vs.length vs (ls.take k)).set A (rA.map vN ++ [vN B]))[B]? = some (rB.map vN) := by rw [List.getElem?_set, if_neg hAB]; exact HrB.out
     have hown2 := hst1.own B u2 _ hu2 hrB2; rw [List.length_map] at hown2; have hcB : wY.cell? ⟨w3.heap.size, B, none⟩ = some u2 := by rw [hst1.outer.cell? B (by omega)]; exact hu2
     have hfB := hst1.outer.frozen B; have hneB := hst1.ne_outer hu2; have HS1 := Lib.hid hst1; have HrB2 := Lib.hid hrB2; have Hu2 := Lib.hid hu2; clear hst1 hrB2 hu2 hvl2; go_upto_region 14 with (at_builtin; refine wpList_append_row _ rfl (.tmp 59) (.tmp 61) 33 rfl 3 (.int .i64 0) 1 8 Tryz.underlying33 int_info rfl u2 _ _ rfl (hown2.alloc _) ⟨wY.heap.size, 0, none⟩ 1 1 [.int .i64 A] rfl rfl (one_new (cell_new1 rfl)) (one_ok _ _) (by omega) (by unfold maxLen; omega) (by omega) ?_; intro g6 cc6 w6 hr6 hc6 hg6 hor6; obtain ⟨q1⟩ : PLift (w6.cell? ⟨w3.heap.size, B, none⟩ = some u2) := ⟨grown_cell hg6 (keep_cell (bl_alloc _ _) hcB) hneB⟩; obtain ⟨q2⟩ : PLift (w6.frozen? ⟨w3.heap.size, B, none⟩ = false) := ⟨grown_frozen hg6 (by simp; omega) ((((bl_alloc wY (.cells #[.int .i64 A] 3)).frozen (p := ⟨w3.heap.size, B, none⟩) hsz5)).trans hfB) hneB⟩)
     have hst2 := (HS1.out.alloc (.cells #[.int .i64 A] 3)).stored Hu2.out HrB2.out hr6 hg6 (hor6.imp id (fun h => by simpa using h)); have hbl6 : Below w3.heap.size w3 (w6.setCell ⟨w3.heap.size, B, none⟩ (.slice (some ⟨g6, 0, none⟩) (rB.length + 1) cc6)) := ((bl_trans hbl5 (bl_alloc _ _)).grown hg6 (by simp; omega) (fun j hj => by have := (HS1.out.young B u2 j Hu2.out hj); omega)).setCell (by simp) _; rw [show (rB.map vN ++ [Value.int .i64 (A : Int)]) = rB.map vN ++ [vN A] from rfl, show (rB.map vN ++ [vN A]).length = rB.length + 1 by simp, Hst3.out] at hst2; have hsz6 : w3.heap.size < (w6.setCell ⟨w3.heap.size, B, none⟩ (.slice (some ⟨g6, 0, none⟩) (rB.length + 1) cc6)).heap.size := by have := hg6.size; simp at this ⊢; omega
     clear hr6 hg6 hor6 q1 q2 hcB hfB hneB hown2 hbl5 hsz5; go_wp2_with fail; go_roundg (gk - 1)
     case measure => have := Hk.out; omega
     case rel => exact ⟨k + 1, _, by have := Hk.out; omega, by go_num, hst2, hbl6, hsz6⟩
    ·
     have hkl : k = ls.length := by omega
     subst hkl; rw [List.take_length] at hO; have hok := HR.out.2.1; have hG : RdG wr w3.heap.size vs.length (nbN vs ls) := fun v hv => by
      have hvl0 : vals.length = vs.length := by rw [hO.len]; simp [nbRows]
      obtain ⟨u, hu⟩ : ∃ u, vals[v]? = some u := ⟨vals[v]'(by omega), by simp⟩
      have hrA := nbRows_get (vs := vs) (ls := ls) hv; have hown := hO.own v u _ hu hrA; have hc : wr.cell? ⟨w3.heap.size, v, none⟩ = some u := by rw [hO.outer.cell? v (by omega)]; exact hu
      rcases hown.2 with ⟨rfl, h0⟩ | ⟨g, c', rfl, _, hrow⟩
      ·
       rw [List.length_map] at h0; have hnil := List.eq_nil_of_length_eq_zero h0; exact ⟨none, 0, by rw [hc, hnil]; rfl, by rw [hnil]; intro i u hu; simp at hu⟩
      ·
       rw [List.length_map] at hc; exact ⟨some ⟨g, 0, none⟩, c', hc, hrow.at_⟩
     have hB4 := bl_trans hB3 hb; have hszw := hB3.size; clear hO hr3 hm hk hok hb; go_wp2_with fail; go_ret; exact ⟨_, rfl, hG, hszw, hB4⟩
end Go.Proofs.YtagcbnpahgfgmaaGreat
namespace Go.Proofs.YtagcbnpahgfgmaaGreat
open Go Go.RowKit
set_option maxHeartbeats 1000000 in
theorem asks_walk (cb db gc gd n j : Nat) (cut : Nat → Bool) (dir : Nat → Nat) (t : Bool) (w : World) (hc : w.cell? ⟨cb, 0, none⟩ = some (.slice (some ⟨gc, 0, none⟩) n n)) (hd : w.cell? ⟨db, 0, none⟩ = some (.slice (some ⟨gd, 0, none⟩) n n))
  (hrc : Row w gc 4 1 n (rowB n cut)) (hrd : Row w gd 3 1 n (rowN n dir)) (hj : j < n) (ht : (cut j || decide (1 < dir j)) = t) :
  Calls Tryz.prog 88 #[.int .i64 j, .pointer (some ⟨cb, 0, none⟩), .pointer (some ⟨db, 0, none⟩)] w fun e w' => e = .returned (.bool t) ∧ w = w' := by
 have c1 := hrc.atB hj
 have c2 := hrd.atN hj
 cases hcj : cut j with
 | true =>
  rw [hcj, Bool.true_or] at ht
  rw [hcj] at c1
  subst ht
  clear hcj
  go_enter Tryz.func88, Tryz.ntmps88
  go_wp2_with fail
  go_ret
  exact ⟨rfl, rfl⟩
 | false =>
  rw [hcj, Bool.false_or] at ht
  rw [hcj] at c1
  obtain ⟨d, hd0⟩ : ∃ d, d = dir j := ⟨_, rfl⟩
  rw [← hd0] at ht c2
  clear hcj hd0
  cases t with
  | true =>
   have q : 1 < d := by simpa using ht
   have q1 : decide ((1 : Int) < (d : Int)) = true := by simp; omega
   clear q; go_enter Tryz.func88, Tryz.ntmps88; go_wp2_with fail; go_ret; exact ⟨rfl, rfl⟩
  | false =>
   have q : ¬ 1 < d := by simpa using ht
   have q1 : decide ((1 : Int) < (d : Int)) = false := by simp; omega
   clear q; go_enter Tryz.func88, Tryz.ntmps88; go_wp2_with fail; go_ret; exact ⟨rfl, rfl⟩
theorem count_step (l : List Nat) (m : Nat) (h : m < l.length) : upd (fun u => (l.take m).count u) l[m] ((l.take m).count l[m] + 1) = fun u => (l.take (m + 1)).count u := by
 funext u
 rw [List.take_succ_eq_append_getElem h, List.count_append]
 unfold upd
 by_cases e : u = l[m]
 · rw [if_pos e, e]; simp
 ·
  rw [if_neg e]
  have : List.count u [l[m]] = 0 := by rw [List.count_eq_zero]; simpa using e
  show List.count u (l.take m) = List.count u (l.take m) + List.count u [l[m]]
  omega
set_option maxRecDepth 100000 in
set_option maxHeartbeats 8000000 in
theorem first_walk (a : Option Addr) (cap : Nat) (ls : List Lk) (w : World) (hr : RdL w a ls) (hcap : ls.length ≤ 9223372036854775807) :
  Calls Tryz.prog 59 #[.slice a ls.length cap] w (RetF w (firstL ls)) := by
 cases h2 : twoL ls with
 | false =>
  have hc := first_no h2
  have H2 := Lib.hid h2; have Hc := Lib.hid hc; clear h2 hc
  go_enter Tryz.func59, Tryz.ntmps59
  go_wp2_with fail
  go_step3
  go_wp2_with fail
  refine (two_walk a cap ls _ hr hcap).mono ?_
  rw [H2.out]
  rintro e w1 ⟨rfl, hb1⟩
  go_wp2_with fail
  rw [Hc.out]
  try rw [Exit.noGoto_ret]
  exact bodyPost_ret (v := .tuple #[.int .i64 0, .int .i64 0, .bool false, .int .i64 130]) (by simp [results, Tryz.results59, go_sem]) rfl ⟨rfl, hb1⟩
 | true =>
  have hR := two_right h2
  have hn := hR.1
  obtain ⟨vs, hvs⟩ : ∃ vs, vs = vertsL ls := ⟨_, rfl⟩
  have hvl : vs.length ≤ 2000 := by rw [hvs]; have := vertsL_length ls; omega
  have hv2 : 2 ≤ vs.length := by rw [hvs]; exact two_verts h2
  have Hvs := Lib.hid hvs; have H2 := Lib.hid h2; have HR := Lib.hid hR; clear hvs h2 hR
  have hmi := run_make_row' (P := Tryz.prog) 33 3 (.int .i64 0) 8 Tryz.underlying33 int_info rfl .i64 .i64 vs.length (by omega) (by omega)
  go_enter Tryz.func59, Tryz.ntmps59
  go_wp2_with fail
  go_step3
  go_wp2_with fail
  refine (two_walk a cap ls _ hr hcap).mono ?_
  rw [H2.out]
  rintro e w1 ⟨rfl, hb1⟩
  go_wp2_with fail
  refine (verts_walk a cap ls _ (hr.below hb1) (by omega)).mono ?_
  rw [← Hvs.out]
  rintro e w2 ⟨av, cv, rfl, hrv, _, hvc, hvm, hb2⟩
  have hB2 := bl_trans hb1 hb2
  have hr2 := hr.below hB2
  clear hb1 hb2 hr
  by_cases hs : vs.length = 2
  ·
   have q0 : ((vs.length : Int) == 2) = true := by rw [hs]; rfl
   have q0' : (vs.length == 2) = true := by rw [hs]; rfl
   have hps := pair_small HR.out (by rw [← Hvs.out]; exact hs); by_cases h4 : ls.length < 4
   ·
    have q1 : decide ((ls.length : Int) < 4) = true := by simp; omega
    have hfin : firstL ls = (0, 0, false, 0) := first_none H2.out fun i k hik hk => by
     rw [← Hvs.out, hs] at hk; obtain rfl : k = 1 := by omega
     obtain rfl : i = 0 := by omega
     rw [hps]; simp; omega
    have Hfin := Lib.hid hfin; clear hfin hps hs h4; go_wp2_with fail; rw [Hfin.out]; try rw [Exit.noGoto_ret]
    exact bodyPost_ret (v := .tuple #[.int .i64 0, .int .i64 0, .bool false, .int .i64 0]) (by simp [results, Tryz.results59, go_sem]) rfl ⟨rfl, hB2⟩
   ·
    have q1 : decide ((ls.length : Int) < 4) = false := by simp; omega
    obtain ⟨b, o, rfl, c0⟩ := hrv.at 0 (by omega); obtain ⟨b', o', e', c1⟩ := hrv.at 1 (by omega); cases e'; obtain ⟨x, hx⟩ : ∃ x, vs[0]'(by omega) = x := ⟨_, rfl⟩
    obtain ⟨y, hy⟩ : ∃ x, vs[1]'(by omega) = x := ⟨_, rfl⟩
    rw [hx] at c0; rw [hy] at c1; simp only [Nat.add_zero] at c0; have hfin : firstL ls = (x, y, true, 0) := by
     have h1 := first_at H2.out (i := 0) (k := 1) ⟨by omega, by rw [← Hvs.out]; omega, by rw [hps]; simp; omega, fun k' h1 h2 => absurd h1 (by omega), fun i' k' h1 => absurd h1 (by omega)⟩; rw [h1, ← Hvs.out, getD_at (by omega), getD_at (by omega), hx, hy]
    have l0 : (0 : Int) < (vs.length : Int) := by omega
    have l1 : (1 : Int) < (vs.length : Int) := by omega
    have Hfin := Lib.hid hfin; clear hfin hps hx hy hs h4; go_wp2_with fail; go_quiet (fail)
    go_wp2_with fail; rw [Hfin.out]; try rw [Exit.noGoto_ret]
    exact bodyPost_ret (v := .tuple #[.int .i64 x, .int .i64 y, .bool true, .int .i64 0]) (by simp [results, Tryz.results59, go_sem]) rfl ⟨rfl, below_drewN hB2 _⟩
  ·
   have h3 : 3 ≤ vs.length := by omega
   have q0 : ((vs.length : Int) == 2) = false := by simp only [beq_eq_false_iff_ne, ne_eq]; omega
   have q0' : (vs.length == 2) = false := by simpa using hs
   clear hs; go_wp2_with fail; refine (neighbours_walk a cap ls av cv vs _ hr2 HR.out Hvs.out hrv hvc).mono ?_; rintro e w3 ⟨G, rfl, hG, hGsz, hb3⟩; have hB3 := bl_trans hB2 hb3; have hrv3 := hrv.below hb3; clear hB2 hb3 hrv hr2; go_wp2_with fail; go_step3; go_wp2_with fail; go_loopg [8, 9, 40] vs.length (fun r av' bv' iv wj => ∃ i : Nat, i + r = vs.length ∧ iv = .int .i64 i ∧ av' = .int .i64 (-1) ∧ bv' = .int .i64 (-1) ∧ (∀ i' k', i' < i → i' < k' → k' < vs.length → pairAt ls i' k' = false) ∧ Below w3.heap.size w3 wj)
   case atStart => exact ⟨0, by omega, rfl, rfl, rfl, fun i' k' h => absurd h (by omega), bl_refl _⟩
   case round =>
    obtain ⟨i, hi, rfl, rfl, rfl, hall, hbi⟩ := hrel; have Hi := Lib.hid hi; have Hall := Lib.hid hall; clear hall; by_cases hil : i < vs.length
    ·
     clear hi; obtain ⟨gO, rfl⟩ : ∃ n : Nat, n = gk := ⟨_, rfl⟩
     obtain ⟨x, hx⟩ : ∃ x, vs[i] = x := ⟨_, rfl⟩
     have hok := HR.out.2.1; have hsy : ∀ a b, b ∈ nbN vs ls a → a ∈ nbN vs ls b := by rw [Hvs.out]; exact nbN_symm hok
     have hlt2 : ∀ v, v < vs.length → ∀ x ∈ nbN vs ls v, x < vs.length := fun v _ x hx => by
      rw [Hvs.out] at hx ⊢; exact (nbN_lt hok hx).1
     have hlen : ∀ v, v < vs.length → (nbN vs ls v).length ≤ 1000 := fun v _ => by have := nbN_len vs ls v; omega
     have hsum : restS vs.length (nbN vs ls) (fun _ => 0) ≤ 100000000 := by
      have h1 := restS_le hlen; have h2 : vs.length * 1000 ≤ 2000 * 1000 := Nat.mul_le_mul_right _ hvl; omega
     have hcuts := cuts_walk G vs.length (nbN vs ls) (i : Int) wr (hG.below hbi) hsy hlt2 (by omega) (fun v hv => by have := hlen v hv; omega) hsum (by omega) (by omega); have hli := hlen i hil; have hlti := hlt2 i hil; obtain ⟨au, cu, gci, gca⟩ := hG i hil; have Hlti := Lib.hid hlti; clear hok hsy hlt2 hlen hsum hlti; go_wp2_with fail; refine hcuts.mono ?_; rintro e w4 ⟨jn, cut, gc, rfl, hrc, hgc, hb4, hspec⟩; have hask : ∀ u y, vs[u]? = some y → i ≠ u → (cut u || decide (1 < (nbN vs ls i).count u)) = pairAt ls i u := fun u y hu hiu => by
      rw [Hvs.out] at hspec hu ⊢; have hxi : (vertsL ls)[i]? = some x := by rw [← Hvs.out, List.getElem?_eq_getElem hil, hx]
      have h1 := pair_ask H2.out (by rw [← Hvs.out]; exact h3) hxi hu hiu hspec; rw [h1]; unfold pairAt; have hil' := (List.getElem?_eq_some_iff.1 hxi).1; have hul' := (List.getElem?_eq_some_iff.1 hu).1; rw [getD_at hil', getD_at hul', (List.getElem?_eq_some_iff.1 hxi).2, (List.getElem?_eq_some_iff.1 hu).2]
     have Hask := Lib.hid hask; have hbi4 := bl_trans hbi hb4; have gci4 := keep_cell hbi4 gci; have gca4 := gca.below hbi4; have hgcl := hrc.lt; clear hask hspec hcuts hgc hb4 hbi gci; go_upto_region 15 with (fail)
     obtain ⟨cb, hcb⟩ : ∃ x, x = w4.heap.size := ⟨_, rfl⟩
     have hx0 : (w4.alloc (.cells #[.slice (some ⟨gc, 0, none⟩) vs.length vs.length] 78)).cell? ⟨cb, 0, none⟩ = some (.slice (some ⟨gc, 0, none⟩) vs.length vs.length) := cell_new1 hcb; have hsA : (w4.alloc (.cells #[.slice (some ⟨gc, 0, none⟩) vs.length vs.length] 78)).heap.size = w4.heap.size + 1 := by simp
     have hrow0 : Row ((w4.alloc (.cells #[.slice (some ⟨gc, 0, none⟩) vs.length vs.length] 78)).alloc (.cells (madeCells #[.int .i64 0] vs.length) 3)) (w4.heap.size + 1) 3 1 vs.length (rowN vs.length fun _ => 0) := by
      have := row_made (w4.alloc (.cells #[.slice (some ⟨gc, 0, none⟩) vs.length vs.length] 78)) (.int .i64 0) vs.length 3 (by unfold maxLen; omega); rwa [rowN_zero, hsA] at this
     have hbA1 := bl_alloc w4 (.cells #[.slice (some ⟨gc, 0, none⟩) vs.length vs.length] 78); generalize w4.alloc (.cells #[.slice (some ⟨gc, 0, none⟩) vs.length vs.length] 78) = w5 at hx0 hsA hrow0 hbA1 ⊢; have hbA2 := bl_alloc w5 (.cells (madeCells #[.int .i64 0] vs.length) 3); have hx1 := keep_cell hbA2 hx0; have hsB : (w5.alloc (.cells (madeCells #[.int .i64 0] vs.length) 3)).heap.size = w4.heap.size + 1 + 1 := by rw [← hsA]; simp
     generalize w5.alloc (.cells (madeCells #[.int .i64 0] vs.length) 3) = w6 at hx1 hsB hrow0 hbA2 ⊢; have hbA3 := bl_alloc w6 (.cells #[.slice (some ⟨w4.heap.size + 1, 0, none⟩) vs.length vs.length] 33); have hx2 := keep_cell hbA3 hx1; have hd2 : (w6.alloc (.cells #[.slice (some ⟨w4.heap.size + 1, 0, none⟩) vs.length vs.length] 33)).cell? ⟨w4.heap.size + 1 + 1, 0, none⟩ = some (.slice (some ⟨w4.heap.size + 1, 0, none⟩) vs.length vs.length) := cell_new1 hsB.symm; have hrow1 := hrow0.below hbA3 hrow0.lt; have hb6 : Below w4.heap.size w4 (w6.alloc (.cells #[.slice (some ⟨w4.heap.size + 1, 0, none⟩) vs.length vs.length] 33)) := bl_trans (bl_trans hbA1 hbA2) hbA3; generalize w6.alloc (.cells #[.slice (some ⟨w4.heap.size + 1, 0, none⟩) vs.length vs.length] 33) = w7 at hx2 hd2 hrow1 hb6 ⊢; clear hx0 hx1 hsA hsB hrow0 hbA1 hbA2 hbA3; obtain ⟨gd, hgd⟩ : ∃ x, x = w4.heap.size + 1 := ⟨_, rfl⟩
     obtain ⟨db, hdb⟩ : ∃ x, x = w4.heap.size + 1 + 1 := ⟨_, rfl⟩
     rw [← hdb] at hd2 ⊢; rw [← hgd] at hd2 hrow1 ⊢; rw [← hcb] at ⊢; have n1 : cb ≠ gd := by omega
     have n2 : db ≠ gd := by omega
     have n3 : w4.heap.size ≤ gd := by omega
     have n4 : gc ≠ gd := by omega
     have N1 := Lib.hid n1; have N2 := Lib.hid n2; have N4 := Lib.hid n4; clear hgd hdb hcb n1 n2 n4; have gci7 := keep_cell hb6 gci4; have hgN : ∀ (wj : World), Below w4.heap.size w4 wj → CellsAt wj au ((nbN vs ls i).map vN) := fun wj hwj => gca.below (bl_trans hbi4 hwj); have HgN := Lib.hid hgN; clear hgN gca4 gci4 gca; obtain ⟨L, hL⟩ : ∃ L, L = nbN vs ls i := ⟨_, rfl⟩
     rw [← hL] at gci7 hli HgN Hlti Hask; clear hL; go_wp2_with fail; go_loopg [57] L.length (fun r mv wj => ∃ m : Nat, m + r = L.length ∧ mv = .int .i64 m ∧ Row wj gd 3 1 vs.length (rowN vs.length fun u => (L.take m).count u) ∧ wj.cell? ⟨cb, 0, none⟩ = some (.slice (some ⟨gc, 0, none⟩) vs.length vs.length) ∧ wj.cell? ⟨db, 0, none⟩ = some (.slice (some ⟨gd, 0, none⟩) vs.length vs.length) ∧ Below w4.heap.size w4 wj)
     case atStart => exact ⟨0, by omega, rfl, by simpa using hrow1, hx2, hd2, hb6⟩
     case round =>
      clear hrow1 hx2 hd2 hb6 gci7; obtain ⟨m, hm, rfl, hrow, hx2, hd2, hb⟩ := hrel; have Hm := Lib.hid hm; by_cases hml : m < L.length
      ·
       clear hm; obtain ⟨bu, ou, eau, cu0⟩ := HgN.out wr hb m (vN L[m]) (by simp [hml]); subst eau; have hu := Hlti.out L[m] (List.getElem_mem hml); have hcs := count_step L m hml; obtain ⟨u, hue⟩ : ∃ u, u = L[m] := ⟨_, rfl⟩
       rw [← hue] at cu0 hu hcs; unfold vN at cu0; have c1 := hrow.atN hu; have f1 := hrow.frozen u; have hgl := hrow.lt; obtain ⟨d, hd⟩ : ∃ d, d = (L.take m).count u := ⟨_, rfl⟩
       have hdl : d ≤ 1000 := by rw [hd]; have h1 := List.count_le_length (a := u) (l := L.take m); rw [List.length_take] at h1; omega
       rw [← hd] at c1 hcs; have i1 : IntKind.i64.wrap ((d : Int) + 1) = (d : Int) + 1 := IntWalk.i64_in _ (by omega); have hrow2 : Row (wr.setCell ⟨gd, u, none⟩ (.int .i64 ((d : Int) + 1))) gd 3 1 vs.length (rowN vs.length fun u => (L.take (m + 1)).count u) := by
        have := hrow.set u (.int .i64 ((d : Int) + 1)); rw [show (Value.int .i64 ((d : Int) + 1)) = vN (d + 1) by unfold vN; simp, rowN_set, hcs] at this; rw [show (Value.int .i64 ((d : Int) + 1)) = vN (d + 1) by unfold vN; simp]; exact this
       have hx3 : (wr.setCell ⟨gd, u, none⟩ (.int .i64 ((d : Int) + 1))).cell? ⟨cb, 0, none⟩ = some (.slice (some ⟨gc, 0, none⟩) vs.length vs.length) := (World.cell?_setCell_far wr ⟨gd, u, none⟩ ⟨cb, 0, none⟩ _ (fun e => N1.out e.symm)).trans hx2; have hd3 : (wr.setCell ⟨gd, u, none⟩ (.int .i64 ((d : Int) + 1))).cell? ⟨db, 0, none⟩ = some (.slice (some ⟨gd, 0, none⟩) vs.length vs.length) := (World.cell?_setCell_far wr ⟨gd, u, none⟩ ⟨db, 0, none⟩ _ (fun e => N2.out e.symm)).trans hd2; have hb3 : Below w4.heap.size w4 (wr.setCell ⟨gd, u, none⟩ (.int .i64 ((d : Int) + 1))) := hb.setCell n3 _; have Hrow2 := Lib.hid hrow2; have Hx3 := Lib.hid hx3; have Hd3 := Lib.hid hd3; clear hcs hd hue hrow2 hx3 hd3 hrow hx2; go_wp2_with fail; go_roundg (gk - 1)
       case measure => have := Hm.out; omega
       case rel => exact ⟨m + 1, by have := Hm.out; omega, by go_num, Hrow2.out, Hx3.out, Hd3.out, hb3⟩
      ·
       have hmn : m = L.length := by omega
       subst hmn; rw [List.take_length] at hrow; clear hm; have hrcE := hrc.below hb hgcl; have hrvE := hrv3.below (bl_trans hbi4 hb); have hbE := bl_trans hbi4 hb; have hbW := bl_trans hB3 hbE; obtain ⟨wE, rfl⟩ : ∃ wo : World, wo = wr := ⟨_, rfl⟩
       have hasks := fun (j : Nat) (t : Bool) (hj : j < vs.length) (ht : (cut j || decide (1 < L.count j)) = t) => asks_walk cb db gc gd vs.length j cut (fun u => L.count u) t wE hx2 hd2 hrcE hrow hj ht; have Hasks := Lib.hid hasks; clear hasks hrcE hrow hx2 hd2 hb; go_wp2_with fail; go_loopg [8, 9, 17] (vs.length - (i + 1)) (fun r a8 b9 kv wj => ∃ k : Nat, k + r = vs.length ∧ i < k ∧ kv = .int .i64 k ∧ a8 = .int .i64 (-1) ∧ b9 = .int .i64 (-1) ∧ (∀ k', i < k' → k' < k → pairAt ls i k' = false) ∧ wE = wj)
       case atStart => exact ⟨i + 1, by omega, by omega, by go_num, rfl, rfl, fun k' h1 h2 => absurd h2 (by omega), rfl⟩
       case round =>
        obtain ⟨k, hk, hik, rfl, rfl, rfl, hall2, rfl⟩ := hrel; have Hk := Lib.hid hk; have Hall2 := Lib.hid hall2; clear hall2; by_cases hkl : k < vs.length
        ·
         clear hk; obtain ⟨b, o, eav, c0⟩ := hrvE.at i hil; subst eav; obtain ⟨b', o', e', c1⟩ := hrvE.at k hkl; cases e'; obtain ⟨y, hy⟩ : ∃ y, vs[k] = y := ⟨_, rfl⟩
         rw [hx] at c0; rw [hy] at c1; have hak := Hask.out k y (by rw [List.getElem?_eq_getElem hkl, hy]) (by omega); obtain ⟨t, ht⟩ : ∃ t, t = pairAt ls i k := ⟨_, rfl⟩
         rw [← ht] at hak; have hcall := Hasks.out k t hkl hak; have Ht := Lib.hid ht; have Hy := Lib.hid hy; have Hcall := Lib.hid hcall; have Hx := Lib.hid hx; clear ht hy hak hcall; go_wp2_with fail; refine Hcall.out.mono ?_; rintro e w' ⟨rfl, rfl⟩; cases t with
         | false =>
          have hnx : ∀ k', i < k' → k' < k + 1 → pairAt ls i k' = false := fun k' h1 h2 => by
           by_cases e : k' < k
           · exact Hall2.out k' h1 e
           ·
            obtain rfl : k' = k := by omega
            exact Ht.out.symm
          have Hnx := Lib.hid hnx; clear hnx; go_wp2_with fail; go_roundg (gk - 1)
          case measure => have := Hk.out; omega
          case rel => exact ⟨k + 1, by have := Hk.out; omega, by omega, by go_num, rfl, rfl, Hnx.out, rfl⟩
         | true =>
          have hfin : firstL ls = (x, y, true, 0) := by
           have h1 := first_at H2.out (i := i) (k := k) ⟨hik, by rw [← Hvs.out]; exact hkl, Ht.out.symm, Hall2.out, by rw [← Hvs.out]; exact Hall.out⟩; rw [h1, ← Hvs.out, getD_at hil, getD_at hkl, Hx.out, Hy.out]
          have hx0 : 0 ≤ x := by
           have hxm : x ∈ vertsL ls := by rw [← Hvs.out, ← Hx.out]; exact List.getElem_mem _
           obtain ⟨q, hq, e⟩ := (mem_vertsL ls x).1 hxm; have ok := HR.out.2.1 q hq; unfold OkL at ok; rcases e with rfl | rfl <;> omega
          have q9 : decide (x < 0) = false := by simp; omega
          have Hfin := Lib.hid hfin; clear hfin hx; go_wp2_with fail; go_quiet (fail)
          go_wp2_with fail; rw [Hfin.out]; try rw [Exit.noGoto_ret]
          exact bodyPost_ret (v := .tuple #[.int .i64 x, .int .i64 y, .bool true, .int .i64 0]) (by simp [results, Tryz.results59, go_sem]) rfl ⟨rfl, below_drewN hbW _⟩
        ·
         have hkn : k = vs.length := by omega
         subst hkn; have hnx : ∀ i' k', i' < i + 1 → i' < k' → k' < vs.length → pairAt ls i' k' = false := fun i' k' h1 h2 h3 => by
          by_cases e : i' < i
          · exact Hall.out i' k' e h2 h3
          ·
           obtain rfl : i' = i := by omega
           exact Hall2.out k' h2 h3
         have Hnx := Lib.hid hnx; clear hnx hk; go_wp2_with fail; go_roundg (gO - 1)
         case measure => have := Hi.out; omega
         case rel => exact ⟨i + 1, by have := Hi.out; omega, by go_num, rfl, rfl, Hnx.out, hbE⟩
    ·
     have hin : i = vs.length := by omega
     subst hin; have hfin : firstL ls = (0, 0, false, 0) := first_none H2.out fun i' k' h1 h4 => by
      rw [← Hvs.out] at h4; exact Hall.out i' k' (by omega) h1 h4
     have Hfin := Lib.hid hfin; clear hfin hi; go_wp2_with fail; rw [Hfin.out]; try rw [Exit.noGoto_ret]
     exact bodyPost_ret (v := .tuple #[.int .i64 0, .int .i64 0, .bool false, .int .i64 0]) (by simp [results, Tryz.results59, go_sem]) rfl ⟨rfl, bl_trans hB3 hbi⟩
end Go.Proofs.YtagcbnpahgfgmaaGreat
namespace Go.Proofs.YtagcbnpahgfgmaaGreat
open Go Go.RowKit
def RetN (w : World) (z : Int) (e : Ending) (w' : World) : Prop := e = .returned (.int .i64 z) ∧ Below w.heap.size w w'
set_option maxRecDepth 100000 in
set_option maxHeartbeats 4000000 in
theorem kind_walk (a : Option Addr) (cap : Nat) (ls : List Lk) (w : World) (hr : RdL w a ls) (hcap : ls.length ≤ 9223372036854775807) :
  Calls Tryz.prog 21 #[.slice a ls.length cap] w (RetN w (kindL ls)) := by
 obtain ⟨z, hz⟩ : ∃ z, z = kindL ls := ⟨_, rfl⟩
 rw [← hz]
 unfold kindL at hz
 by_cases h3 : ls.length < 3
 ·
  have q1 : decide ((ls.length : Int) < 3) = true := by simp; omega
  rw [decide_eq_true h3] at hz
  simp at hz
  subst hz
  clear h3
  go_enter Tryz.func21, Tryz.ntmps21
  go_wp2_with fail
  go_ret
  exact ⟨rfl, bl_refl _⟩
 have q1 : decide ((ls.length : Int) < 3) = false := by simp; omega
 rw [decide_eq_false h3, Bool.false_or] at hz
 clear h3
 cases hj : joinedL ls with
 | false =>
  rw [hj] at hz
  simp at hz
  subst hz
  have Hj := Lib.hid hj; clear hj
  go_enter Tryz.func21, Tryz.ntmps21
  go_wp2_with fail
  refine (joined_walk a cap ls _ hr hcap).mono ?_
  rw [Hj.out]
  rintro e w1 ⟨rfl, hb1⟩
  go_wp2_with fail
  go_ret
  exact ⟨rfl, hb1⟩
 | true =>
  have hR := joinedR hj
  have hn := hR.1
  rw [hj] at hz
  simp only [Bool.not_true, Bool.false_eq_true, if_false] at hz
  obtain ⟨vs, hvs⟩ : ∃ vs, vs = vertsL ls := ⟨_, rfl⟩
  have hvl : vs.length ≤ 2000 := by rw [hvs]; have := vertsL_length ls; omega
  rw [← hvs] at hz
  obtain ⟨t, ht⟩ : ∃ t, t = allTwoL ls := ⟨_, rfl⟩
  obtain ⟨⟨p, q, pt, er⟩, hf⟩ : ∃ f, f = firstC ls := ⟨_, rfl⟩
  rw [← ht, ← hf] at hz
  simp only at hz
  have Hj := Lib.hid hj; have Hvs := Lib.hid hvs; have HR := Lib.hid hR; have Ht := Lib.hid ht; have Hf := Lib.hid hf; have Hz := Lib.hid hz
  clear hj hvs hR ht hf hz
  go_enter Tryz.func21, Tryz.ntmps21
  go_wp2_with fail
  refine (joined_walk a cap ls _ hr hcap).mono ?_
  rw [Hj.out]
  rintro e w1 ⟨rfl, hb1⟩
  have hr1 := hr.below hb1
  go_wp2_with fail
  refine (verts_walk a cap ls _ hr1 (by omega)).mono ?_
  rw [← Hvs.out]
  rintro e w2 ⟨av, cv, rfl, _, _, _, _, hb2⟩
  have hB2 := bl_trans hb1 hb2
  have hr2 := hr1.below hb2
  clear hb1 hb2 hr1
  by_cases h2 : vs.length = 2
  ·
   have hz := Hz.out; rw [if_pos h2] at hz; have k1 : ((vs.length : Int) == 2) = true := by simp; omega
   clear h2; subst hz; go_wp2_with fail; go_ret; exact ⟨rfl, hB2⟩
  have hz := Hz.out
  rw [if_neg h2] at hz
  have k1 : ((vs.length : Int) == 2) = false := by simp; omega
  have Hz2 := Lib.hid hz
  clear h2 hz
  go_wp2_with fail
  refine (allTwo_walk a cap ls _ hr2 HR.out).mono ?_
  rw [← Ht.out]
  rintro e w3 ⟨rfl, hb3⟩
  have hB3 := bl_trans hB2 hb3
  have hr3 := hr2.below hb3
  clear hB2 hb3 hr2
  cases t with
  | true =>
   have hz := Hz2.out; simp at hz; subst hz; go_wp2_with fail; go_ret; exact ⟨rfl, hB3⟩
  | false =>
   have hz := Hz2.out; simp only [Bool.false_eq_true, if_false] at hz; by_cases h4 : vs.length < 4
   ·
    have k2 : decide ((vs.length : Int) < 4) = true := by simp; omega
    rw [if_pos h4] at hz; subst hz; clear h4; go_wp2_with fail; go_ret; exact ⟨rfl, hB3⟩
   have k2 : decide ((vs.length : Int) < 4) = false := by simp; omega
   rw [if_neg h4] at hz; have Hz3 := Lib.hid hz; clear h4 hz; go_wp2_with fail; refine (first_walk a cap ls _ hr3 hcap).mono ?_; rw [first_c, ← Hf.out]; rintro e w4 ⟨rfl, hb4⟩; simp only; have hB4 := bl_trans hB3 hb4; clear hB3 hb4 hr3; by_cases he : er = 0
   ·
    have k3 : (er != 0) = false := by simpa using he
    have hz := Hz3.out; rw [decide_eq_false (by simpa using he)] at hz; simp only [Bool.false_or] at hz; clear he; cases pt with
    | true =>
     simp at hz; subst hz; go_wp2_with fail; go_ret; exact ⟨rfl, hB4⟩
    | false =>
     simp at hz; subst hz; go_wp2_with fail; go_ret; exact ⟨rfl, hB4⟩
   ·
    have k3 : (er != 0) = true := by simpa using he
    have hz := Hz3.out; rw [decide_eq_true (by simpa using he)] at hz; simp at hz; subst hz; clear he; go_wp2_with fail; go_ret; exact ⟨rfl, hB4⟩
end Go.Proofs.YtagcbnpahgfgmaaGreat
namespace Go.Proofs.YtagcbnpahgfgmaaGreat
open Go Go.RowKit
set_option maxHeartbeats 1000000 in
theorem cmp1_walk (x y : Lk) (w : World) :
  Calls Tryz.prog 78 #[.agg #[.int .i64 x.1, .int .i64 x.2.1, .int .i64 x.2.2], .agg #[.int .i64 y.1, .int .i64 y.2.1, .int .i64 y.2.2]] w (RetN w (cmpL x y)) := by
 have hpe := fun w => lk_eq x y w
 unfold lkV at hpe
 obtain ⟨x1, x2, x3⟩ := x
 obtain ⟨y1, y2, y3⟩ := y
 simp only at hpe ⊢
 have hgt : Tryz.prog.eqGuardType Tryz.prog.depth 38 = false := by kernel_rfl
 have hB := bl_trans (bl_alloc w (.cells #[.int .i64 x1, .int .i64 x2, .int .i64 x3] 38)) (bl_alloc _ (.cells #[.int .i64 y1, .int .i64 y2, .int .i64 y3] 38))
 obtain ⟨z, hz⟩ : ∃ z, z = cmpL (x1, x2, x3) (y1, y2, y3) := ⟨_, rfl⟩
 rw [← hz]
 by_cases he : ((x1, x2, x3) : Lk) = (y1, y2, y3)
 ·
  rw [decide_eq_true he] at hpe
  have h0 := cmpL_zero.2 he
  rw [← hz] at h0
  clear he hz
  subst h0
  go_enter Tryz.func78, Tryz.ntmps78
  go_wp2_with fail
  go_ret
  exact ⟨rfl, hB⟩
 ·
  rw [decide_eq_false he] at hpe
  unfold cmpL orI at hz
  simp only at hz
  by_cases h1 : x1 = y1
  ·
   have k1 : (x1 != y1) = false := by simpa using h1
   by_cases h2 : x2 = y2
   ·
    have k2 : (x2 != y2) = false := by simpa using h2
    have hc : z = cmpI x3 y3 := by
     rw [hz, if_pos (by unfold cmpI; rw [h1]; simp), if_pos (by unfold cmpI; rw [h2]; simp)]
    clear hz he; have Hc := Lib.hid hc; have H1 := Lib.hid h1; have H2 := Lib.hid h2; clear hc h1 h2; go_enter Tryz.func78, Tryz.ntmps78; go_wp2_with (go_at_call 79; refine (compare_any _ _ _).mono ?_; rintro e w' ⟨rfl, rfl⟩); go_ret; exact ⟨by rw [Hc.out] <;> rfl, hB⟩
   ·
    have k2 : (x2 != y2) = true := by simpa using h2
    have hc : z = cmpI x2 y2 := by
     rw [hz, if_pos (by unfold cmpI; rw [h1]; simp), if_neg (by unfold cmpI; split <;> (try split) <;> omega)]
    clear hz he; have Hc := Lib.hid hc; have H1 := Lib.hid h1; clear hc h1 h2; go_enter Tryz.func78, Tryz.ntmps78; go_wp2_with (go_at_call 79; refine (compare_any _ _ _).mono ?_; rintro e w' ⟨rfl, rfl⟩); go_ret; exact ⟨by rw [Hc.out] <;> rfl, hB⟩
  ·
   have k1 : (x1 != y1) = true := by simpa using h1
   have hc : z = cmpI x1 y1 := by
    rw [hz, if_neg (by unfold cmpI; split <;> (try split) <;> omega)]
   clear hz he; have Hc := Lib.hid hc; clear hc h1; go_enter Tryz.func78, Tryz.ntmps78; go_wp2_with (go_at_call 79; refine (compare_any _ _ _).mono ?_; rintro e w' ⟨rfl, rfl⟩); go_ret; exact ⟨by rw [Hc.out] <;> rfl, hB⟩
theorem cmpLs_at {x y : List Lk} {i : Nat} (hx : i < x.length) (hy : i < y.length) : cmpLs (x.drop i) (y.drop i) = if cmpL x[i] y[i] = 0 then cmpLs (x.drop (i + 1)) (y.drop (i + 1)) else cmpL x[i] y[i] := by
 rw [List.drop_eq_getElem_cons hx, List.drop_eq_getElem_cons hy]
 rfl
set_option maxRecDepth 100000 in
set_option maxHeartbeats 4000000 in
theorem compareF_walk (a b : Option Addr) (ca cb : Nat) (x y : List Lk) (w : World) (hx : RdL w a x) (hy : RdL w b y) (hxl : x.length ≤ 9223372036854775807) (hyl : y.length ≤ 9223372036854775807) :
  Calls Tryz.prog 77 #[.slice a x.length ca, .slice b y.length cb, .func (.func 78) #[] #[]] w (RetN w (cmpLs x y)) := by
 obtain ⟨z, hz⟩ : ∃ z, z = cmpLs x y := ⟨_, rfl⟩
 rw [← hz]
 have Hz := Lib.hid hz; clear hz
 go_enter Tryz.func77, Tryz.ntmps77
 go_wp2_with fail
 go_loopg [13] x.length (fun r iv wj => ∃ i : Nat, i + r = x.length ∧ i ≤ y.length ∧ iv = .int .i64 i ∧ cmpLs (x.drop i) (y.drop i) = cmpLs x y ∧ Below w.heap.size w wj)
 case atStart => exact ⟨0, by omega, by omega, rfl, rfl, bl_refl _⟩
 case round =>
  obtain ⟨i, hi, hiy, rfl, hst, hb⟩ := hrel
  have Hi := Lib.hid hi
  by_cases hil : i < x.length
  ·
   clear hi; have hst' := hst; obtain ⟨b1, o1, rfl, p0, p1, p2⟩ := (hx.below hb).at i hil; by_cases hly : i < y.length
   ·
    obtain ⟨b2, o2, rfl, q0, q1, q2⟩ := (hy.below hb).at i hly; rw [cmpLs_at hil hly] at hst; obtain ⟨⟨x1, x2, x3⟩, hxe⟩ : ∃ u : Lk, x[i] = u := ⟨_, rfl⟩
    obtain ⟨⟨y1, y2, y3⟩, hye⟩ : ∃ u : Lk, y[i] = u := ⟨_, rfl⟩
    rw [hxe] at p0 p1 p2 hst; rw [hye] at q0 q1 q2 hst; simp only at p0 p1 p2 q0 q1 q2; have g0 : decide ((y.length : Int) ≤ (i : Int)) = false := by simp; omega
    have g0' : decide (y.length ≤ i) = false := by simp; omega
    have hba := bl_alloc wr (.cells #[.int .i64 x1, .int .i64 x2, .int .i64 x3] 38); have q0' := keep_cell hba q0; have q1' := keep_cell hba q1; have q2' := keep_cell hba q2; have i2 : (i : Int) < (y.length : Int) := by omega
    have Hst := Lib.hid hst; obtain ⟨c, hc⟩ : ∃ c, c = cmpL (x1, x2, x3) (y1, y2, y3) := ⟨_, rfl⟩
    have Hc := Lib.hid hc; clear hxe hye hst hst' hba q0 q1 q2 hc; go_wp2_with fail; refine (cmp1_walk (x1, x2, x3) (y1, y2, y3) _).mono ?_; rw [← Hc.out]; rintro e w2 ⟨rfl, hb2⟩; have hB := bl_trans hb (bl_trans (bl_trans (bl_alloc _ _) (bl_alloc _ _)) hb2); by_cases h0 : c = 0
    ·
     have k0 : (c != 0) = false := by simpa using h0
     have hnx : cmpLs (x.drop (i + 1)) (y.drop (i + 1)) = cmpLs x y := by rw [← Hst.out, if_pos (by rw [← Hc.out]; exact h0)]
     have Hnx := Lib.hid hnx; clear h0 hnx; go_wp2_with fail; go_roundg (gk - 1)
     case measure => have := Hi.out; omega
     case rel => exact ⟨i + 1, by have := Hi.out; omega, by omega, by go_num, Hnx.out, hB⟩
    ·
     have k0 : (c != 0) = true := by simpa using h0
     have hfin : z = c := by rw [Hz.out, ← Hst.out, if_neg (by rw [← Hc.out]; exact h0), ← Hc.out]
     have Hfin := Lib.hid hfin; clear h0 hfin; go_wp2_with fail; go_ret; exact ⟨by rw [Hfin.out] <;> rfl, hB⟩
   ·
    have hiy2 : i = y.length := by omega
    subst hiy2; have hfin : z = 1 := by
     rw [Hz.out, ← hst', List.drop_eq_getElem_cons hil, List.drop_eq_nil_of_le (Nat.le_refl _)]; rfl
    subst hfin; obtain ⟨⟨x1, x2, x3⟩, hxe⟩ : ∃ u : Lk, x[y.length] = u := ⟨_, rfl⟩
    rw [hxe] at p0 p1 p2; simp only at p0 p1 p2; clear hst hst' hxe hly; go_wp2_with fail; go_ret; exact ⟨rfl, bl_trans hb (bl_alloc _ _)⟩
  ·
   have hin : i = x.length := by omega
   subst hin; clear hi; rw [List.drop_eq_nil_of_le (Nat.le_refl x.length)] at hst; by_cases hly : x.length < y.length
   ·
    have hfin : z = -1 := by
     rw [Hz.out, ← hst, List.drop_eq_getElem_cons hly]; rfl
    have k1 : decide ((x.length : Int) < (y.length : Int)) = true := by simp; omega
    have k2 : decide (x.length < y.length) = true := by simp; omega
    subst hfin; clear hst hly; go_wp2_with fail; go_ret; exact ⟨rfl, hb⟩
   ·
    have hfin : z = 0 := by
     rw [Hz.out, ← hst, List.drop_eq_nil_of_le (by omega)]; rfl
    have k1 : decide ((x.length : Int) < (y.length : Int)) = false := by simp; omega
    have k2 : decide (x.length < y.length) = false := by simp; omega
    subst hfin; clear hst hly; go_wp2_with fail; go_ret; exact ⟨rfl, hb⟩
theorem compareP_walk (a b : Option Addr) (ca cb : Nat) (x y : List Lk) (w : World) (hx : RdL w a x) (hy : RdL w b y) (hxl : x.length ≤ 9223372036854775807) (hyl : y.length ≤ 9223372036854775807) :
  Calls Tryz.prog 39 #[.slice a x.length ca, .slice b y.length cb] w (RetN w (cmpLs x y)) := by
 go_enter Tryz.func39, Tryz.ntmps39
 go_wp2_with fail
 refine (compareF_walk a b ca cb x y _ hx hy hxl hyl).mono ?_
 rintro e w1 ⟨rfl, hb1⟩
 go_wp2_with fail
 go_ret
 exact ⟨rfl, hb1⟩
end Go.Proofs.YtagcbnpahgfgmaaGreat
namespace Go.Proofs.YtagcbnpahgfgmaaGreat
open Go Go.RowKit
set_option maxRecDepth 100000 in
set_option maxHeartbeats 4000000 in
theorem before15_walk (a b : Option Addr) (ca cb : Nat) (x y : List Lk) (w : World) (hx : RdL w a x) (hy : RdL w b y) (hxl : x.length ≤ 9223372036854775807) (hyl : y.length ≤ 9223372036854775807) :
  Calls Tryz.prog 56 #[.slice a x.length ca, .slice b y.length cb] w fun e w' => e = .returned (.bool (decide (cmpLs x y < 0))) ∧ Below w.heap.size w w' := by
 obtain ⟨z, hz⟩ : ∃ z, z = decide (cmpLs x y < 0) := ⟨_, rfl⟩
 rw [← hz]
 have Hz := Lib.hid hz; clear hz
 go_enter Tryz.func56, Tryz.ntmps56
 go_wp2_with fail
 go_loopg [5] x.length (fun r iv wj => ∃ i : Nat, i + r = x.length ∧ i ≤ y.length ∧ iv = .int .i64 i ∧ cmpLs (x.drop i) (y.drop i) = cmpLs x y ∧ ∃ d, wj = w.drewN d)
 case atStart => exact ⟨0, by omega, by omega, rfl, rfl, 0, rfl⟩
 case round =>
  obtain ⟨i, hi, hiy, rfl, hst, d, rfl⟩ := hrel
  have Hi := Lib.hid hi
  by_cases hil : i < x.length
  ·
   clear hi; have i1 : (i : Int) < (x.length : Int) := by omega
   by_cases hly : i < y.length
   ·
    obtain ⟨b1, o1, rfl, p0, p1, p2⟩ := hx.at i hil; obtain ⟨b2, o2, rfl, q0, q1, q2⟩ := hy.at i hly; have hst' := hst; rw [cmpLs_at hil hly] at hst; have hnx := cmpLs_neg_at hil hly; obtain ⟨⟨x1, x2, x3⟩, hxe⟩ : ∃ u : Lk, x[i] = u := ⟨_, rfl⟩
    obtain ⟨⟨y1, y2, y3⟩, hye⟩ : ∃ u : Lk, y[i] = u := ⟨_, rfl⟩
    rw [hxe] at p0 p1 p2 hst hnx; rw [hye] at q0 q1 q2 hst hnx; simp only at p0 p1 p2 q0 q1 q2; have i2 : (i : Int) < (y.length : Int) := by omega
    have hpe := fun w => lk_eq (x1, x2, x3) (y1, y2, y3) w; unfold lkV at hpe; simp only at hpe; have hgt : Tryz.prog.eqGuardType Tryz.prog.depth 38 = false := by kernel_rfl
    by_cases he : ((x1, x2, x3) : Lk) = (y1, y2, y3)
    ·
     rw [decide_eq_true he] at hpe; have hn := hnx he; rw [hst'] at hn; have Hn := Lib.hid hn; clear he hn hnx hst hst' hxe hye; go_wp2_with fail; go_quiet (fail)
     go_wp2_with fail; go_roundg (gk - 1)
     case measure => have := Hi.out; omega
     case rel => exact ⟨i + 1, by have := Hi.out; omega, by omega, by go_num, Hn.out.symm, _, rfl⟩
    ·
     rw [decide_eq_false he] at hpe; have hc0 : cmpL (x1, x2, x3) (y1, y2, y3) ≠ 0 := fun h => he (cmpL_zero.1 h); rw [if_neg hc0] at hst; have hfin : decide (LtL (x1, x2, x3) (y1, y2, y3)) = z := by rw [Hz.out, ← hst]; simp [cmpL_neg]
     have Hfin := Lib.hid hfin; clear he hc0 hnx hst hst' hxe hye hfin; go_wp2_with fail; go_quiet (fail)
     go_wp2_with fail; clear hpe hgt; have hB1 : Below w.heap.size w ((w.drewN d).drewN nq) := below_drewN (below_drewN (bl_refl w) d) nq; have p0 : ((w.drewN d).drewN nq).cell? ⟨b1, o1 + i * 3, none⟩ = some (.int .i64 x1) := p0; have p1 : ((w.drewN d).drewN nq).cell? ⟨b1, o1 + i * 3 + 1, none⟩ = some (.int .i64 x2) := p1; have p2 : ((w.drewN d).drewN nq).cell? ⟨b1, o1 + i * 3 + 2, none⟩ = some (.int .i64 x3) := p2; have q0 : ((w.drewN d).drewN nq).cell? ⟨b2, o2 + i * 3, none⟩ = some (.int .i64 y1) := q0; have q1 : ((w.drewN d).drewN nq).cell? ⟨b2, o2 + i * 3 + 1, none⟩ = some (.int .i64 y2) := q1; have q2 : ((w.drewN d).drewN nq).cell? ⟨b2, o2 + i * 3 + 2, none⟩ = some (.int .i64 y3) := q2; generalize (w.drewN d).drewN nq = wd at hB1 p0 p1 p2 q0 q1 q2 ⊢; have hah := ahead15_walk x1 x2 x3 y1 y2 y3 (wd.drew); rw [Hfin.out] at hah; refine regionT (fun w' => (w'.cell? ⟨b1, o1 + i * 3, none⟩ = some (.int .i64 x1) ∧ w'.cell? ⟨b1, o1 + i * 3 + 1, none⟩ = some (.int .i64 x2) ∧ w'.cell? ⟨b1, o1 + i * 3 + 2, none⟩ = some (.int .i64 x3)) ∧ (w'.cell? ⟨b2, o2 + i * 3, none⟩ = some (.int .i64 y1) ∧ w'.cell? ⟨b2, o2 + i * 3 + 1, none⟩ = some (.int .i64 y2) ∧ w'.cell? ⟨b2, o2 + i * 3 + 2, none⟩ = some (.int .i64 y3))) 8 (by kernel_rfl) ?_; have hS : (wd.drew.cell? ⟨b1, o1 + i * 3, none⟩ = some (.int .i64 x1) ∧ wd.drew.cell? ⟨b1, o1 + i * 3 + 1, none⟩ = some (.int .i64 x2) ∧ wd.drew.cell? ⟨b1, o1 + i * 3 + 2, none⟩ = some (.int .i64 x3)) ∧ (wd.drew.cell? ⟨b2, o2 + i * 3, none⟩ = some (.int .i64 y1) ∧ wd.drew.cell? ⟨b2, o2 + i * 3 + 1, none⟩ = some (.int .i64 y2) ∧ wd.drew.cell? ⟨b2, o2 + i * 3 + 2, none⟩ = some (.int .i64 y3)) := ⟨⟨p0, p1, p2⟩, q0, q1, q2⟩
     refine tkT 0 ?_ rfl hS ?_ ?_ (by kernel_rfl) (fun _ _ _ h => h) (by rfl); rotate_left; (· intro wS hSw; (try dsimp only at hSw); go_simp; try with_reducible rfl); simp only [Act.put, zA, z0, z1]; refine tkT 1 ?_ rfl hS ?_ ?_ (by kernel_rfl) (fun _ _ _ h => h) (by rfl); rotate_left; (· intro wS hSw; (try dsimp only at hSw); go_simp; try with_reducible rfl); simp only [Act.put, zA, z0, z1]; refine tkT 2 ?_ rfl hS ?_ ?_ (by kernel_rfl) (fun _ _ _ h => h) (by rfl); rotate_left; (· intro wS hSw; (try dsimp only at hSw); go_simp; try with_reducible rfl); simp only [Act.put, zA, z0, z1]; refine tkT 3 ?_ rfl hS ?_ ?_ (by kernel_rfl) (fun _ _ _ h => h) (by rfl); rotate_left; (· intro wS hSw; (try dsimp only at hSw); go_simp; try with_reducible rfl); simp only [Act.put, zA, z0, z1]; refine tkT 4 ?_ rfl hS ?_ ?_ (by kernel_rfl) (fun _ _ _ h => h) (by rfl); rotate_left; (· intro wS hSw; (try dsimp only at hSw); go_simp; try with_reducible rfl); simp only [Act.put, zA, z0, z1]; refine tkT 5 ?_ rfl hS ?_ ?_ (by kernel_rfl) (fun _ _ _ h => h) (by rfl); rotate_left; (· intro wS hSw; (try dsimp only at hSw); go_simp; try with_reducible rfl); simp only [Act.put, zA, z0, z1]; refine tkT 6 ?_ rfl hS ?_ ?_ (by kernel_rfl) (fun _ _ _ h => h) (by rfl); rotate_left; (· intro wS hSw; (try dsimp only at hSw); go_simp; try with_reducible rfl); simp only [Act.put, zA, z0, z1]; refine tkT 7 ?_ rfl hS ?_ ?_ (by kernel_rfl) (fun _ _ _ h => h) (by rfl); rotate_left; (· intro wS hSw; (try dsimp only at hSw); go_simp; try with_reducible rfl); simp only [Act.put, zA, z0, z1]
     refine oneT (i := 8) rfl (by kernel_rfl) (fun K hK => ?_); go_simp; refine hah.mono ?_; rintro e w2 ⟨rfl, hb2⟩; simp only; refine hK _ _ (fun h => absurd h (by omega)) ?_; clear hK K hS; have hB2 : Below w.heap.size w w2 := bl_trans hB1 (bl_trans (Below.refl wd.heap.size wd).drew hb2); refine restartT (fun _ => True) 10 (by kernel_rfl) ?_; have hS : True := trivial; refine tkT 9 ?_ rfl hS ?_ ?_ (by kernel_rfl) (fun _ _ _ h => h) (by rfl); rotate_left; (· intro wS hSw; (try dsimp only at hSw); go_simp; try with_reducible rfl); simp only [Act.put, zA, z0, z1]; refine doneT (by kernel_rfl) ?_ _; go_wp2_with fail; go_ret; exact ⟨rfl, hB2⟩
   ·
    have hiy2 : i = y.length := by omega
    have i2 : ¬ ((i : Int) < (y.length : Int)) := by omega
    have i3 : decide ((x.length : Int) < (y.length : Int)) = false := by simp; omega
    have i3' : decide (x.length < y.length) = false := by simp; omega
    have hfin : z = false := by
     rw [Hz.out, ← hst, hiy2, List.drop_eq_getElem_cons (by omega : y.length < x.length), List.drop_eq_nil_of_le (Nat.le_refl _)]; rfl
    subst hfin; clear hst; go_wp2_with fail; go_ret; exact ⟨rfl, below_drewN (bl_refl w) _⟩
  ·
   have hin : i = x.length := by omega
   subst hin; clear hi; have i1 : ¬ ((x.length : Int) < (x.length : Int)) := by omega
   rw [List.drop_eq_nil_of_le (Nat.le_refl x.length)] at hst; by_cases hly : x.length < y.length
   ·
    have hfin : z = true := by
     rw [Hz.out, ← hst, List.drop_eq_getElem_cons hly]; rfl
    have k1 : decide ((x.length : Int) < (y.length : Int)) = true := by simp; omega
    have k2 : decide (x.length < y.length) = true := by simp; omega
    subst hfin; clear hst hly; go_wp2_with fail; go_ret; exact ⟨rfl, below_drewN (bl_refl w) _⟩
   ·
    have hfin : z = false := by
     rw [Hz.out, ← hst, List.drop_eq_nil_of_le (by omega)]; rfl
    have k1 : decide ((x.length : Int) < (y.length : Int)) = false := by simp; omega
    have k2 : decide (x.length < y.length) = false := by simp; omega
    subst hfin; clear hst hly; go_wp2_with fail; go_ret; exact ⟨rfl, below_drewN (bl_refl w) _⟩
end Go.Proofs.YtagcbnpahgfgmaaGreat
namespace Go.Proofs.YtagcbnpahgfgmaaGreat
section
variable {α : Type}
def shiftS (out : List α) (x : α) (k : Nat) : List α := (out ++ [x]).take (k + 1) ++ out.drop k
theorem shiftS_length (out : List α) (x : α) (k : Nat) (h : k ≤ out.length) : (shiftS out x k).length = out.length + 1 := by
 unfold shiftS; rw [List.length_append, List.length_take, List.length_append, List.length_drop]; simp; omega
theorem shiftS_full (out : List α) (x : α) : shiftS out x out.length = out ++ [x] := by
 unfold shiftS
 rw [List.drop_length, List.append_nil, List.take_of_length_le (by simp)]
theorem shiftS_prev (out : List α) (x : α) (k : Nat) (h : k < out.length) : (shiftS out x (k + 1))[k]? = some out[k] := by
 unfold shiftS
 rw [List.getElem?_append_left (by simp; omega), List.getElem?_take_of_lt (by omega), List.getElem?_append_left h, List.getElem?_eq_getElem h]
theorem shiftS_step (out : List α) (x : α) (k : Nat) (h : k < out.length) : (shiftS out x (k + 1)).set (k + 1) out[k] = shiftS out x k := by
 unfold shiftS
 have h1 : (out ++ [x]).take (k + 1 + 1) = (out ++ [x]).take (k + 1) ++ [(out ++ [x])[k + 1]'(by simp; omega)] := List.take_succ_eq_append_getElem (by simp; omega)
 have hl : ((out ++ [x]).take (k + 1)).length = k + 1 := by simp; omega
 rw [h1, List.append_assoc, List.set_append_right _ _ (by omega), hl, Nat.sub_self]
 congr 1
 rw [List.drop_eq_getElem_cons h]
 rfl
theorem shiftS_end (out : List α) (x : α) (k : Nat) (h : k ≤ out.length) : (shiftS out x k).set k x = out.take k ++ x :: out.drop k := by
 unfold shiftS
 have h1 : (out ++ [x]).take (k + 1) = (out ++ [x]).take k ++ [(out ++ [x])[k]'(by simp; omega)] := List.take_succ_eq_append_getElem (by simp; omega)
 have hl : ((out ++ [x]).take k).length = k := by simp; omega
 have h2 : (out ++ [x]).take k = out.take k := by rw [List.take_append_of_le_length h]
 rw [h1, List.append_assoc, List.set_append_right _ _ (by omega), hl, Nat.sub_self, h2]
 rfl
end
theorem putL_sorted {out : List Lk} (hs : out.Pairwise LeL) {x : Lk} {k : Nat} (hk : k ≤ out.length) (h1 : ∀ j (h : j < out.length), k ≤ j → LtL x out[j]) (h2 : k = 0 ∨ ∀ h : k - 1 < out.length, ¬ LtL x out[k-1]) : (out.take k ++ x :: out.drop k).Pairwise LeL := by
 have hp := List.pairwise_iff_getElem.1 hs
 have hlow : ∀ a ∈ out.take k, LeL a x := fun a ha => by
  obtain ⟨i, hi, rfl⟩ := List.getElem_of_mem ha
  rw [List.length_take] at hi
  rw [List.getElem_take]
  rcases h2 with e | h2
  · omega
  ·
   have h3 : LeL out[k-1] x := h2 (by omega); by_cases e : i = k - 1
   · subst e; exact h3
   · exact (hp i (k - 1) (by omega) (by omega) (by omega)).trans h3
 have hhigh : ∀ b ∈ out.drop k, LeL x b := fun b hb => by
  obtain ⟨i, hi, rfl⟩ := List.getElem_of_mem hb
  rw [List.length_drop] at hi
  rw [List.getElem_drop]
  exact (h1 (k + i) (by omega) (by omega)).asymm
 have hall : (out.take k ++ out.drop k).Pairwise LeL := by rw [List.take_append_drop]; exact hs
 obtain ⟨p1, p2, p3⟩ := List.pairwise_append.1 hall
 rw [List.pairwise_append, List.pairwise_cons]
 refine ⟨p1, ⟨hhigh, p2⟩, fun a ha b hb => ?_⟩
 rcases List.mem_cons.1 hb with rfl | hb
 · exact hlow a ha
 · exact p3 a ha b hb
theorem putL_perm (out : List Lk) (x : Lk) (k : Nat) : (out.take k ++ x :: out.drop k).Perm (out ++ [x]) := by
 refine List.perm_middle.trans ?_
 rw [List.take_append_drop]
 exact (List.perm_append_singleton x out).symm
theorem putV_sorted {out : List Int} (hs : out.Pairwise (· < ·)) {x : Int} {k : Nat} (hk : k ≤ out.length) (h1 : ∀ j (h : j < out.length), k ≤ j → x < out[j]) (h2 : k = 0 ∨ ∀ h : k - 1 < out.length, ¬ x < out[k-1]) (hx : x ∉ out) : (out.take k ++ x :: out.drop k).Pairwise (· < ·) := by
 have hp := List.pairwise_iff_getElem.1 hs
 have hlow : ∀ a ∈ out.take k, a < x := fun a ha => by
  obtain ⟨i, hi, rfl⟩ := List.getElem_of_mem ha
  rw [List.length_take] at hi
  rw [List.getElem_take]
  rcases h2 with e | h2
  · omega
  ·
   have h3 := h2 (by omega); have h4 : out[k-1] ≠ x := fun e => hx (by rw [← e]; exact List.getElem_mem _); by_cases e : i = k - 1
   · subst e; omega
   · have := hp i (k - 1) (by omega) (by omega) (by omega); omega
 have hhigh : ∀ b ∈ out.drop k, x < b := fun b hb => by
  obtain ⟨i, hi, rfl⟩ := List.getElem_of_mem hb
  rw [List.length_drop] at hi
  rw [List.getElem_drop]
  exact h1 (k + i) (by omega) (by omega)
 have hall : (out.take k ++ out.drop k).Pairwise (· < ·) := by rw [List.take_append_drop]; exact hs
 obtain ⟨p1, p2, p3⟩ := List.pairwise_append.1 hall
 rw [List.pairwise_append, List.pairwise_cons]
 refine ⟨p1, ⟨hhigh, p2⟩, fun a ha b hb => ?_⟩
 rcases List.mem_cons.1 hb with rfl | hb
 · exact hlow a ha
 · exact p3 a ha b hb
theorem putV_mem (out : List Int) (x z : Int) (k : Nat) : z ∈ out.take k ++ x :: out.drop k ↔ z ∈ out ∨ z = x := by
 have : z ∈ out ↔ z ∈ out.take k ++ out.drop k := by rw [List.take_append_drop]
 rw [this]
 simp only [List.mem_append, List.mem_cons]
 constructor
 ·
  rintro (h | h | h)
  · exact .inl (.inl h)
  · exact .inr h
  · exact .inl (.inr h)
 ·
  rintro ((h | h) | h)
  · exact .inl h
  · exact .inr (.inr h)
  · exact .inr (.inl h)
end Go.Proofs.YtagcbnpahgfgmaaGreat
namespace Go.Proofs.YtagcbnpahgfgmaaGreat
open Go Go.RowKit
theorem lkCells_set3 (ls : List Lk) (i : Nat) (h : i < ls.length) (a b c : Int) : (((lkCells ls).set (i * 3) (.int .i64 a)).set (i * 3 + 1) (.int .i64 b)).set (i * 3 + 2) (.int .i64 c) = lkCells (ls.set i (a, b, c)) := by
 induction ls generalizing i with
 | nil => simp at h
 | cons e ls ih =>
  cases i with
  | zero => simp [lkCells]
  | succ i =>
   have := ih i (by simpa using h); have e1 : (i + 1) * 3 = i * 3 + 1 + 1 + 1 := by omega
   simp only [lkCells, List.flatMap_cons, List.cons_append, List.nil_append, List.set_cons_succ] at this ⊢; rw [e1]; simp only [List.set_cons_succ]; rw [this]
theorem Row.lkAt {w : World} {g cap : Nat} {e : TypeId} {ls : List Lk} (h : Row w g e 3 cap (lkCells ls)) (i : Nat) (hi : i < ls.length) :
  w.cell? ⟨g, i * 3, none⟩ = some (.int .i64 ls[i].1) ∧ w.cell? ⟨g, i * 3 + 1, none⟩ = some (.int .i64 ls[i].2.1) ∧ w.cell? ⟨g, i * 3 + 2, none⟩ = some (.int .i64 ls[i].2.2) := by
 obtain ⟨b1, b2, b3⟩ := lkCells_get ls i hi
 have hcl : i * 3 + 2 < (lkCells ls).length := by rw [lkCells_length]; omega
 exact ⟨by rw [h.cell? _ (by omega), b1], by rw [h.cell? _ (by omega), b2], by rw [h.cell? _ (by omega), b3]⟩
set_option maxHeartbeats 4000000 in
theorem refSorted12_walk (a : Option Addr) (cap : Nat) (ls : List Lk) (w : World) (hr : RdL w a ls) (hle : ls.length ≤ 100000) :
  Calls Tryz.prog 64 #[.slice a ls.length cap] w (RetLk w (sortL ls)) := by
 go_enter Tryz.func64, Tryz.ntmps64
 go_wp2_with fail
 go_loopg [3, 4] ls.length (fun r so i wr => ∃ (k : Nat) (vo : Value) (o : List Lk), vo = so ∧ k + r = ls.length ∧ i = .int .i64 k ∧ OwnL wr vo o ∧ o.Pairwise LeL ∧ o.Perm ((ls.take k).map swapL) ∧ (∀ g, vo.ownBlock = some g → w.heap.size ≤ g) ∧ Below w.heap.size w wr)
 case atStart => exact ⟨0, _, [], rfl, by omega, rfl, own_nil _ _ _, .nil, by simp, fun g hg => by simp [Value.ownBlock] at hg, bl_refl _⟩
 case round =>
  obtain ⟨k, vo, o, rfl, hk, rfl, hown, hos, hperm, hnew, hB⟩ := hrel
  by_cases hlt : k < ls.length
  ·
   obtain ⟨b, off, rfl, c0, c1, c2⟩ := (hr.below hB).at k hlt; have hst : (ls.take (k + 1)).map swapL = (ls.take k).map swapL ++ [swapL ls[k]] := by rw [List.take_succ_eq_append_getElem hlt, List.map_append]; rfl
   have hol : o.length = k := by rw [hperm.length_eq]; simp; omega
   have hok : o.length ≤ 100000 := by omega
   have hltn : ∀ g, vo.ownBlock = some g → g < wr.heap.size := fun g hg => hown.lt hg; obtain ⟨⟨xx, yy, zz⟩, hx⟩ : ∃ x : Lk, ls[k] = x := ⟨_, rfl⟩
   rw [hx] at c0 c1 c2 hst; simp only at c0 c1 c2; have hszB := hB.size; have Hk := Lib.hid hk; have Hos := Lib.hid hos; have Hperm := Lib.hid hperm; have Hnew := Lib.hid hnew; have Hol := Lib.hid hol; have Hlt := Lib.hid hltn; have Hown := Lib.hid hown; have HB0 := Lib.hid hB; clear hk hos hperm hnew hx hol hltn hown hB; obtain ⟨wA, rfl⟩ : ∃ wA : World, wA = wr := ⟨_, rfl⟩
   obtain ⟨gA, rfl⟩ : ∃ n : Nat, n = gk := ⟨_, rfl⟩
   obtain ⟨P, hP⟩ : ∃ P, P = wA.heap.size := ⟨_, rfl⟩
   have hTx : ∃ x y z : Int, swapL (xx, yy, zz) = (x, y, z) := ⟨_, _, _, rfl⟩
   obtain ⟨x, y, z, hsw⟩ := hTx; rw [hsw] at hst; have Hst := Lib.hid hst; clear hst; go_upto_if 22 with (fail)
   go_cut [] (fun wx => wx.cell? ⟨wA.heap.size, 0, none⟩ = some (.int .i64 x) ∧ wx.cell? ⟨wA.heap.size, 1, none⟩ = some (.int .i64 y) ∧ wx.cell? ⟨wA.heap.size, 2, none⟩ = some (.int .i64 z) ∧ Below wA.heap.size wA wx ∧ wA.heap.size < wx.heap.size)
   case first =>
    by_cases hyx : yy < xx
    ·
     have e1 : (yy, xx, zz) = (x, y, z) := by rw [← hsw]; simp [swapL, hyx]
     simp only [Prod.mk.injEq] at e1; obtain ⟨rfl, rfl, rfl⟩ := e1; clear hsw; go_wp2_with fail; go_meet
     refine ⟨by simp, by simp, by simp, ?_, by simp⟩; exact bl_alloc _ _
    ·
     have e1 : (xx, yy, zz) = (x, y, z) := by rw [← hsw]; simp [swapL, hyx]
     simp only [Prod.mk.injEq] at e1; obtain ⟨rfl, rfl, rfl⟩ := e1; clear hsw; go_wp2_with fail; go_meet
     exact ⟨by simp, by simp, by simp, bl_alloc _ _, by simp⟩
   case rest =>
   clear c0 c1 c2; obtain ⟨k0, k1, k2, hbA, hszA⟩ := hcut; rw [← hP] at k0 k1 k2 hszA ⊢; have hownC : OwnL wc vo o := Hown.out.ext hbA; obtain ⟨ao, co, rfl, hro, hrob, hco, hlco⟩ := hownC.read; have hcol : o.length ≤ 9223372036854775807 := by omega
   have HB := Lib.hid (bl_trans HB0.out hbA); replace Hown := Lib.hid hownC; have hPA : P = wA.heap.size := hP; have hlt2 : ∀ g, (Value.slice ao o.length co).ownBlock = some g → g < P := by rw [hP]; exact Hlt.out
   replace Hlt := Lib.hid hlt2; clear hlt2 hP hbA hownC hrob hPA HB0 hszB hsw; go_wp2_with fail; go_loopg [6] o.length (fun r t wi => ∃ q : Nat, q = r ∧ t = .int .i64 q ∧ q ≤ o.length ∧ (∀ j (h : j < o.length), q ≤ j → LtL (x, y, z) o[j]) ∧ Below wc.heap.size wc wi)
   case atStart => exact ⟨o.length, rfl, by go_num, by omega, fun j h hj => absurd h (by omega), bl_refl _⟩
   case round =>
    obtain ⟨q, hqr, rfl, hq, hbeh, hbi⟩ := hrel; have d0 := keep_cell hbi k0; have d1 := keep_cell hbi k1; have d2 := keep_cell hbi k2; have hos := Hos.out; have Hqr := Lib.hid hqr; clear hqr; by_cases hq0 : q = 0
    ·
     have hfirst : q = 0 ∨ ∀ h : q - 1 < o.length, ¬ LtL (x, y, z) o[q-1] := .inl hq0; have q6 : decide ((0 : Int) < (q : Int)) = false := by rw [hq0]; simp
     have q7 : decide (0 < q) = false := by rw [hq0]; simp
     clear hq0; have Hbeh := Lib.hid hbeh; have Hfirst := Lib.hid hfirst; have Hos2 := Lib.hid hos; clear hbeh hfirst hos; go_wp2_with fail; go_quiet (fail)
     go_upto_region 11 with (fail)
     have hbeh := Hbeh.out; have hfirst := Hfirst.out; have hos := Hos2.out; have hbj : Below wc.heap.size wc (wr.drewN nq) := below_drewN hbi _; have d0' : (wr.drewN nq).cell? ⟨P, 0, none⟩ = some (.int .i64 x) := d0; have d1' : (wr.drewN nq).cell? ⟨P, 1, none⟩ = some (.int .i64 y) := d1; have d2' : (wr.drewN nq).cell? ⟨P, 2, none⟩ = some (.int .i64 z) := d2; clear hbi d0 d1 d2 q6 q7; generalize wr.drewN nq = wi at hbj d0' d1' d2' ⊢; have hXl : (shiftS o (x, y, z) q).length = o.length + 1 := shiftS_length _ _ _ hq; have hput := putL_sorted hos hq hbeh hfirst; have hprm := putL_perm o (x, y, z) q; have Hput := Lib.hid hput; have Hprm := Lib.hid hprm; have HXl := Lib.hid hXl; have hbW : Below w.heap.size w (wi.alloc (.cells #[.int .i64 x, .int .i64 y, .int .i64 z] 38)) := bl_trans (bl_trans HB.out hbj) (bl_alloc _ _); have hownZ : Own (wi.alloc (.cells #[.int .i64 x, .int .i64 y, .int .i64 z] 38)) (.slice ao o.length co) 38 3 o.length (lkCells o) := (Hown.out.ext hbj).alloc _; have hone3 : ∀ u ∈ [Value.int .i64 x, Value.int .i64 y, Value.int .i64 z], u.oneCell' = true := by intro u hu; simp only [List.mem_cons, List.not_mem_nil, or_false] at hu; rcases hu with rfl | rfl | rfl <;> rfl
     have hnews3 : ∀ (j : Nat) v, [Value.int .i64 x, Value.int .i64 y, Value.int .i64 z][j]? = some v → (wi.alloc (.cells #[.int .i64 x, .int .i64 y, .int .i64 z] 38)).cell? ((⟨wi.heap.size, 0, none⟩ : Addr).add j) = some v := by
      intro j v hj; match j with
      | 0 => simp at hj; subst hj; simp [Addr.add]
      | 1 => simp at hj; subst hj; simp [Addr.add]
      | 2 => simp at hj; subst hj; simp [Addr.add]
      | j + 3 => simp at hj
     have u0 := keep_cell (bl_alloc wi (.cells #[.int .i64 x, .int .i64 y, .int .i64 z] 38)) d0'; have u1 := keep_cell (bl_alloc wi (.cells #[.int .i64 x, .int .i64 y, .int .i64 z] 38)) d1'; have u2 := keep_cell (bl_alloc wi (.cells #[.int .i64 x, .int .i64 y, .int .i64 z] 38)) d2'; have hwsz := hbj.size; have Hone3 := Lib.hid hone3; have Hnews3 := Lib.hid hnews3; have Hq := Lib.hid hq; have HbW := Lib.hid hbW; have Hu := Lib.hid (And.intro u0 (And.intro u1 u2)); clear hone3 hnews3 hput hprm hXl hbeh hfirst hbW u0 u1 u2; go_wp2_with (at_builtin; refine wpList_append_row _ rfl (.tmp 44) (.tmp 46) 22 rfl 38 (.agg #[.int .i64 0, .int .i64 0, .int .i64 0]) 3 24 Tryz.underlying22 link_info rfl _ o.length _ rfl hownZ ⟨wi.heap.size, 0, none⟩ 1 1 [.int .i64 x, .int .i64 y, .int .i64 z] rfl rfl Hnews3.out Hone3.out (by omega) (by unfold maxLen; omega) (by omega) ?_); intro g5 c5 w5 hr5 hc5 hg5 hor5; have hb5 : Below w.heap.size w w5 := HbW.out.grown hg5 (by have := HbW.out.size; exact this) (fun j hj => Hnew.out j hj); have hg6 : w.heap.size ≤ g5 := by
      rcases hor5 with h | h
      · exact Hnew.out g5 h
      · have := HB.out.size; omega
     have hgne : g5 ≠ P := by
      rcases hor5 with h | h
      · have := Hlt.out g5 h; omega
      · omega
     have hPne : (Value.slice ao o.length co).ownBlock ≠ some P := fun h => by have := Hlt.out P h; omega
     have v0 := grown_cell hg5 Hu.out.1 hPne; have v1 := grown_cell hg5 Hu.out.2.1 hPne; have v2 := grown_cell hg5 Hu.out.2.2 hPne; have hr6 : Row w5 g5 38 3 c5 (lkCells (shiftS o (x, y, z) o.length)) := by
      rw [shiftS_full, lkCells_append]; exact hr5
     clear hr5 hg5 hor5 hownZ hPne d0' d1' d2' hbj; obtain ⟨gB, rfl⟩ : ∃ n : Nat, n = gk := ⟨_, rfl⟩
     go_wp2_with fail; go_loopg [7] (o.length - q) (fun r t wj => ∃ m : Nat, t = .int .i64 m ∧ m = q + r ∧ m ≤ o.length ∧ Row wj g5 38 3 c5 (lkCells (shiftS o (x, y, z) m)) ∧ wj.cell? ⟨P, 0, none⟩ = some (.int .i64 x) ∧ wj.cell? ⟨P, 1, none⟩ = some (.int .i64 y) ∧ wj.cell? ⟨P, 2, none⟩ = some (.int .i64 z) ∧ Below w.heap.size w wj)
     case atStart => exact ⟨o.length, by go_num, by have := Hq.out; omega, by omega, hr6, v0, v1, v2, hb5⟩
     case round =>
      clear hr6 v0 v1 v2 hb5; obtain ⟨m, rfl, hmr, hmo, hrw, v0, v1, v2, hbm⟩ := hrel; obtain ⟨L, hL⟩ : ∃ L, L = shiftS o (x, y, z) m := ⟨_, rfl⟩
      have hLl : L.length = o.length + 1 := by rw [hL]; exact shiftS_length _ _ _ hmo
      rw [← hL] at hrw; have hgl := hrw.lt; by_cases hmq : m = q
      ·
       subst hmq; obtain ⟨d0, d1, d2⟩ := hrw.lkAt m (by omega); have f0 := hrw.frozen (m * 3); have f1 := hrw.frozen (m * 3 + 1); have f2 := hrw.frozen (m * 3 + 2); have hset := lkCells_set3 L m (by omega) x y z; have hend : L.set m (x, y, z) = o.take m ++ (x, y, z) :: o.drop m := by rw [hL]; exact shiftS_end _ _ _ hmo
       rw [hend] at hset; have Hset := Lib.hid hset; have Hmr := Lib.hid hmr; have hml : m < o.length + 1 := by omega
       clear hset hend hmr hL; obtain ⟨e0, he0⟩ : ∃ e, e = L[m].1 := ⟨_, rfl⟩
       obtain ⟨e1, he1⟩ : ∃ e, e = L[m].2.1 := ⟨_, rfl⟩
       obtain ⟨e2, he2⟩ : ∃ e, e = L[m].2.2 := ⟨_, rfl⟩
       rw [← he0] at d0; rw [← he1] at d1; rw [← he2] at d2; clear he0 he1 he2; go_wp2_with fail; go_roundg (gA - 1)
       case measure => have := Hk.out; omega
       case rel =>
        have hNl : (o.take m ++ ((x, y, z) : Lk) :: o.drop m).length = o.length + 1 := by simp; omega
        refine ⟨k + 1, _, _, rfl, by have := Hk.out; omega, by go_num, ?_, Hput.out, ?_, fun g hg => by cases hg; exact hg6, ?_⟩
        ·
         unfold OwnL; rw [hNl]; have h1 := ((hrw.set (m * 3) (.int .i64 x)).set (m * 3 + 1) (.int .i64 y)).set (m * 3 + 2) (.int .i64 z); rw [Hset.out] at h1; exact h1.own (by rw [lkCells_length, hNl]) hc5
        ·
         rw [Hst.out]; exact Hprm.out.trans (Hperm.out.append_right _)
        · exact ((hbm.setCell (by simpa using hg6) _).setCell (by simpa using hg6) _).setCell (by simpa using hg6) _
      ·
       obtain ⟨j, hj⟩ : ∃ j, m = j + 1 := ⟨m - 1, by omega⟩
       have hjo : j < o.length := by omega
       obtain ⟨c0, c1, c2⟩ := hrw.lkAt j (by omega); have hLj : L[j]'(by omega) = o[j] := by
        have := shiftS_prev o (x, y, z) j hjo; rw [← hj, ← hL, List.getElem?_eq_getElem (by omega)] at this; exact Option.some.inj this
       rw [hLj] at c0 c1 c2; obtain ⟨d0, d1, d2⟩ := hrw.lkAt m (by omega); obtain ⟨⟨x1, y1, z1⟩, hx1⟩ : ∃ e : Lk, o[j] = e := ⟨_, rfl⟩
       rw [hx1] at c0 c1 c2; simp only at c0 c1 c2; have f0 := hrw.frozen (m * 3); have f1 := hrw.frozen (m * 3 + 1); have f2 := hrw.frozen (m * 3 + 2); have hset := lkCells_set3 L m (by omega) x1 y1 z1; have hend : L.set m (x1, y1, z1) = shiftS o (x, y, z) j := by rw [hL, hj, ← hx1]; exact shiftS_step _ _ _ hjo
       rw [hend] at hset; have i1 : IntKind.i64.wrap ((m : Int) - 1) = (j : Int) := by rw [show ((m : Int) - 1) = (j : Int) by omega]; exact IntWalk.i64_in _ (by omega)
       have i2 : m < o.length + 1 := by omega
       have i3 : j < o.length + 1 := by omega
       have i4 : q < m := by omega
       have i5 : (j : Int) < (o.length : Int) + 1 := by omega
       have hmr2 : j = q + (gk - 1) ∧ gk - 1 < gk := by omega
       have Hset := Lib.hid hset; have Hmr := Lib.hid hmr2; obtain ⟨e0, he0⟩ : ∃ e, e = L[m].1 := ⟨_, rfl⟩
       obtain ⟨e1, he1⟩ : ∃ e, e = L[m].2.1 := ⟨_, rfl⟩
       obtain ⟨e2, he2⟩ : ∃ e, e = L[m].2.2 := ⟨_, rfl⟩
       rw [← he0] at d0; rw [← he1] at d1; rw [← he2] at d2; clear he0 he1 he2 hset hend hmr hmr2 hj hL hLj hx1 hmq; go_wp2_with fail; go_roundg (gk - 1)
       case measure => exact Hmr.out.2
       case rel =>
        refine ⟨j, rfl, Hmr.out.1, by omega, ?_, ?_, ?_, ?_, ((hbm.setCell (by simpa using hg6) _).setCell (by simpa using hg6) _).setCell (by simpa using hg6) _⟩
        ·
         have h1 := ((hrw.set (m * 3) (.int .i64 x1)).set (m * 3 + 1) (.int .i64 y1)).set (m * 3 + 2) (.int .i64 z1); rw [Hset.out] at h1; exact h1
        · rw [World.cell?_setCell_far _ _ _ _ (by simpa using hgne), World.cell?_setCell_far _ _ _ _ (by simpa using hgne), World.cell?_setCell_far _ _ _ _ (by simpa using hgne)]; exact v0
        · rw [World.cell?_setCell_far _ _ _ _ (by simpa using hgne), World.cell?_setCell_far _ _ _ _ (by simpa using hgne), World.cell?_setCell_far _ _ _ _ (by simpa using hgne)]; exact v1
        · rw [World.cell?_setCell_far _ _ _ _ (by simpa using hgne), World.cell?_setCell_far _ _ _ _ (by simpa using hgne), World.cell?_setCell_far _ _ _ _ (by simpa using hgne)]; exact v2
    ·
     have hjo : q - 1 < o.length := by omega
     obtain ⟨bo, oo, e2, p0, p1, p2⟩ := (hro.below hbi).at (q - 1) hjo; subst e2; obtain ⟨⟨x1, y1, z1⟩, hx1⟩ : ∃ e : Lk, o[q-1] = e := ⟨_, rfl⟩
     rw [hx1] at p0 p1 p2; simp only at p0 p1 p2; obtain ⟨j, hj⟩ : ∃ j, j = q - 1 := ⟨_, rfl⟩
     rw [← hj] at p0 p1 p2; have q6 : decide ((0 : Int) < (q : Int)) = true := by rw [decide_eq_true_eq]; omega
     have q7 : decide (0 < q) = true := by rw [decide_eq_true_eq]; omega
     have q8 : 0 < q := by omega
     have i1 : IntKind.i64.wrap ((q : Int) - 1) = (j : Int) := by rw [show ((q : Int) - 1) = (j : Int) by omega]; exact IntWalk.i64_in _ (by omega)
     have i2 : IntKind.i64.wrap (j : Int) = (j : Int) := IntWalk.i64_in _ (by omega); have i3 : (0 : Int) ≤ (j : Int) := by omega
     have i4 : (j : Int) < (o.length : Int) := by omega
     have i5 : j < o.length := by omega
     have hfst : ¬ LtL (x, y, z) (x1, y1, z1) → (q = 0 ∨ ∀ h : q - 1 < o.length, ¬ LtL (x, y, z) o[q-1]) := fun h => .inr fun h2 => by rw [hx1]; exact h
     have hnx : LtL (x, y, z) (x1, y1, z1) → ∀ t (h : t < o.length), j ≤ t → LtL (x, y, z) o[t] := fun h t ht hjt => by
      by_cases e : q ≤ t
      · exact hbeh t ht e
      ·
       obtain rfl : t = q - 1 := by omega
       rw [hx1]; exact h
     have hjq : j + 1 = q := by omega
     have Hfst := Lib.hid hfst; have Hnx := Lib.hid hnx; have Hbeh := Lib.hid hbeh; have Hos2 := Lib.hid hos; have Hjq := Lib.hid hjq; have Hqo := Lib.hid hq; clear hfst hnx hbeh hos hjq hx1 hj hq0 hq; go_wp2_with fail
     go_region_held3 (fun w' => w'.cell? ⟨bo, oo + j * 3, none⟩ = some (.int .i64 x1) ∧ w'.cell? ⟨bo, oo + j * 3 + 1, none⟩ = some (.int .i64 y1) ∧ w'.cell? ⟨bo, oo + j * 3 + 2, none⟩ = some (.int .i64 z1) ∧
      w'.cell? ⟨P, 0, none⟩ = some (.int .i64 x) ∧ w'.cell? ⟨P, 1, none⟩ = some (.int .i64 y) ∧ w'.cell? ⟨P, 2, none⟩ = some (.int .i64 z)) (first | (refine ⟨?_, ?_, ?_, ?_, ?_, ?_⟩ <;> (refine keep_cell (by assumption) ?_; simp [*]; done)) | go_keep)
      (first | (go_at_call 89; refine (ahead_walk _ _ _ _ _ _ _).mono ?_; rintro e w' ⟨rfl, hbw⟩))
     by_cases hlt2 : LtL (x, y, z) (x1, y1, z1)
     ·
      have hd : decide (LtL (x, y, z) (x1, y1, z1)) = true := by simpa using hlt2
      have hnx := Hnx.out hlt2; have Hnx2 := Lib.hid hnx; clear hlt2 hnx; rw [hd]; clear hd; go_wp2_with fail; go_roundg (gk - 1)
      case measure => have := Hqr.out; omega
      case rel => exact ⟨j, by have := Hqr.out; have := Hjq.out; omega, rfl, by omega, Hnx2.out, bl_trans (hbi.drew) hbw⟩
     ·
      have hd : decide (LtL (x, y, z) (x1, y1, z1)) = false := by simpa using hlt2
      have hfirst := Hfst.out hlt2; have hbeh := Hbeh.out; have hos := Hos2.out; have hq := Hqo.out; have Hl2 := Lib.hid hfirst; have Hl3 := Lib.hid hbeh; have Hl4 := Lib.hid hos; have Hl5 := Lib.hid hq; clear hlt2 hfirst hbeh hos hq; rw [hd]; clear hd; go_upto_region 11 with (fail)
      have hq := Hl5.out; have hbeh := Hl3.out; have hfirst := Hl2.out; have hos := Hl4.out; have hbj := bl_trans (hbi.drew) hbw; have d0' := keep_cell hbj k0; have d1' := keep_cell hbj k1; have d2' := keep_cell hbj k2; clear hbi hbw d0 d1 d2 q6 q7 q8 i1 i2 i3 i4 i5 p0 p1 p2; obtain ⟨wi, rfl⟩ : ∃ wi : World, wi = w' := ⟨_, rfl⟩
      have hXl : (shiftS o (x, y, z) q).length = o.length + 1 := shiftS_length _ _ _ hq; have hput := putL_sorted hos hq hbeh hfirst; have hprm := putL_perm o (x, y, z) q; have Hput := Lib.hid hput; have Hprm := Lib.hid hprm; have HXl := Lib.hid hXl; have hbW : Below w.heap.size w (wi.alloc (.cells #[.int .i64 x, .int .i64 y, .int .i64 z] 38)) := bl_trans (bl_trans HB.out hbj) (bl_alloc _ _); have hownZ : Own (wi.alloc (.cells #[.int .i64 x, .int .i64 y, .int .i64 z] 38)) (.slice (some ⟨bo, oo, none⟩) o.length co) 38 3 o.length (lkCells o) := (Hown.out.ext hbj).alloc _; have hone3 : ∀ u ∈ [Value.int .i64 x, Value.int .i64 y, Value.int .i64 z], u.oneCell' = true := by intro u hu; simp only [List.mem_cons, List.not_mem_nil, or_false] at hu; rcases hu with rfl | rfl | rfl <;> rfl
      have hnews3 : ∀ (j : Nat) v, [Value.int .i64 x, Value.int .i64 y, Value.int .i64 z][j]? = some v → (wi.alloc (.cells #[.int .i64 x, .int .i64 y, .int .i64 z] 38)).cell? ((⟨wi.heap.size, 0, none⟩ : Addr).add j) = some v := by
       intro j v hj; match j with
       | 0 => simp at hj; subst hj; simp [Addr.add]
       | 1 => simp at hj; subst hj; simp [Addr.add]
       | 2 => simp at hj; subst hj; simp [Addr.add]
       | j + 3 => simp at hj
      have u0 := keep_cell (bl_alloc wi (.cells #[.int .i64 x, .int .i64 y, .int .i64 z] 38)) d0'; have u1 := keep_cell (bl_alloc wi (.cells #[.int .i64 x, .int .i64 y, .int .i64 z] 38)) d1'; have u2 := keep_cell (bl_alloc wi (.cells #[.int .i64 x, .int .i64 y, .int .i64 z] 38)) d2'; have hwsz := hbj.size; have Hone3 := Lib.hid hone3; have Hnews3 := Lib.hid hnews3; have Hq := Lib.hid hq; have HbW := Lib.hid hbW; have Hu := Lib.hid (And.intro u0 (And.intro u1 u2)); clear hone3 hnews3 hput hprm hXl hbeh hfirst hbW u0 u1 u2; go_wp2_with (at_builtin; refine wpList_append_row _ rfl (.tmp 44) (.tmp 46) 22 rfl 38 (.agg #[.int .i64 0, .int .i64 0, .int .i64 0]) 3 24 Tryz.underlying22 link_info rfl _ o.length _ rfl hownZ ⟨wi.heap.size, 0, none⟩ 1 1 [.int .i64 x, .int .i64 y, .int .i64 z] rfl rfl Hnews3.out Hone3.out (by omega) (by unfold maxLen; omega) (by omega) ?_); intro g5 c5 w5 hr5 hc5 hg5 hor5; have hb5 : Below w.heap.size w w5 := HbW.out.grown hg5 (by have := HbW.out.size; exact this) (fun j hj => Hnew.out j hj); have hg6 : w.heap.size ≤ g5 := by
       rcases hor5 with h | h
       · exact Hnew.out g5 h
       · have := HB.out.size; omega
      have hgne : g5 ≠ P := by
       rcases hor5 with h | h
       · have := Hlt.out g5 h; omega
       · omega
      have hPne : (Value.slice (some ⟨bo, oo, none⟩) o.length co).ownBlock ≠ some P := fun h => by have := Hlt.out P h; omega
      have v0 := grown_cell hg5 Hu.out.1 hPne; have v1 := grown_cell hg5 Hu.out.2.1 hPne; have v2 := grown_cell hg5 Hu.out.2.2 hPne; have hr6 : Row w5 g5 38 3 c5 (lkCells (shiftS o (x, y, z) o.length)) := by
       rw [shiftS_full, lkCells_append]; exact hr5
      clear hr5 hg5 hor5 hownZ hPne d0' d1' d2' hbj; obtain ⟨gB, rfl⟩ : ∃ n : Nat, n = gk := ⟨_, rfl⟩
      go_wp2_with fail; go_loopg [7] (o.length - q) (fun r t wj => ∃ m : Nat, t = .int .i64 m ∧ m = q + r ∧ m ≤ o.length ∧ Row wj g5 38 3 c5 (lkCells (shiftS o (x, y, z) m)) ∧ wj.cell? ⟨P, 0, none⟩ = some (.int .i64 x) ∧ wj.cell? ⟨P, 1, none⟩ = some (.int .i64 y) ∧ wj.cell? ⟨P, 2, none⟩ = some (.int .i64 z) ∧ Below w.heap.size w wj)
      case atStart => exact ⟨o.length, by go_num, by have := Hq.out; omega, by omega, hr6, v0, v1, v2, hb5⟩
      case round =>
       clear hr6 v0 v1 v2 hb5; obtain ⟨m, rfl, hmr, hmo, hrw, v0, v1, v2, hbm⟩ := hrel; obtain ⟨L, hL⟩ : ∃ L, L = shiftS o (x, y, z) m := ⟨_, rfl⟩
       have hLl : L.length = o.length + 1 := by rw [hL]; exact shiftS_length _ _ _ hmo
       rw [← hL] at hrw; have hgl := hrw.lt; by_cases hmq : m = q
       ·
        subst hmq; obtain ⟨d0, d1, d2⟩ := hrw.lkAt m (by omega); have f0 := hrw.frozen (m * 3); have f1 := hrw.frozen (m * 3 + 1); have f2 := hrw.frozen (m * 3 + 2); have hset := lkCells_set3 L m (by omega) x y z; have hend : L.set m (x, y, z) = o.take m ++ (x, y, z) :: o.drop m := by rw [hL]; exact shiftS_end _ _ _ hmo
        rw [hend] at hset; have Hset := Lib.hid hset; have Hmr := Lib.hid hmr; have hml : m < o.length + 1 := by omega
        clear hset hend hmr hL; obtain ⟨e0, he0⟩ : ∃ e, e = L[m].1 := ⟨_, rfl⟩
        obtain ⟨e1, he1⟩ : ∃ e, e = L[m].2.1 := ⟨_, rfl⟩
        obtain ⟨e2, he2⟩ : ∃ e, e = L[m].2.2 := ⟨_, rfl⟩
        rw [← he0] at d0; rw [← he1] at d1; rw [← he2] at d2; clear he0 he1 he2; go_wp2_with fail; go_roundg (gA - 1)
        case measure => have := Hk.out; omega
        case rel =>
         have hNl : (o.take m ++ ((x, y, z) : Lk) :: o.drop m).length = o.length + 1 := by simp; omega
         refine ⟨k + 1, _, _, rfl, by have := Hk.out; omega, by go_num, ?_, Hput.out, ?_, fun g hg => by cases hg; exact hg6, ?_⟩
         ·
          unfold OwnL; rw [hNl]; have h1 := ((hrw.set (m * 3) (.int .i64 x)).set (m * 3 + 1) (.int .i64 y)).set (m * 3 + 2) (.int .i64 z); rw [Hset.out] at h1; exact h1.own (by rw [lkCells_length, hNl]) hc5
         ·
          rw [Hst.out]; exact Hprm.out.trans (Hperm.out.append_right _)
         · exact ((hbm.setCell (by simpa using hg6) _).setCell (by simpa using hg6) _).setCell (by simpa using hg6) _
       ·
        obtain ⟨j, hj⟩ : ∃ j, m = j + 1 := ⟨m - 1, by omega⟩
        have hjo : j < o.length := by omega
        obtain ⟨c0, c1, c2⟩ := hrw.lkAt j (by omega); have hLj : L[j]'(by omega) = o[j] := by
         have := shiftS_prev o (x, y, z) j hjo; rw [← hj, ← hL, List.getElem?_eq_getElem (by omega)] at this; exact Option.some.inj this
        rw [hLj] at c0 c1 c2; obtain ⟨d0, d1, d2⟩ := hrw.lkAt m (by omega); obtain ⟨⟨x1, y1, z1⟩, hx1⟩ : ∃ e : Lk, o[j] = e := ⟨_, rfl⟩
        rw [hx1] at c0 c1 c2; simp only at c0 c1 c2; have f0 := hrw.frozen (m * 3); have f1 := hrw.frozen (m * 3 + 1); have f2 := hrw.frozen (m * 3 + 2); have hset := lkCells_set3 L m (by omega) x1 y1 z1; have hend : L.set m (x1, y1, z1) = shiftS o (x, y, z) j := by rw [hL, hj, ← hx1]; exact shiftS_step _ _ _ hjo
        rw [hend] at hset; have i1 : IntKind.i64.wrap ((m : Int) - 1) = (j : Int) := by rw [show ((m : Int) - 1) = (j : Int) by omega]; exact IntWalk.i64_in _ (by omega)
        have i2 : m < o.length + 1 := by omega
        have i3 : j < o.length + 1 := by omega
        have i4 : q < m := by omega
        have i5 : (j : Int) < (o.length : Int) + 1 := by omega
        have hmr2 : j = q + (gk - 1) ∧ gk - 1 < gk := by omega
        have Hset := Lib.hid hset; have Hmr := Lib.hid hmr2; obtain ⟨e0, he0⟩ : ∃ e, e = L[m].1 := ⟨_, rfl⟩
        obtain ⟨e1, he1⟩ : ∃ e, e = L[m].2.1 := ⟨_, rfl⟩
        obtain ⟨e2, he2⟩ : ∃ e, e = L[m].2.2 := ⟨_, rfl⟩
        rw [← he0] at d0; rw [← he1] at d1; rw [← he2] at d2; clear he0 he1 he2 hset hend hmr hmr2 hj hL hLj hx1 hmq; go_wp2_with fail; go_roundg (gk - 1)
        case measure => exact Hmr.out.2
        case rel =>
         refine ⟨j, rfl, Hmr.out.1, by omega, ?_, ?_, ?_, ?_, ((hbm.setCell (by simpa using hg6) _).setCell (by simpa using hg6) _).setCell (by simpa using hg6) _⟩
         ·
          have h1 := ((hrw.set (m * 3) (.int .i64 x1)).set (m * 3 + 1) (.int .i64 y1)).set (m * 3 + 2) (.int .i64 z1); rw [Hset.out] at h1; exact h1
         · rw [World.cell?_setCell_far _ _ _ _ (by simpa using hgne), World.cell?_setCell_far _ _ _ _ (by simpa using hgne), World.cell?_setCell_far _ _ _ _ (by simpa using hgne)]; exact v0
         · rw [World.cell?_setCell_far _ _ _ _ (by simpa using hgne), World.cell?_setCell_far _ _ _ _ (by simpa using hgne), World.cell?_setCell_far _ _ _ _ (by simpa using hgne)]; exact v1
         · rw [World.cell?_setCell_far _ _ _ _ (by simpa using hgne), World.cell?_setCell_far _ _ _ _ (by simpa using hgne), World.cell?_setCell_far _ _ _ _ (by simpa using hgne)]; exact v2
  ·
   have hkl : k = ls.length := by omega
   subst hkl; rw [List.take_length] at hperm; have hfin := sortL_one hperm hos; subst hfin; have Hown := Lib.hid hown; have Hnew := Lib.hid hnew; obtain ⟨ao, co, rfl, hro, hrob, hco, hlco⟩ := hown.read; clear hown hnew hos hperm hk; go_wp2_with fail; go_ret; exact ⟨_, rfl, Hown.out, Hnew.out, hB⟩
end Go.Proofs.YtagcbnpahgfgmaaGreat
