/- Facts that the claim rests on, part 12. -/
import Derived.Test.YtagcbnpahgfgmaaGreatKP10
namespace Go.Proofs.YtagcbnpahgfgmaaGreat
open Go Go.RowKit
def wantT (ls : List Lk) : Bool := twoL ls && (!(ls.any fun k => k.2.2 != 0) && decide (3 ≤ (vertsL ls).length))
def RetTe (w : World) (ls : List Lk) (e : Ending) (w' : World) : Prop :=
 Below w.heap.size w w' ∧ ((wantT ls = true ∧ ∃ a c T, e = .returned (.tuple #[.slice a T.length c, .int .i64 0]) ∧ RdQ w' a T ∧ TreeTo kindL ls T ∧ T.length ≤ c ∧ c ≤ maxLen) ∨ (wantT ls = false ∧ e = .returned (.tuple #[.slice none 0 0, .int .i64 150])))
theorem virtual_walk (k : Lk) (w : World) :
  Calls Tryz.prog 32 #[.agg #[.int .i64 k.1, .int .i64 k.2.1, .int .i64 k.2.2]] w fun e w' => e = .returned (.bool (k.2.2 != 0)) ∧ Below w.heap.size w w' := by
 obtain ⟨x, y, v⟩ := k
 simp only
 obtain ⟨t, ht⟩ : ∃ t, t = (v != 0) := ⟨_, rfl⟩
 rw [← ht]
 cases t with
 | true =>
  have e1 : (v != 0) = true := ht.symm
  clear ht
  go_enter Tryz.func32, Tryz.ntmps32
  go_wp2_with fail
  go_ret
  exact ⟨by first | rfl | (rw [e1]; rfl), bl_alloc w _⟩
 | false =>
  have e1 : (v != 0) = false := ht.symm
  clear ht
  go_enter Tryz.func32, Tryz.ntmps32
  go_wp2_with fail
  go_ret
  exact ⟨by first | rfl | (rw [e1]; rfl), bl_alloc w _⟩
theorem cell_lt {w : World} {a : Addr} {v : Value} (h : w.cell? a = some v) : a.block < w.heap.size := by
 rcases Nat.lt_or_ge a.block w.heap.size with h' | h'
 · exact h'
 · simp [World.cell?, Array.getElem?_eq_none h'] at h
theorem news2 (W : World) (t : TypeId) (x y : Value) : ∀ (j : Nat) v, [x, y][j]? = some v → (W.alloc (.cells #[x, y] t)).cell? ((⟨W.heap.size, 0, none⟩ : Addr).add j) = some v := by
 intro j v hj
 match j with
 | 0 => simp at hj; subst hj; simp [Addr.add]
 | 1 => simp at hj; subst hj; simp [Addr.add]
 | j + 2 => simp at hj
def PtsI (w0 wj : World) (vo : Value) (ps : List PtR) : Prop :=
 Own wj vo 49 2 ps.length (ptC ps) ∧ (∀ p ∈ ps, RowP wj p ∧ ∀ ad, p.2.1 = some ad → ad.block < w0.heap.size) ∧ (∀ g, vo.ownBlock = some g → w0.heap.size ≤ g) ∧ Below w0.heap.size w0 wj
theorem PtsI.pt {w0 wj : World} {vo : Value} {ps : List PtR} (h : PtsI w0 wj vo ps) (hn : ps ≠ []) : ∃ g cap, vo = .slice (some ⟨g, 0, none⟩) ps.length cap ∧ PtI wj w0.heap.size g cap ps := by
 obtain ⟨h1, h2, h3, h4⟩ := h
 rcases h1.2 with ⟨rfl, h0⟩ | ⟨g, cap, rfl, hc, hr⟩
 · exact absurd (List.eq_nil_of_length_eq_zero h0) hn
 ·
  have hg := h3 g rfl
  exact ⟨g, cap, rfl, hr, hc, hg, fun p hp => ⟨(h2 p hp).1, fun ad ha => by have := (h2 p hp).2 ad ha; omega⟩⟩
theorem tree_distinct {ls : List Lk} {ps : List PtR} (h : QI ls (ptQ ps)) : ∀ x ∈ ps, ∀ y ∈ ps, x.1.2 = y.1.2 → x = y := by
 intro x hx y hy he
 obtain ⟨i, hi, rfl⟩ := List.getElem_of_mem hx
 obtain ⟨j, hj, rfl⟩ := List.getElem_of_mem hy
 by_cases hij : i = j
 · subst hij; rfl
 ·
  obtain ⟨R, hR⟩ := perm_any (Q := ptQ ps) hij (by rw [ptQ_len]; exact hi) (by rw [ptQ_len]; exact hj)
  exact absurd (by simpa [ptQ] using he) (h.distinct hR)
theorem qi_ne {ls : List Lk} {Q : List Pt} (h : QI ls Q) : Q ≠ [] := fun e => by
 obtain ⟨D, hT, _⟩ := h.tree
 have := hT.len
 rw [e] at this
 simp at this
theorem three_links {ls : List Lk} (h : twoL ls = true) (h3 : 3 ≤ (vertsL ls).length) : 3 ≤ ls.length := by
 refine Classical.byContradiction fun hno => ?_
 have h1 := vertsL_length ls
 match ls, h1, hno with
 | [], h1, _ => have e : ([] : List Lk).length = 0 := rfl; omega
 | [x], h1, _ => have e : [x].length = 1 := rfl; omega
 | _ :: _ :: _ :: _, _, hno => simp only [List.length_cons] at hno; omega
 | [e, f], _, _ =>
  obtain ⟨g1, m1, n1, v1⟩ := two_deg h h3 (e := e) (by simp) (.inl rfl)
  obtain ⟨g2, m2, n2, v2⟩ := two_deg h h3 (e := e) (by simp) (.inr rfl)
  have e1 : g1 = f := by simp at m1; exact m1.resolve_left n1
  have e2 : g2 = f := by simp at m2; exact m2.resolve_left n2
  rw [e1] at v1
  rw [e2] at v2
  have hR := (two_right h).2.1
  have ok1 := hR e (by simp); have ok2 := hR f (by simp)
  unfold OkL at ok1 ok2
  have hsub := RightQ.sub_len (verts_nodup [e, f]) (m := [e.1, e.2.1]) fun x hx => by
   obtain ⟨k, hk, hx⟩ := (mem_vertsL _ _).1 hx; simp at hk ⊢; rcases hk with rfl | rfl <;> omega
  simp only [List.length_cons, List.length_nil] at hsub
  omega
set_option maxRecDepth 100000 in
set_option maxHeartbeats 8000000 in
theorem stree_walk (a : Option Addr) (cap : Nat) (ls : List Lk) (w : World) (hr : RdL w a ls) (hcap : ls.length ≤ 9223372036854775807) :
  Calls Tryz.prog 7 #[.slice a ls.length cap] w (RetTe w ls) := by
 cases h2 : twoL ls with
 | false =>
  have hw : wantT ls = false := by unfold wantT; rw [h2]; rfl
  have H2 := Lib.hid h2; have Hw := Lib.hid hw
  clear h2 hw
  go_enter Tryz.func7, Tryz.ntmps7
  go_wp2_with fail
  refine (two_walk a cap ls _ hr hcap).mono ?_
  rw [H2.out]
  rintro e w1 ⟨rfl, hb1⟩
  go_wp2_with fail
  go_ret2
  exact ⟨hb1, .inr ⟨Hw.out, rfl⟩⟩
 | true =>
  have hRl := two_right h2
  have hn := hRl.1
  cases hv : ls.any (fun k => k.2.2 != 0) with
  | true =>
   have hw : wantT ls = false := by unfold wantT; rw [h2, hv]; rfl
   have H2 := Lib.hid h2; have Hw := Lib.hid hw; have Hv := Lib.hid hv; clear h2 hw hv hRl; go_enter Tryz.func7, Tryz.ntmps7; go_wp2_with fail; refine (two_walk a cap ls _ hr hcap).mono ?_; rw [H2.out]; rintro e w1 ⟨rfl, hb1⟩; have hr1 := hr.below hb1; go_wp2_with fail; refine (contains_walk0 (fun k => k.2.2 != 0) a cap ls _ hr1 (by omega) (fun k _ w1 _ => virtual_walk k w1)).mono ?_; rw [Hv.out]; rintro e w2 ⟨rfl, hb2⟩; have hB2 := bl_trans hb1 hb2; go_wp2_with fail; go_ret2; exact ⟨hB2, .inr ⟨Hw.out, rfl⟩⟩
  | false =>
   have hvl : (vertsL ls).length ≤ 2000 := by have := vertsL_length ls; omega
   have hv0 : ∀ k ∈ ls, k.2.2 = 0 := fun k hk => by
    have := List.any_eq_false.1 hv k hk; simpa using this
   by_cases h3 : (vertsL ls).length < 3
   ·
    have hw : wantT ls = false := by
     unfold wantT; rw [h2, hv, decide_eq_false (by omega)]; rfl
    obtain ⟨vs, hvs⟩ : ∃ vs, vs = vertsL ls := ⟨_, rfl⟩
    rw [← hvs] at h3 hvl; have e3 : decide ((vs.length : Int) < 3) = true := by simp; omega
    have H2 := Lib.hid h2; have Hw := Lib.hid hw; have Hv := Lib.hid hv; have Hvs := Lib.hid hvs; clear h2 hw hv h3 hv0 hvs hRl; go_enter Tryz.func7, Tryz.ntmps7; go_wp2_with fail; refine (two_walk a cap ls _ hr hcap).mono ?_; rw [H2.out]; rintro e w1 ⟨rfl, hb1⟩; have hr1 := hr.below hb1; go_wp2_with fail; refine (contains_walk0 (fun k => k.2.2 != 0) a cap ls _ hr1 (by omega) (fun k _ w1 _ => virtual_walk k w1)).mono ?_; rw [Hv.out]; rintro e w2 ⟨rfl, hb2⟩; have hB2 := bl_trans hb1 hb2; have hr2 := hr1.below hb2; go_wp2_with fail; refine (verts_walk a cap ls _ hr2 (by omega)).mono ?_; rw [← Hvs.out]; rintro e w3 ⟨av, cv, rfl, _, _, _, _, hb3⟩; have hB3 := bl_trans hB2 hb3; go_wp2_with fail; go_ret2; exact ⟨hB3, .inr ⟨Hw.out, rfl⟩⟩
   ·
    have hw : wantT ls = true := by
     unfold wantT; rw [h2, hv, decide_eq_true (by omega)]; rfl
    obtain ⟨vs, hvs⟩ : ∃ vs, vs = vertsL ls := ⟨_, rfl⟩
    rw [← hvs] at h3 hvl; have e3 : decide ((vs.length : Int) < 3) = false := by simp; omega
    have hl3 : 3 ≤ ls.length := three_links h2 (by rw [← hvs]; omega); have hspl := fun (w : World) (hr : RdL w a ls) => split_walk a cap ls 1 w hr h2 (by omega) (by omega) (fun k hk => by rw [hv0 k hk]; omega); have hok := fun (out : List (List Lk)) (n : Int) (h : SplitTo ls 1 out n) => h.ok hRl hv0 hl3; have H2 := Lib.hid h2; have Hw := Lib.hid hw; have Hv := Lib.hid hv; have Hvs := Lib.hid hvs; have Hok := Lib.hid hok; have Hspl := Lib.hid hspl; have HRl := Lib.hid hRl; clear h2 hw hv h3 hv0 hvs hok hspl hRl; go_enter Tryz.func7, Tryz.ntmps7; go_wp2_with fail; refine (two_walk a cap ls _ hr hcap).mono ?_; rw [H2.out]; rintro e w1 ⟨rfl, hb1⟩; have hr1 := hr.below hb1; go_wp2_with fail; refine (contains_walk0 (fun k => k.2.2 != 0) a cap ls _ hr1 (by omega) (fun k _ w1 _ => virtual_walk k w1)).mono ?_; rw [Hv.out]; rintro e w2 ⟨rfl, hb2⟩; have hB2 := bl_trans hb1 hb2; have hr2 := hr1.below hb2; clear hb1 hb2 hr1; go_wp2_with fail; refine (verts_walk a cap ls _ hr2 (by omega)).mono ?_; rw [← Hvs.out]; rintro e w3 ⟨av, cv, rfl, _, _, _, _, hb3⟩; have hB3 := bl_trans hB2 hb3; have hr3 := hr2.below hb3; clear hB2 hb3 hr2; go_wp2_with fail; refine (Hspl.out _ hr3).mono ?_; rintro e w4 ⟨a4, c4, out, n, rfl, hro, hso, hol, hoe, hb4⟩; have hB4 := bl_trans hB3 hb4; have hpo := Hok.out out n hso; have Hso := Lib.hid hso; have Hpo := Lib.hid hpo; clear hb4 hr3 hB3 hso hpo hr; have hI0 : PtsI w4 w4 (.slice none 0 0) [] := ⟨own_nil _ _ _, fun p hp => by simp at hp, fun g hg => by simp [Value.ownBlock] at hg, bl_refl w4⟩
    go_wp2_with fail; go_loopg [8, 35] out.length (fun r vo iv wj => ∃ (i : Nat) (ps : List PtR), i + r = out.length ∧ iv = .int .i64 i ∧ ps.length = i ∧ ptQ ps = (out.take i).map (fun p => (kindL p, p)) ∧ PtsI w4 wj vo ps)
    case atStart => exact ⟨0, [], by omega, rfl, rfl, by simp [ptQ], hI0⟩
    case round =>
     clear hI0; obtain ⟨i, ps, hi, rfl, hpl, hpq, hI⟩ := hrel; have Hi := Lib.hid hi; have Hpq := Lib.hid hpq; have Hpl := Lib.hid hpl; have HI := Lib.hid hI; by_cases hil : i < out.length
     ·
      obtain ⟨r, hrr⟩ : ∃ r, r = out[i] := ⟨_, rfl⟩
      have hoi : out[i]? = some r := by rw [hrr]; exact List.getElem?_eq_getElem hil
      have hrm : r ∈ out := by rw [hrr]; exact List.getElem_mem hil
      obtain ⟨bo, oo, au, cu, rfl, c0, rl0, cu1, cu2⟩ := hro i r hoi; have c1 := keep_cell hI.2.2.2 c0; have rl1 := rl0.below hI.2.2.2; have hr3 := Hpo.out.three r hrm; have hre := hoe r hrm; have haul : ∀ ad, au = some ad → ad.block < w4.heap.size := fun ad ha => by
       obtain ⟨b, o, h1, h2, -⟩ := rl0.at 0 (by omega); rw [ha] at h1; cases h1; exact cell_lt h2
      have htk : (out.take (i + 1)).map (fun p => (kindL p, p)) = (out.take i).map (fun p => (kindL p, p)) ++ [(kindL r, r)] := by
       rw [List.take_succ_eq_append_getElem hil, List.map_append, ← hrr]; rfl
      have Htk := Lib.hid htk; have i1 : (i : Int) < (out.length : Int) := by omega
      have Haul := Lib.hid haul; have Hrl0 := Lib.hid rl0; clear hi hpq hpl hI hrr hoi hrm c0 rl0 haul htk; go_wp2_with fail; refine (kind_walk au cu r _ rl1 (by omega)).mono ?_; rintro e w5 ⟨rfl, hb5⟩; obtain ⟨kd, hkd⟩ : ∃ kd, kd = kindL r := ⟨_, rfl⟩
      rw [← hkd]; have Hkd := Lib.hid hkd; have hown5 : Own w5 u8 49 2 ps.length (ptC ps) := HI.out.1.below fun g hg => hb5.block g (Own.lt HI.out.1 hg); have hB5 : Below w4.heap.size w4 w5 := bl_trans HI.out.2.2.2 hb5; have hps : ps.length ≤ 1001 := by rw [Hpl.out]; omega
      have hold : ∀ p ∈ ps, RowP w5 p ∧ ∀ ad, p.2.1 = some ad → ad.block < w4.heap.size := fun p hp => ⟨(HI.out.2.1 p hp).1.below hb5, (HI.out.2.1 p hp).2⟩
      have hlo := HI.out.2.2.1; clear hkd hb5 HI c1 rl1; have hlr : RdL w5 au r := Hrl0.out.below hB5; have hA5 := hown5.alloc (.cells #[.int .i64 kd, .slice au r.length cu] 49); go_wp2_with (at_builtin; refine wpList_append_row _ rfl (.tmp 39) (.tmp 44) 24 rfl 49 (.agg #[.int .i64 0, .slice none 0 0]) 2 32 Tryz.underlying24 info_part (by decide +kernel) u8 ps.length _ rfl hA5 ⟨w5.heap.size, 0, none⟩ 1 1 [.int .i64 kd, .slice au r.length cu] rfl rfl (news2 w5 _ _ _) (by intro u hu; simp at hu; rcases hu with rfl | rfl <;> rfl) (by omega) (by unfold maxLen; omega) (by omega) ?_; intro g6 c6 w6 hr6 hc6 hg6 hor6); have hb56 : Below w4.heap.size w4 w6 := (bl_trans hB5 (bl_alloc w5 _)).grown hg6 (by have := hB5.size; simp; omega) hlo; have hg56 : w5.grownBy w6 u8.ownBlock := ⟨hg6.os, hg6.tape, hg6.output, by have := hg6.size; simp at this; omega, fun k hk hne => (hg6.block k (by simp; omega) hne).trans (Below.heap_alloc w5 _ k hk)⟩
      have hlo6 : w4.heap.size ≤ g6 := by
       rcases hor6 with h | h
       · exact hlo g6 h
       · have := hB5.size; simp at h; omega
      have hI6 : PtsI w4 w6 (.slice (some ⟨g6, 0, none⟩) (ps.length + 1) c6) (ps ++ [((kd, r), au, cu)]) := by
       refine ⟨⟨by rw [ptC_len], .inr ⟨g6, c6, by simp, by simpa using hc6, ?_⟩⟩, fun p hp => ?_, fun g hg => by cases hg; exact hlo6, hb56⟩
       · rw [ptC_append]; exact hr6
       ·
        rcases List.mem_append.1 hp with hp | hp
        · exact ⟨(hold p hp).1.grown hg56 (fun ad ha e => by have h1 := (hold p hp).2 ad ha; have h2 := hlo _ e; omega), (hold p hp).2⟩
        ·
         simp at hp; subst hp; exact ⟨⟨Hrl0.out.below hb56, cu1, cu2, fun ad ha => by have := Haul.out ad ha; have := hb56.size; omega⟩, Haul.out⟩
      have HI6 := Lib.hid hI6; clear hI6 hr6 hc6 hg6 hor6 hb56 hg56 hlo6 hA5 hlr hown5 hB5 hold hlo; go_wp2_with fail; go_roundg (gk - 1)
      case measure => have := Hi.out; omega
      case rel => exact ⟨i + 1, ps ++ [((kd, r), au, cu)], by have := Hi.out; omega, by go_num, by rw [List.length_append, Hpl.out]; rfl, by rw [Htk.out, ← Hpq.out, ← Hkd.out]; simp [ptQ], HI6.out⟩
     ·
      have hin : i = out.length := by omega
      have hq := Hpo.out.qi (by exact HRl.out.1) kindL; rw [hin, List.take_length] at hpq; rw [← hpq] at hq; have hne : ps ≠ [] := fun e => qi_ne hq (by rw [e]; rfl); obtain ⟨g, cp, rfl, hP⟩ := hI.pt hne; have hp1000 : ps.length ≤ 1000 := by
       have h1 := hq.len; rw [ptQ_len] at h1; have := HRl.out.1; omega
      have hB := hI.2.2.2; have Hq := Lib.hid hq; have HP := Lib.hid hP; have HB := Lib.hid hB; rw [hpl, hin] at hp1000; have e9 : ps.length = out.length := by rw [hpl, hin]
      have hmg := merged_walk w4.heap.size g cp ps ls wr hP hq HRl.out.1 (by rw [e9]; exact hp1000); have E9 := Lib.hid e9; have Hmg := Lib.hid hmg; clear hq hP hB HI hI hpq hpl hi e9 hmg hne hp1000 Hpl; subst hin; go_wp2_with fail; refine Hmg.out.mono ?_; rintro e w5 ⟨pm, rfl, hP5, hto, hnm, hB5⟩; have hqm := hto.qi HRl.out.1 Hq.out; have hnem : pm ≠ [] := fun e => qi_ne hqm (by rw [e]; rfl); have hlm : pm.length ≤ 1000 := by
       have h1 := hqm.len; rw [ptQ_len] at h1; have := HRl.out.1; omega
      have hsort := sortP_walk w4.heap.size g cp pm w5 hP5 (tree_distinct hqm) hnem (by omega); have hlo5 := hP5.lo; have hsz5 : w4.heap.size ≤ w5.heap.size := by have := hP5.lt; omega
      have HB5 := Lib.hid (HB.out.trans hB5); have Hto := Lib.hid hto; have Hnm := Lib.hid hnm; clear hqm hnem hP5 hto hnm hB5 Hmg HB; go_wp2_with fail; refine hsort.mono ?_; rintro e w6 ⟨rfl, ts, hpt, hso, hP6, hg6⟩; have hB6 : Below w4.heap.size w4 w6 := HB5.out.grown hg6 hsz5 (fun k hk => by cases hk; exact hlo5); have hBw := bl_trans hB4 hB6; have hlen6 : ts.length = pm.length := hpt.length_eq; have hfin : TreeTo kindL ls (ptQ ts) := ⟨out, n, ptQ pm, Hso.out, by have := Hpq.out; rw [List.take_length] at this; rw [← this]; exact Hto.out, Hnm.out, (hpt.map _).symm, hso⟩
      have Hfin := Lib.hid hfin; have HP6 := Lib.hid hP6; clear hfin hP6 hB6 hg6 hso hsort hpt HB5 hB4; go_wp2_with fail; go_ret2; exact ⟨hBw, .inl ⟨Hw.out, some ⟨g, 0, none⟩, cp, ptQ ts, by rw [ptQ_len, hlen6]; rfl, HP6.out.rdq, Hfin.out, by rw [ptQ_len]; exact HP6.out.len, HP6.out.cap_le⟩⟩
end Go.Proofs.YtagcbnpahgfgmaaGreat
namespace Go.Proofs.YtagcbnpahgfgmaaGreat
def normB (Q : List Pt) : Bool := Q.all fun x => Q.all fun y => decide (x = y) || (decide (x.1 ≠ y.1) || (decide (x.1 = 3) || (virtL x.2).all fun e => decide (e ∉ virtL y.2)))
theorem normal_of {Q : List Pt} (hn : Q.Nodup) (hb : normB Q = true) : MNormal Q := fun e Q' hs => by
 have h : ∀ x ∈ Q, ∀ y ∈ Q, x ≠ y → x.1 = y.1 → x.1 ≠ 3 → ∀ e ∈ virtL x.2, e ∉ virtL y.2 := fun x hx y hy h1 h2 h3 e he => by
  have := List.all_eq_true.1 (List.all_eq_true.1 hb x hx) y hy
  simp only [Bool.or_eq_true, decide_eq_true_eq, List.all_eq_true] at this
  rcases this with h | h | h | h
  · exact absurd h h1
  · exact absurd h2 h
  · exact absurd h h3
  · exact h e he
 obtain ⟨x, y, R, hp, hex, hey, hk, h3, _⟩ := hs
 have hxy : x ≠ y := fun he => by
  have := hp.nodup_iff.1 hn
  rw [he] at this
  simp at this
 exact h x (hp.mem_iff.2 (by simp)) y (hp.mem_iff.2 (by simp)) hxy hk h3 e hex hey
def okC (Q : List Pt) (v : Int) : Bool := decide ((atV v (allQ Q)).length = 2) && pairB Q (atV v (allQ Q))
def seenC (Q : List Pt) : Bool := (List.range Q.length).all fun j => match Q[j]? with
 | none => true
 | some q => decide (q.1 ≠ 0) && (decide (q.1 = kindL q.2) && (decide (j = 0) || decide (cmpLs (lnQ Q (j - 1)) q.2 < 0)))
def rightC (Q : List Pt) : Bool := decide (0 < Q.length) && (seenC Q && ((allQ Q).all (fun p => decide (p.2.2.2 = 0) || okC Q p.2.2.2) && (decide (realsO (allQ Q)).Nodup && (decide (nvO (allQ Q) + 2 = 2 * Q.length) && (List.range Q.length).all fun j => roundS Q Q.length j))))
theorem rightC_right {Q : List Pt} (h : rightC Q = true) : RightQ Q := by
 unfold rightC at h
 simp only [Bool.and_eq_true, decide_eq_true_eq, List.all_eq_true, List.mem_range, Bool.or_eq_true] at h
 obtain ⟨h0, h1, h2, h3, h4, h5⟩ := h
 refine (right_doc h0).2 ⟨fun j hj _ => ?_, fun p hp hv => ?_, h3, h4, h5⟩
 ·
  unfold seenC at h1
  have := List.all_eq_true.1 h1 j (List.mem_range.2 hj)
  rw [List.getElem?_eq_getElem hj] at this
  simp only [Bool.and_eq_true, decide_eq_true_eq, Bool.or_eq_true] at this
  obtain ⟨a1, a2, a3⟩ := this
  refine ⟨a1, by rw [kind_same]; exact a2, fun hj0 => ?_⟩
  have a4 := a3.resolve_left (by omega)
  rw [lnQ_at (by omega)] at a4
  exact a4
 ·
  have := (h2 p hp).resolve_left hv
  unfold okC at this
  simp only [Bool.and_eq_true, decide_eq_true_eq] at this
  exact this
theorem tree_ex {ls : List Lk} {out : List (List Lk)} {n : Int} {k : Nat} {T : List Pt} (h1 : (SpS.steps k ⟨[ls], [], 1⟩).todo = []) (h2 : (SpS.steps k ⟨[ls], [], 1⟩).out = out) (h3 : (SpS.steps k ⟨[ls], [], 1⟩).next = n)
  (hm : MTo (out.map fun p => (kindL p, p)) T) (hn : MNormal T) (hs : T.Pairwise LeP) : TreeTo kindL ls T := by
 refine ⟨out, n, T, ⟨k, ?_⟩, hm, hn, .refl _, hs⟩
 obtain ⟨s, hs⟩ : ∃ s, s = SpS.steps k ⟨[ls], [], 1⟩ := ⟨_, rfl⟩
 rw [← hs] at h1 h2 h3 ⊢
 cases s
 simp only at h1 h2 h3
 subst h1; subst h2; subst h3; rfl
def exA : List Lk := [(0, 1, 0), (0, 3, 0), (1, 2, 0), (2, 3, 0)]
def exB : List Lk := [(0, 1, 0), (0, 2, 0), (0, 3, 0), (1, 2, 0), (1, 3, 0), (2, 3, 0)]
def exC : List Lk := [(0, 1, 0), (0, 2, 0), (0, 3, 0), (1, 2, 0), (1, 3, 0)]
def tA : List Pt := [(1, exA)]
def tB : List Pt := [(3, exB)]
def tC : List Pt := [(2, [(0, 1, 0), (0, 1, 1), (0, 1, 2)]), (1, [(0, 1, 1), (0, 2, 0), (1, 2, 0)]), (1, [(0, 1, 2), (0, 3, 0), (1, 3, 0)])]
theorem exA_s : sortL ([(0, 1), (1, 2), (2, 3), (0, 3)].map fun e : Int × Int => ((e.1, e.2, 0) : Lk)) = exA := by decide +kernel
theorem exB_s : sortL ([(0, 1), (0, 2), (0, 3), (1, 2), (1, 3), (2, 3)].map fun e : Int × Int => ((e.1, e.2, 0) : Lk)) = exB := by decide +kernel
theorem exC_s : sortL ([(0, 1), (0, 2), (1, 2), (0, 3), (1, 3)].map fun e : Int × Int => ((e.1, e.2, 0) : Lk)) = exC := by decide +kernel
theorem exA_w : wantT exA = true := by decide +kernel
theorem exB_w : wantT exB = true := by decide +kernel
theorem exC_w : wantT exC = true := by decide +kernel
theorem exA_r : RightL exA := (rightL_iff _).1 (by decide +kernel)
theorem exB_r : RightL exB := (rightL_iff _).1 (by decide +kernel)
theorem exC_r : RightL exC := (rightL_iff _).1 (by decide +kernel)
theorem one_normal (q : Pt) : MNormal [q] := fun e Q' hs => by
 obtain ⟨x, y, R, hp, _⟩ := hs
 have := hp.length_eq
 simp at this
instance instLeP (a b : Pt) : Decidable (LeP a b) := by unfold LeP; infer_instance
theorem exA_t : TreeTo kindL exA tA := by
 refine tree_ex (k := 3) (out := [[(0, 1, 0), (0, 2, 1), (1, 2, 0)], [(0, 2, 1), (0, 3, 0), (2, 3, 0)]]) (n := 2) (by decide +kernel) (by decide +kernel) (by decide +kernel) (.step (e := (0, 2, 1)) (Q1 := tA) ⟨(1, [(0, 1, 0), (0, 2, 1), (1, 2, 0)]), (1, [(0, 2, 1), (0, 3, 0), (2, 3, 0)]), [], ?_, by decide +kernel, by decide +kernel, rfl, by decide, ?_⟩ (.done (.refl _))) (one_normal _) (by decide +kernel)
 ·
  have h1 : kindL [(0, 1, 0), (0, 2, 1), (1, 2, 0)] = 1 := by decide +kernel
  have h2 : kindL [(0, 2, 1), (0, 3, 0), (2, 3, 0)] = 1 := by decide +kernel
  simp only [List.map_cons, List.map_nil, h1, h2]
  exact .refl _
 ·
  have h3 : joinL [(0, 1, 0), (0, 2, 1), (1, 2, 0)] [(0, 2, 1), (0, 3, 0), (2, 3, 0)] 1 = exA := by decide +kernel
  simp only [h3]
  exact .refl _
theorem exB_t : TreeTo kindL exB tB := by
 refine tree_ex (k := 1) (out := [exB]) (n := 1) (by decide +kernel) (by decide +kernel) (by decide +kernel) (.done ?_) (one_normal _) (by decide +kernel)
 have h1 : kindL exB = 3 := by decide +kernel
 simp only [List.map_cons, List.map_nil, h1]
 exact .refl _
theorem exC_t : TreeTo kindL exC tC := by
 refine tree_ex (k := 5) (out := [[(0, 1, 1), (0, 2, 0), (1, 2, 0)], [(0, 1, 2), (0, 3, 0), (1, 3, 0)], [(0, 1, 0), (0, 1, 1), (0, 1, 2)]]) (n := 3) (by decide +kernel) (by decide +kernel) (by decide +kernel) (.done ?_) (normal_of (by decide +kernel) (by decide +kernel)) (by decide +kernel)
 have h1 : kindL [(0, 1, 1), (0, 2, 0), (1, 2, 0)] = 1 := by decide +kernel
 have h2 : kindL [(0, 1, 2), (0, 3, 0), (1, 3, 0)] = 1 := by decide +kernel
 have h3 : kindL [(0, 1, 0), (0, 1, 1), (0, 1, 2)] = 2 := by decide +kernel
 simp only [List.map_cons, List.map_nil, h1, h2, h3]
 decide +kernel
theorem exC_right : RightQ tC := rightC_right (by decide +kernel)
theorem exC_c : centreL tC = [0] := by
 have hb : rightB tC = true := rightB_iff.2 exC_right
 have he : besQ tC = nbQ tC := funext fun i => (nb_bes exC_right i).symm
 unfold centreL
 rw [hb]
 unfold centreQ
 rw [he]
 decide +kernel
theorem exC_w2 : wholeL tC = exC := by
 have hb : rightB tC = true := rightB_iff.2 exC_right
 unfold wholeL
 rw [hb]
 decide +kernel
end Go.Proofs.YtagcbnpahgfgmaaGreat
namespace Go.Proofs.YtagcbnpahgfgmaaGreat
open Go Go.RowKit
def lkOf (e : Int × Int) : Lk := (e.1, e.2, 0)
set_option maxHeartbeats 1000000 in
theorem of15_walk (a : Option Addr) (cap : Nat) (es : List (Int × Int)) (w : World) (hr : RdP w a es) (hl : es.length ≤ 1000) :
  Calls Tryz.prog 40 #[.slice a es.length cap] w (RetLk w (sortL (es.map lkOf))) := by
 go_enter Tryz.func40, Tryz.ntmps40
 go_wp2_with fail
 have ho0 : OwnL w (.slice none 0 0) ((es.take 0).map lkOf) := own_nil _ _ _
 go_loopg [3, 8] es.length (fun r vo iv wj => ∃ i : Nat, i + r = es.length ∧ iv = .int .i64 i ∧ OwnL wj vo ((es.take i).map lkOf) ∧ (∀ g, vo.ownBlock = some g → w.heap.size ≤ g) ∧ Below w.heap.size w wj)
 case atStart => exact ⟨0, by omega, rfl, ho0, fun g hg => by simp [Value.ownBlock] at hg, bl_refl w⟩
 case round =>
  clear ho0
  obtain ⟨i, hi, rfl, hown, hyoung, hB⟩ := hrel
  have Hi := Lib.hid hi; have Hyoung := Lib.hid hyoung
  clear hyoung
  by_cases hil : i < es.length
  ·
   clear hi; obtain ⟨b, o, rfl, c0, c1⟩ := (hr.below hB).at i hil; obtain ⟨⟨x, y⟩, hx⟩ : ∃ e : Int × Int, es[i] = e := ⟨_, rfl⟩
   have htk : (es.take (i + 1)).map lkOf = (es.take i).map lkOf ++ [(x, y, 0)] := by
    rw [List.take_succ_eq_append_getElem hil, List.map_append, hx]; rfl
   rw [hx] at c0 c1; simp only at c0 c1; have hRl : ((es.take i).map lkOf).length ≤ 1000 := by rw [List.length_map, List.length_take]; omega
   obtain ⟨R, hR⟩ : ∃ R, R = (es.take i).map lkOf := ⟨_, rfl⟩
   rw [← hR] at hown htk hRl; have Htk := Lib.hid htk; have i1 : (i : Int) < (es.length : Int) := by omega
   have hA1 := bl_alloc wr (.cells #[.int .i64 x, .int .i64 y] 62); have d0 : (wr.alloc (.cells #[.int .i64 x, .int .i64 y] 62)).cell? ⟨wr.heap.size, 0, none⟩ = some (.int .i64 x) := by simp
   have d1 : (wr.alloc (.cells #[.int .i64 x, .int .i64 y] 62)).cell? ⟨wr.heap.size, 1, none⟩ = some (.int .i64 y) := by simp
   have hownA : OwnL (wr.alloc (.cells #[.int .i64 x, .int .i64 y] 62)) u3 R := hown.alloc _; have hBA := bl_trans hB hA1; clear htk hR hx; go_upto_region 5 with (fail)
   clear c0 c1 hown hB hA1; generalize wr.alloc (.cells #[.int .i64 x, .int .i64 y] 62) = wA at d0 d1 hownA hBA ⊢; have hownB : Own (wA.alloc (.cells #[.int .i64 x, .int .i64 y, .int .i64 0] 38)) u3 38 3 R.length (lkCells R) := Own.alloc hownA _; have hszA := hBA.size; go_wp2_with (at_builtin; refine wpList_append_row _ rfl (.tmp 12) (.tmp 18) 22 rfl 38 (.agg #[.int .i64 0, .int .i64 0, .int .i64 0]) 3 24 Tryz.underlying22 link_info rfl u3 R.length _ rfl hownB ⟨wA.heap.size, 0, none⟩ 1 1 [.int .i64 x, .int .i64 y, .int .i64 0] rfl rfl (news3 _ _ _ _ _) (one3 _ _ _) (by omega) (by unfold maxLen; omega) (by omega) ?_; intro g5 c5 w5 hr5 hc5 hg5 hor5); have hB5 : Below w.heap.size w w5 := (bl_trans hBA (bl_alloc wA (.cells #[.int .i64 x, .int .i64 y, .int .i64 0] 38))).grown hg5 (by simp; omega) (fun j hj => Hyoung.out j hj); have hy5 : w.heap.size ≤ g5 := by
    rcases hor5 with h | h
    · exact Hyoung.out g5 h
    · simp at h; omega
   have hown5 : OwnL w5 (.slice (some ⟨g5, 0, none⟩) (R.length + 1) c5) ((es.take (i + 1)).map lkOf) := by
    rw [Htk.out]; have e2 : lkCells R ++ [Value.int .i64 x, Value.int .i64 y, Value.int .i64 0] = lkCells (R ++ [(x, y, 0)]) := by rw [lkCells_append]; rfl
    rw [e2] at hr5; exact ⟨lkCells_length _, .inr ⟨g5, c5, by simp, by simpa using hc5, hr5⟩⟩
   clear hr5 hg5 hor5 hownA hownB d0 d1; go_wp2_with fail; go_roundg (gk - 1)
   case measure => have := Hi.out; omega
   case rel => exact ⟨i + 1, by have := Hi.out; omega, by go_num, hown5, fun j hj => by cases hj; exact hy5, hB5⟩
  ·
   have hin : i = es.length := by omega
   subst hin; rw [List.take_of_length_le (Nat.le_refl _)] at hown; obtain ⟨R, hR⟩ : ∃ R, R = es.map lkOf := ⟨_, rfl⟩
   have hRl : R.length ≤ 1000 := by rw [hR, List.length_map]; omega
   rw [← hR] at hown; have HR := Lib.hid hR; obtain ⟨a2, c2, rfl, hr2, -, -, -⟩ := hown.read; have hsw := sorted_walk a2 c2 R wr hr2 (by omega); have Hsw := Lib.hid hsw; have hsz := hB.size; clear hi Hi hown hr2 hsw hR; go_wp2_with fail; refine Hsw.out.mono ?_; rintro e w2 ⟨v, rfl, h1, h2, h3⟩; have hB2 := bl_trans hB h3; go_wp2_with fail; go_ret; exact ⟨v, rfl, by rw [← HR.out]; exact h1, fun g hg => by have := h2 g hg; omega, hB2⟩
theorem pairs_at (w : World) (es : List (Int × Int)) (n : Nat) (h : es.length = n) (hm : n ≤ maxLen) : RdP (w.alloc (.cells (pairCells es).toArray 62)) (some ⟨w.heap.size, 0, none⟩) es := by
 have hl : (pairCells es).length = es.length * 2 := by
  clear h
  induction es with
  | nil => rfl
  | cons e es ih => simp only [pairCells, List.flatMap_cons, List.length_append, List.length_cons, List.length_nil] at ih ⊢; omega
 have := (row_new w (pairCells es).toArray 62 2 n (by simp [hl]; omega) hm).at_
 unfold RdP
 simpa using this
def rawA : List (Int × Int) := [(0, 1), (1, 2), (2, 3), (0, 3)]
def rawB : List (Int × Int) := [(0, 1), (0, 2), (0, 3), (1, 2), (1, 3), (2, 3)]
def rawC : List (Int × Int) := [(0, 1), (0, 2), (1, 2), (0, 3), (1, 3)]
set_option maxRecDepth 100000 in
set_option maxHeartbeats 8000000 in
theorem awake15_walk (w : World) : Calls Tryz.prog 9 #[] w (RetT w true) := by
 go_enter Tryz.func9, Tryz.ntmps9
 have hpx := pairs_at w rawA 4 rfl (by unfold maxLen; omega)
 have hbpx := bl_alloc w (.cells (pairCells rawA).toArray 62)
 go_wp2_with fail
 refine (of15_walk (some ⟨(w).heap.size, 0, none⟩) 4 rawA _ hpx (by decide)).mono ?_
 rw [show rawA.map lkOf = rawA.map (fun e : Int × Int => ((e.1, e.2, 0) : Lk)) from rfl, show sortL (rawA.map fun e : Int × Int => ((e.1, e.2, 0) : Lk)) = exA from exA_s]
 rintro e wx1 ⟨vx, rfl, hox, -, hbx1⟩
 obtain ⟨ax, cx, rfl, hrx, -, -, -⟩ := hox.read
 have hBx := bl_trans hbpx hbx1
 clear hpx hox
 go_wp2_with fail
 refine (stree_walk ax cx exA _ hrx (by decide)).mono ?_
 rintro e wx2 ⟨hbx2, ⟨-, sx, dx, T, rfl, hqx, ht, hscx, hsmx⟩ | ⟨hno, -⟩⟩
 rotate_left
 · rw [exA_w] at hno; cases hno
 obtain rfl : T = tA := ht.one exA_t exA_r (by decide) (by decide)
 clear ht
 rw [show tA.length = 1 from rfl]
 have hBx := bl_trans hBx hbx2
 have hpy := pairs_at wx2 rawB 6 rfl (by unfold maxLen; omega)
 have hbpy := bl_alloc wx2 (.cells (pairCells rawB).toArray 62)
 go_wp2_with fail
 refine (of15_walk (some ⟨(wx2).heap.size, 0, none⟩) 6 rawB _ hpy (by decide)).mono ?_
 rw [show rawB.map lkOf = rawB.map (fun e : Int × Int => ((e.1, e.2, 0) : Lk)) from rfl, show sortL (rawB.map fun e : Int × Int => ((e.1, e.2, 0) : Lk)) = exB from exB_s]
 rintro e wy1 ⟨vy, rfl, hoy, -, hby1⟩
 obtain ⟨ay, cy, rfl, hry, -, -, -⟩ := hoy.read
 have hBy := bl_trans hbpy hby1
 clear hpy hoy
 go_wp2_with fail
 refine (stree_walk ay cy exB _ hry (by decide)).mono ?_
 rintro e wy2 ⟨hby2, ⟨-, sy, dy, T, rfl, hqy, ht, hscy, hsmy⟩ | ⟨hno, -⟩⟩
 rotate_left
 · rw [exB_w] at hno; cases hno
 obtain rfl : T = tB := ht.one exB_t exB_r (by decide) (by decide)
 clear ht
 rw [show tB.length = 1 from rfl]
 have hBy := bl_trans hBx (bl_trans hBy hby2)
 have hqx := hqx.below (bl_trans (bl_trans (bl_alloc wx2 _) hby1) hby2)
 have hpz := pairs_at wy2 rawC 5 rfl (by unfold maxLen; omega)
 have hbpz := bl_alloc wy2 (.cells (pairCells rawC).toArray 62)
 go_wp2_with fail
 refine (of15_walk (some ⟨(wy2).heap.size, 0, none⟩) 5 rawC _ hpz (by decide)).mono ?_
 rw [show rawC.map lkOf = rawC.map (fun e : Int × Int => ((e.1, e.2, 0) : Lk)) from rfl, show sortL (rawC.map fun e : Int × Int => ((e.1, e.2, 0) : Lk)) = exC from exC_s]
 rintro e wz1 ⟨vz, rfl, hoz, -, hbz1⟩
 obtain ⟨az, cz, rfl, hrz, -, -, -⟩ := hoz.read
 have hBz := bl_trans hbpz hbz1
 clear hpz hoz
 go_wp2_with fail
 refine (stree_walk az cz exC _ hrz (by decide)).mono ?_
 rintro e wz2 ⟨hbz2, ⟨-, sz, dz, T, rfl, hqz, ht, hscz, hsmz⟩ | ⟨hno, -⟩⟩
 rotate_left
 · rw [exC_w] at hno; cases hno
 obtain rfl : T = tC := ht.one exC_t exC_r (by decide) (by decide)
 clear ht
 rw [show tC.length = 3 from rfl]
 have hBz := bl_trans hBy (bl_trans hBz hbz2)
 have hrz2 := hrz.below hbz2
 have hyz := bl_trans (bl_trans (bl_alloc wy2 (.cells (pairCells rawC).toArray 62)) hbz1) hbz2
 have hqx := hqx.below hyz
 have hqy := hqy.below hyz
 clear hyz hbz2 hbz1 hbpz hby1 hbpy hby2 hbpx hbx1 hbx2
 go_wp2_with fail
 refine (centre_walk sz dz tC _ hqz (by decide)).mono ?_
 rw [exC_c]
 rintro e w5 ⟨a5, c5, rfl, hc5, hb5⟩
 have hB5 := bl_trans hBz hb5
 have hqx := hqx.below hb5
 have hqy := hqy.below hb5
 have hqz := hqz.below hb5
 have hrz := hrz2.below hb5
 clear hb5 hrz2
 obtain ⟨b1, o1, au1, cu1, rfl, x0, x1, -, -, -⟩ := hqx 0 _ rfl
 obtain ⟨b2, o2, au2, cu2, rfl, y0, y1, -, -, -⟩ := hqy 0 _ rfl
 obtain ⟨b3, o3, au3, cu3, rfl, z0, z1, -, -, -⟩ := hqz 0 _ rfl
 obtain ⟨b4, o4, rfl, m0⟩ := hc5 0 _ rfl
 simp only [Nat.zero_mul, Nat.add_zero] at x0 x1 y0 y1 z0 z1 m0
 replace m0 : w5.cell? ⟨b4, o4, none⟩ = some (.int .i64 0) := m0
 replace x0 : w5.cell? ⟨b1, o1, none⟩ = some (.int .i64 1) := x0
 replace y0 : w5.cell? ⟨b2, o2, none⟩ = some (.int .i64 3) := y0
 replace z0 : w5.cell? ⟨b3, o3, none⟩ = some (.int .i64 2) := z0
 replace x1 : w5.cell? ⟨b1, o1 + 1, none⟩ = some (.slice au1 4 cu1) := x1
 replace z1 : w5.cell? ⟨b3, o3 + 1, none⟩ = some (.slice au3 3 cu3) := z1
 go_wp2_with fail
 refine (sright_walk (some ⟨b3, o3, none⟩) dz tC _ hqz (by decide)).mono ?_
 rw [rightB_iff.2 exC_right]
 rintro e w6 ⟨rfl, hb6⟩
 have hqz := hqz.below hb6
 have hrz := hrz.below hb6
 have hB6 := bl_trans hB5 hb6
 go_wp2_with fail
 refine (whole_walk (some ⟨b3, o3, none⟩) dz tC _ hqz (by decide)).mono ?_
 rw [exC_w2]
 rintro e w7 ⟨v7, rfl, ho7, -, hb7⟩
 obtain ⟨a7, c7, rfl, hr7, -, -, -⟩ := ho7.read
 have hrz := hrz.below hb7
 have hB7 := bl_trans hB6 hb7
 go_wp2_with fail
 refine (same_walk a7 az c7 cz exC exC _ hr7 hrz (by decide) (by decide)).mono ?_
 rw [decide_eq_true rfl]
 rintro e w8 ⟨rfl, d, rfl⟩
 have hB8 := below_drewN hB7 d
 go_wp2_with fail
 go_ret
 exact ⟨rfl, hB8⟩
end Go.Proofs.YtagcbnpahgfgmaaGreat
namespace Go.Proofs.YtagcbnpahgfgmaaGreat
open Go Go.RowKit
def twoR (ls : List Lk) : Bool := !(ls.any fun k => k.2.2 != 0) && (decide (ls.length ≤ 40) && (twoL ls && decide (3 ≤ (vertsL ls).length)))
set_option maxHeartbeats 1000000 in
theorem two15_walk (a : Option Addr) (cap : Nat) (ls : List Lk) (w : World) (hr : RdL w a ls) (hcap : ls.length ≤ 9223372036854775807) :
  Calls Tryz.prog 8 #[.slice a ls.length cap] w (RetT w (twoR ls)) := by
 obtain ⟨t, ht⟩ : ∃ t, t = twoR ls := ⟨_, rfl⟩
 rw [← ht]
 have Ht := Lib.hid ht; clear ht
 go_enter Tryz.func8, Tryz.ntmps8
 go_wp2_with fail
 go_loopg [6] ls.length (fun r iv wj => ∃ i : Nat, i + r = ls.length ∧ iv = .int .i64 i ∧ (∀ j (h : j < ls.length), j < i → ls[j].2.2 = 0) ∧ w = wj)
 case atStart => exact ⟨0, by omega, rfl, fun j _ hj => absurd hj (by omega), rfl⟩
 case round =>
  obtain ⟨i, hi, rfl, hall, rfl⟩ := hrel
  have Hi := Lib.hid hi; have Hall := Lib.hid hall
  clear hall
  by_cases hil : i < ls.length
  ·
   clear hi; obtain ⟨b, o, rfl, c0, c1, c2⟩ := hr.at i hil; obtain ⟨⟨x, y, v⟩, hk⟩ : ∃ k : Lk, ls[i] = k := ⟨_, rfl⟩
   rw [hk] at c0 c1 c2; simp only at c0 c1 c2; have Hk := Lib.hid hk; have iI : (i : Int) < (ls.length : Int) := by omega
   clear hk; by_cases hv : v = 0
   ·
    subst hv; go_wp2_with fail; go_roundg (gk - 1)
    case measure => have := Hi.out; omega
    case rel => exact ⟨i + 1, by have := Hi.out; omega, by go_num, fun j hj hji => (by
     by_cases e : j = i
     · subst e; rw [Hk.out]
     · exact Hall.out j hj (by omega)), rfl⟩
   ·
    have e1 : (v == (0 : Int)) = false := by simpa using hv
    have hfin : t = false := by
     rw [Ht.out]; unfold twoR; have h1 : (ls.any fun k => k.2.2 != 0) = true := by
      rw [List.any_eq_true]; exact ⟨_, List.getElem_mem hil, by rw [Hk.out]; simpa using hv⟩
     rw [h1]; rfl
    subst hfin; clear hv; go_wp2_with fail; go_ret; exact ⟨rfl, bl_refl _⟩
  ·
   have hin : i = ls.length := by omega
   subst hin; have hany : (ls.any fun k => k.2.2 != 0) = false := by
    rw [List.any_eq_false]; intro k hk; obtain ⟨j, hj, rfl⟩ := List.getElem_of_mem hk; simpa using Hall.out j hj hj
   have hfin : t = (decide (ls.length ≤ 40) && (twoL ls && decide (3 ≤ (vertsL ls).length))) := by
    rw [Ht.out]; unfold twoR; rw [hany]; rfl
   clear hi hany Ht; by_cases h40 : ls.length ≤ 40
   ·
    have e1 : decide ((ls.length : Int) ≤ 40) = true := by simp; omega
    rw [decide_eq_true h40, Bool.true_and] at hfin; have Hfin := Lib.hid hfin; clear hfin; go_wp2_with fail; refine (two_walk a cap ls _ hr hcap).mono ?_; obtain ⟨u, hu⟩ : ∃ u, u = twoL ls := ⟨_, rfl⟩
    rw [← hu] at Hfin ⊢; rintro e w1 ⟨rfl, hb1⟩; clear hu; cases u with
    | false =>
     go_wp2_with fail; go_ret; exact ⟨by rw [Hfin.out] <;> rfl, hb1⟩
    | true =>
     go_wp2_with fail; refine (verts_walk a cap ls _ (hr.below hb1) (by omega)).mono ?_; rintro e w2 ⟨av, cv, rfl, -, -, -, -, hb2⟩; have hB := bl_trans hb1 hb2; clear hb1 hb2; have e2 : decide ((3 : Int) ≤ ((vertsL ls).length : Int)) = t := by
      rw [Hfin.out, Bool.true_and, decide_eq_decide]; omega
     go_wp2_with fail; go_ret; exact ⟨rfl, hB⟩
   ·
    have e1 : decide ((ls.length : Int) ≤ 40) = false := by simp; omega
    rw [decide_eq_false h40, Bool.false_and] at hfin; subst hfin; clear h40; go_wp2_with fail; go_ret; exact ⟨rfl, bl_refl _⟩
end Go.Proofs.YtagcbnpahgfgmaaGreat
namespace Go.Proofs.YtagcbnpahgfgmaaGreat
namespace Uq
open Classical
structure Gr (α : Type) where
 VS : List Int
 I : α → Int → Prop
variable {α : Type}
def bd (G : Gr α) (X : α → Prop) (v : Int) : Prop := (∃ k, X k ∧ G.I k v) ∧ ∃ k, ¬ X k ∧ G.I k v
noncomputable def lam (G : Gr α) (X : α → Prop) : Nat := (G.VS.filter fun v => decide (bd G X v)).length
structure Ok (G : Gr α) : Prop where
 nd : G.VS.Nodup
 ends : ∀ k v, G.I k v → v ∈ G.VS
 conn : ∀ X : α → Prop, (∃ k, X k) → (∃ k, ¬ X k) → 2 ≤ lam G X
theorem Ok.ge {G : Gr α} (h : Ok G) {X : α → Prop} (h1 : ∃ k, X k) (h2 : ∃ k, ¬ X k) (a : Int) : ∃ v, v ≠ a ∧ bd G X v := by
 refine Classical.byContradiction fun hno => ?_
 have h3 := h.conn X h1 h2
 have hm : ∀ v ∈ (G.VS.filter fun v => decide (bd G X v)), v = a := fun v hv => by
  rw [List.mem_filter, decide_eq_true_eq] at hv
  exact Classical.byContradiction fun hne => hno ⟨v, hne, hv.2⟩
 have hn : (G.VS.filter fun v => decide (bd G X v)).Nodup := h.nd.filter _
 unfold lam at h3
 generalize (G.VS.filter fun v => decide (bd G X v)) = l at h3 hm hn
 match l, h3, hm, hn with
 | x :: y :: r, _, hm, hn =>
  have := hm x (by simp); have := hm y (by simp)
  subst_vars
  simp at hn
theorem sub_le {β : Type} : ∀ {l m : List β}, l.Nodup → (∀ x ∈ l, x ∈ m) → l.length ≤ m.length
 | [], _, _, _ => Nat.zero_le _
 | a :: l, m, hn, h => by
  obtain ⟨m1, m2, rfl⟩ := List.append_of_mem (h a (by simp))
  have hn' := List.nodup_cons.1 hn
  have := sub_le (m := m1 ++ m2) hn'.2 fun x hx => by
   have := h x (by simp [hx])
   simp only [List.mem_append, List.mem_cons] at this ⊢
   rcases this with h1 | rfl | h1
   · exact .inl h1
   · exact absurd hx hn'.1
   · exact .inr h1
  simp at this ⊢
  omega
theorem third {β : Type} {l : List β} (hn : l.Nodup) (h3 : 3 ≤ l.length) (x y : β) : ∃ z ∈ l, z ≠ x ∧ z ≠ y := by
 refine Classical.byContradiction fun hno => ?_
 have hm : ∀ z ∈ l, z = x ∨ z = y := fun z hz => by
  by_cases h1 : z = x
  · exact .inl h1
  · exact .inr (Classical.byContradiction fun h2 => hno ⟨z, hz, h1, h2⟩)
 match l, h3, hm, hn with
 | a :: b :: c :: r, _, hm, hn =>
  have h1 := hm a (by simp); have h2 := hm b (by simp); have h3 := hm c (by simp)
  simp only [List.nodup_cons, List.mem_cons, not_or] at hn
  obtain ⟨⟨n1, n2, _⟩, ⟨n3, _⟩, _⟩ := hn
  rcases h1 with rfl | rfl <;> rcases h2 with rfl | rfl <;> rcases h3 with rfl | rfl <;> simp_all
def Big (X : α → Prop) : Prop := ∃ k m, k ≠ m ∧ X k ∧ X m
end Uq
end Go.Proofs.YtagcbnpahgfgmaaGreat
namespace Go.Proofs.YtagcbnpahgfgmaaGreat
def shr (v : Int) (ys : List Int) : List Int := ys.filter fun w => v == w
def sharedL (xs ys : List Int) : List Int := xs.flatMap fun v => shr v ys
theorem mem_shared {xs ys : List Int} {v : Int} : v ∈ sharedL xs ys ↔ v ∈ xs ∧ v ∈ ys := by
 unfold sharedL shr
 rw [List.mem_flatMap]
 constructor
 ·
  rintro ⟨x, hx, hv⟩
  rw [List.mem_filter, beq_iff_eq] at hv
  obtain ⟨h1, rfl⟩ := hv
  exact ⟨hx, h1⟩
 ·
  rintro ⟨h1, h2⟩
  exact ⟨v, h1, List.mem_filter.2 ⟨h2, by simp⟩⟩
end Go.Proofs.YtagcbnpahgfgmaaGreat
namespace Go.Proofs.YtagcbnpahgfgmaaGreat
theorem grp_share {ls : List Lk} {a b : Int} (hR : RightL ls) {r s : List Lk} {i j : Nat} (G : GrpAt ls [a, b] r i) (H : GrpAt ls [a, b] s j) (hn : ¬ LCon ls [a, b] i j) : ∀ v, v ∈ sharedL (vertsL r) (vertsL s) → v = a ∨ v = b := by
 intro v hv
 obtain ⟨h1, h2⟩ := mem_shared.1 hv
 obtain ⟨e, he, hve⟩ := (mem_vertsL _ v).1 h1
 obtain ⟨f, hf, hvf⟩ := (mem_vertsL _ v).1 h2
 refine Classical.byContradiction fun hno => ?_
 have ht : touchB [a, b] e f = true := (touchB_iff _ _ _).2 ⟨v, by simpa using hno, hve, hvf⟩
 rw [grp_touch hR G H hn he hf] at ht; cases ht
end Go.Proofs.YtagcbnpahgfgmaaGreat
namespace Go.Proofs.YtagcbnpahgfgmaaGreat
theorem least {P : Nat → Prop} {n : Nat} (h : P n) : ∃ m, P m ∧ m ≤ n ∧ ∀ k, k < m → ¬ P k := by
 induction n using Nat.strongRecOn with
 | _ n ih =>
  by_cases hk : ∃ k, k < n ∧ P k
  ·
   obtain ⟨k, hk, hp⟩ := hk; obtain ⟨m, h1, h2, h3⟩ := ih k hk hp; exact ⟨m, h1, by omega, h3⟩
  · exact ⟨n, h, Nat.le_refl _, fun k hkn hp => hk ⟨k, hkn, hp⟩⟩
theorem first_ex {B : Nat → Nat → Bool} {n i k : Nat} (hik : i < k) (hk : k < n) (hb : B i k = true) : ∃ i' k', FirstAt B n i' k' := by
 obtain ⟨i', ⟨k1, h1, h2, h3⟩, _, hmin⟩ := least (P := fun i => ∃ k, i < k ∧ k < n ∧ B i k = true) ⟨k, hik, hk, hb⟩
 obtain ⟨k', ⟨h4, h5, h6⟩, _, hmin2⟩ := least (P := fun k => i' < k ∧ k < n ∧ B i' k = true) ⟨h1, h2, h3⟩
 refine ⟨i', k', h4, h5, h6, fun k2 a1 a2 => ?_, fun i2 k2 a1 a2 a3 => ?_⟩
 ·
  cases h : B i' k2 with
  | false => rfl
  | true => exact absurd ⟨a1, by omega, h⟩ (hmin2 k2 a2)
 ·
  cases h : B i2 k2 with
  | false => rfl
  | true => exact absurd ⟨k2, a2, a3, h⟩ (hmin i2 a1)
noncomputable def noneP (ls : List Lk) : Bool := !(firstL ls).2.2.1 && (firstL ls).2.2.2 == 0
theorem noneP_iff {ls : List Lk} (h : twoL ls = true) : noneP ls = true ↔ ∀ i k, i < k → k < (vertsL ls).length → pairAt ls i k = false := by
 unfold noneP
 constructor
 ·
  intro hn i k hik hk
  cases hb : pairAt ls i k with
  | false => rfl
  | true =>
   obtain ⟨i', k', hf⟩ := first_ex hik hk hb; rw [first_at h hf] at hn; simp at hn
 ·
  intro hn
  rw [first_none h hn]; rfl
theorem noneP_v {ls : List Lk} (h : twoL ls = true) : noneP ls = true ↔ ∀ x y, x ∈ vertsL ls → y ∈ vertsL ls → x < y → pairP ls x y = false := by
 rw [noneP_iff h]
 have hs := vertsL_sorted ls
 constructor
 ·
  intro hn x y hx hy hxy
  obtain ⟨i, hi, rfl⟩ := List.getElem_of_mem hx
  obtain ⟨k, hk, rfl⟩ := List.getElem_of_mem hy
  have hik : i < k := by
   rcases Nat.lt_trichotomy i k with e | e | e
   · exact e
   · subst e; omega
   · have := List.pairwise_iff_getElem.1 hs k i hk hi e; omega
  have := hn i k hik hk
  unfold pairAt at this
  simpa [List.getD, hi, hk] using this
 ·
  intro hn i k hik hk
  unfold pairAt
  have hi : i < (vertsL ls).length := by omega
  have := hn _ _ (List.getElem_mem hi) (List.getElem_mem hk) (List.pairwise_iff_getElem.1 hs i k hi hk hik)
  simpa [List.getD, hi, hk] using this
theorem none_few {ls : List Lk} (h : twoL ls = true) (h3 : ls.length ≤ 3) : noneP ls = true := by
 rw [noneP_v h]
 intro x y _ _ _
 have hR := two_right h
 cases hb : pairP ls x y with
 | false => rfl
 | true =>
  obtain ⟨i, k, _, _, h1, h2⟩ := (parts_ref _ (lens_pos hR)).1 hb
  rw [lens_sum hR] at h2; omega
theorem pairP_false {ls : List Lk} {a b : Int} (h : twoL ls = true) (h3 : 3 ≤ (vertsL ls).length) : pairP ls a b = false ↔ ¬ SplitV ls a b ∧ (dirsL ls a b).length ≤ 1 := by
 have := pair_iff (a := a) (b := b) h h3
 constructor
 ·
  intro hf
  rw [hf] at this
  have hn : SplitV ls a b ∨ 2 ≤ (dirsL ls a b).length → False := fun e => by have := this.2 e; simp at this
  exact ⟨fun e => hn (.inl e), Nat.le_of_not_lt fun e => hn (.inr e)⟩
 ·
  rintro ⟨h1, h2⟩
  cases hb : pairP ls a b with
  | false => rfl
  | true =>
   rcases this.1 hb with e | e
   · exact absurd e h1
   · omega
theorem tri_sum {v0 v1 v2 : Int} (h01 : v0 ≠ v1) (h02 : v0 ≠ v2) (h12 : v1 ≠ v2) : ∀ ls : List Lk, (∀ k ∈ ls, k.1 ∈ [v0, v1, v2] ∧ k.2.1 ∈ [v0, v1, v2] ∧ k.1 ≠ k.2.1) →
  ls.length = (dirsL ls v0 v1).length + (dirsL ls v0 v2).length + (dirsL ls v1 v2).length := by
 intro ls
 induction ls with
 | nil => intro _; rfl
 | cons k ls ih =>
  intro hk
  have ih' := ih fun k hk' => hk k (by simp [hk'])
  obtain ⟨k1, k2, k3⟩ := hk k (by simp)
  have hc : ∀ a b, (dirsL (k :: ls) a b).length = (if DirL a b k then 1 else 0) + (dirsL ls a b).length := fun a b => by
   unfold dirsL; rw [List.filter_cons]; by_cases h : DirL a b k <;> simp [h]; omega
  rw [hc, hc, hc, List.length_cons]
  have hone : (if DirL v0 v1 k then 1 else 0) + (if DirL v0 v2 k then 1 else 0) + (if DirL v1 v2 k then 1 else 0) = 1 := by
   unfold DirL; simp only [List.mem_cons, List.not_mem_nil, or_false] at k1 k2 ⊢; obtain ⟨p, q, z⟩ := k; simp only at k1 k2 k3 ⊢; rcases k1 with rfl | rfl | rfl <;> rcases k2 with rfl | rfl | rfl <;> first | exact absurd rfl k3 | (simp [h01, h02, h12, h01.symm, h02.symm, h12.symm])
  omega
theorem none_three {ls : List Lk} (h : twoL ls = true) (h3 : (vertsL ls).length = 3) : noneP ls = true ↔ ls.length = 3 := by
 have hR := two_right h
 have hs := vertsL_sorted ls
 match hv : vertsL ls, h3 with
 | [v0, v1, v2], _ =>
  rw [hv] at hs
  simp at hs
  have hm := fun z => mem_vertsL ls z
  rw [hv] at hm
  have hsum := tri_sum (v0 := v0) (v1 := v1) (v2 := v2) (by omega) (by omega) (by omega) ls fun k hk => ⟨(hm _).2 ⟨k, hk, .inl rfl⟩, (hm _).2 ⟨k, hk, .inr rfl⟩, by have := (hR.2.1 k hk).2.1; omega⟩
  have hin : ∀ z, z ∈ [v0, v1, v2] → z ∈ vertsL ls := fun z hz => by rw [hv]; exact hz
  have hge : ∀ x y z, x ∈ [v0, v1, v2] → y ∈ [v0, v1, v2] → z ∈ [v0, v1, v2] → x ≠ y → x ≠ z → y ≠ z → (∀ t, t ∈ [v0, v1, v2] → t ≠ z → t ∈ [x, y]) → 1 ≤ (dirsL ls x y).length := by
   intro x y z hx hy hz hxy hxz hyz hrest; have hc := two_con1 h (by rw [hv]; simp) (hin z hz) (hin x hx) (hin y hy) hxz hyz; cases hc with
   | refl => exact absurd rfl hxy
   | step _c0 h1 h2 h3 h4 =>
    rename_i k; have e1 := hrest k.1 ((hm _).2 ⟨k, h1, .inl rfl⟩) (by simpa using h2); have e2 := hrest k.2.1 ((hm _).2 ⟨k, h1, .inr rfl⟩) (by simpa using h3); exact List.length_pos_of_mem (List.mem_filter.2 ⟨h1, by simpa [DirL] using ⟨by simpa using e1, by simpa using e2⟩⟩)
  have g01 := hge v0 v1 v2 (by simp) (by simp) (by simp) (by omega) (by omega) (by omega) (by intro t ht hn; simp at ht ⊢; omega)
  have g02 := hge v0 v2 v1 (by simp) (by simp) (by simp) (by omega) (by omega) (by omega) (by intro t ht hn; simp at ht ⊢; omega)
  have g12 := hge v1 v2 v0 (by simp) (by simp) (by simp) (by omega) (by omega) (by omega) (by intro t ht hn; simp at ht ⊢; omega)
  have hns : ∀ x y z, x ∈ [v0, v1, v2] → y ∈ [v0, v1, v2] → (∀ t, t ∈ [v0, v1, v2] → t ∉ [x, y] → t = z) → ¬ SplitV ls x y := by
   rintro x y z hx hy hrest ⟨s, t, hs', ht', hsn, htn, hc⟩; rw [hv] at hs' ht'; have e1 := hrest s hs' hsn; have e2 := hrest t ht' htn; rw [e1, e2] at hc; exact hc .refl
  have n01 := hns v0 v1 v2 (by simp) (by simp) (by intro t ht hn; simp at ht hn; omega)
  have n02 := hns v0 v2 v1 (by simp) (by simp) (by intro t ht hn; simp at ht hn; omega)
  have n12 := hns v1 v2 v0 (by simp) (by simp) (by intro t ht hn; simp at ht hn; omega)
  have h3' : 3 ≤ (vertsL ls).length := by rw [hv]; simp
  rw [noneP_v h]
  constructor
  ·
   intro hn; have d01 := ((pairP_false h h3').1 (hn v0 v1 (hin _ (by simp)) (hin _ (by simp)) (by omega))).2; have d02 := ((pairP_false h h3').1 (hn v0 v2 (hin _ (by simp)) (hin _ (by simp)) (by omega))).2; have d12 := ((pairP_false h h3').1 (hn v1 v2 (hin _ (by simp)) (hin _ (by simp)) (by omega))).2; omega
  ·
   intro hl x y hx hy hxy; rw [hv] at hx hy; rw [pairP_false h h3']; simp only [List.mem_cons, List.not_mem_nil, or_false] at hx hy; rcases hx with rfl | rfl | rfl <;> rcases hy with rfl | rfl | rfl <;> first | omega | exact ⟨by assumption, by omega⟩
def leftL (ls : List Lk) (x y : Int) : List Lk := ls.filter fun e => decide (e.1 ≠ x) && decide (e.1 ≠ y) && decide (e.2.1 ≠ x) && decide (e.2.1 ≠ y)
theorem mem_left {ls : List Lk} {x y : Int} {e : Lk} : e ∈ leftL ls x y ↔ e ∈ ls ∧ e.1 ∉ [x, y] ∧ e.2.1 ∉ [x, y] := by
 unfold leftL
 rw [List.mem_filter]
 simp [and_assoc]
def okP (ls : List Lk) (x y : Int) : Bool := ((vertsL ls).length == 4 && (leftL ls x y).length == 1) || (((vertsL (leftL ls x y)).length == (vertsL ls).length - 2) && joinedL (leftL ls x y))
theorem joined_iff {l : List Lk} (hR : RightL l) (hne : l ≠ []) : joinedL l = true ↔ ∀ u v, u ∈ vertsL l → v ∈ vertsL l → VCon l [] u v := by
 unfold joinedL
 rw [beq_iff_eq, groups_one_v ((rightL_iff l).2 hR) hne (by simp)]
 simp
theorem joined_ne {l : List Lk} (h : joinedL l = true) : l ≠ [] := fun e => by subst e; exact absurd h (by decide)
theorem len_sub2 {vs : List Int} (hn : vs.Nodup) {x y : Int} (hx : x ∈ vs) (hy : y ∈ vs) (hxy : x ≠ y) : ((vs.filter fun z => decide (z ∉ [x, y])).length + 2) = vs.length := by
 have h1 : (vs.filter fun z => decide (z ∉ [x, y])).length + (vs.filter fun z => !decide (z ∉ [x, y])).length = vs.length := by
  clear hn hx hy
  induction vs with
  | nil => rfl
  | cons v vs ih =>
   rw [List.filter_cons, List.filter_cons, List.length_cons]; by_cases h : v ∉ [x, y]
   · simp only [h, not_false_eq_true, decide_true, if_true, Bool.not_true, Bool.false_eq_true, if_false, List.length_cons]; omega
   · simp only [h, decide_false, Bool.false_eq_true, if_false, Bool.not_false, if_true, List.length_cons]; omega
 have h2 : (vs.filter fun z => !decide (z ∉ [x, y])).length = 2 := by
  have hl : (vs.filter fun z => !decide (z ∉ [x, y])).Nodup := hn.filter _
  have e1 := nodup_len_leZ (m := [x, y]) hl fun z hz => by
   have := (List.mem_filter.1 hz).2; simpa using this
  have e2 := nodup_len_leZ (l := [x, y]) (m := vs.filter fun z => !decide (z ∉ [x, y])) (by simpa using hxy) fun z hz => by
   rw [List.mem_filter]; refine ⟨?_, by simpa using hz⟩; simp at hz; rcases hz with rfl | rfl <;> assumption
  have e3 : [x, y].length = 2 := rfl
  omega
 omega
theorem ok_iff {ls : List Lk} (h : twoL ls = true) (h4 : 4 ≤ (vertsL ls).length) {x y : Int} (hx : x ∈ vertsL ls) (hy : y ∈ vertsL ls) (hxy : x ≠ y) : okP ls x y = true ↔ ¬ SplitV ls x y := by
 have hR := two_right h
 have hlR : RightL (leftL ls x y) := right_sub hR List.filter_sublist
 have hfl := len_sub2 (verts_nodup ls) hx hy hxy
 obtain ⟨F, hF⟩ : ∃ F, F = (vertsL ls).filter fun z => decide (z ∉ [x, y]) := ⟨_, rfl⟩
 rw [← hF] at hfl
 have hFn : F.Nodup := by rw [hF]; exact (verts_nodup ls).filter _
 have hFm : ∀ z, z ∈ F ↔ z ∈ vertsL ls ∧ z ∉ [x, y] := fun z => by rw [hF, List.mem_filter]; simp
 have hsub : ∀ z, z ∈ vertsL (leftL ls x y) → z ∈ F := fun z hz => by
  obtain ⟨e, he, hze⟩ := (mem_vertsL _ z).1 hz
  obtain ⟨h1, h2, h3⟩ := mem_left.1 he
  refine (hFm z).2 ⟨(mem_vertsL _ z).2 ⟨e, h1, hze⟩, ?_⟩
  rcases hze with rfl | rfl <;> assumption
 constructor
 ·
  rintro hok ⟨s, t, hs, ht, hsn, htn, hc⟩
  have hsF := (hFm s).2 ⟨hs, hsn⟩
  have htF := (hFm t).2 ⟨ht, htn⟩
  unfold okP at hok
  rw [Bool.or_eq_true, Bool.and_eq_true, Bool.and_eq_true, beq_iff_eq, beq_iff_eq, beq_iff_eq] at hok
  rcases hok with ⟨e4, e1⟩ | ⟨e1, e2⟩
  ·
   obtain ⟨e, he⟩ := List.length_eq_one_iff.1 e1; have hem : e ∈ leftL ls x y := by rw [he]; simp
   obtain ⟨h1, h2, h3⟩ := mem_left.1 hem; have hlt := (hR.2.1 e h1).2.1; have a1 := (hFm e.1).2 ⟨(mem_vertsL _ _).2 ⟨e, h1, .inl rfl⟩, h2⟩; have a2 := (hFm e.2.1).2 ⟨(mem_vertsL _ _).2 ⟨e, h1, .inr rfl⟩, h3⟩; have hall : ∀ z, z ∈ F → z = e.1 ∨ z = e.2.1 := fun z hz => by
    refine Classical.byContradiction fun hno => ?_
    have := nodup_len_leZ (l := [e.1, e.2.1, z]) (m := F) (by
     simp
     refine ⟨⟨by omega, fun e => hno (.inl e.symm)⟩, fun e => hno (.inr e.symm)⟩) fun w hw => by
      simp at hw; rcases hw with rfl | rfl | rfl <;> assumption
    simp at this; omega
   have hlk := VCon.link h1 h2 h3; rcases hall s hsF with rfl | rfl <;> rcases hall t htF with rfl | rfl
   · exact hc .refl
   · exact hc hlk
   · exact hc hlk.symm
   · exact hc .refl
  ·
   have hback : ∀ z, z ∈ F → z ∈ vertsL (leftL ls x y) := fun z hz => by
    refine Classical.byContradiction fun hno => ?_; have := nodup_len_leZ (l := z :: vertsL (leftL ls x y)) (m := F) (List.nodup_cons.2 ⟨hno, verts_nodup _⟩) fun w hw => by
     rcases List.mem_cons.1 hw with rfl | hw
     · exact hz
     · exact hsub w hw
    simp at this; omega
   have hj := (joined_iff hlR (joined_ne e2)).1 e2 s t (hback s hsF) (hback t htF); refine hc ?_; have conv : ∀ w, VCon (leftL ls x y) [] s w → VCon ls [x, y] s w := fun w hw => by
    induction hw with
    | refl => exact .refl
    | step _c0 h1 h2 h3 h4 ih =>
     obtain ⟨b1, b2, b3⟩ := mem_left.1 h1; exact ih.step b1 b2 b3 h4
   exact conv t hj
 ·
  intro hns
  have hcon : ∀ s t, s ∈ F → t ∈ F → VCon ls [x, y] s t := fun s t hs ht => Classical.byContradiction fun hc => hns ⟨s, t, ((hFm s).1 hs).1, ((hFm t).1 ht).1, ((hFm s).1 hs).2, ((hFm t).1 ht).2, hc⟩
  have hback : ∀ z, z ∈ F → z ∈ vertsL (leftL ls x y) := fun z hz => by
   have hex : ∃ w ∈ F, w ≠ z := by
    refine Classical.byContradiction fun hno => ?_; have := nodup_len_leZ (l := F) (m := [z]) hFn fun w hw => by
     simp; exact Classical.byContradiction fun e => hno ⟨w, hw, e⟩
    simp at this; omega
   obtain ⟨w, hw, hwz⟩ := hex; have := hcon w z hw hz; cases this with
   | refl => exact absurd rfl hwz
   | step _c0 h1 h2 h3 h4 =>
    rename_i k; refine (mem_vertsL _ z).2 ⟨k, mem_left.2 ⟨h1, h2, h3⟩, ?_⟩; rcases h4 with ⟨_, e⟩ | ⟨_, e⟩ <;> first | exact .inr e | exact .inl e
  have e1 : (vertsL (leftL ls x y)).length + 2 = (vertsL ls).length := by
   have a1 := nodup_len_leZ (verts_nodup (leftL ls x y)) hsub; have a2 := nodup_len_leZ hFn hback; omega
  have hne : leftL ls x y ≠ [] := fun e => by
   rw [e, show (vertsL []).length = 0 from rfl] at e1; omega
  have e2 : joinedL (leftL ls x y) = true := (joined_iff hlR hne).2 fun u v hu hv => by
   have hc := hcon u v (hsub u hu) (hsub v hv); have conv : ∀ w, VCon ls [x, y] u w → VCon (leftL ls x y) [] u w := fun w hw => by
    induction hw with
    | refl => exact .refl
    | step _c0 h1 h2 h3 h4 ih => exact ih.step (mem_left.2 ⟨h1, h2, h3⟩) (by simp) (by simp) h4
   exact conv v hc
  unfold okP
  rw [e2]
  have : (vertsL (leftL ls x y)).length = (vertsL ls).length - 2 := by omega
  simp [this]
def sameB (ls : List Lk) (i k : Nat) : Bool := match ls[i]?, ls[k]? with
 | some e, some f => e.1 == f.1 && e.2.1 == f.2.1
 | _, _ => false
def sideB (ls : List Lk) : Bool := (List.range ls.length).any fun i => (List.range i).any fun k => sameB ls i k
theorem side_iff {ls : List Lk} (h : twoL ls = true) : sideB ls = false ↔ ∀ x y, x ∈ vertsL ls → y ∈ vertsL ls → x < y → (dirsL ls x y).length ≤ 1 := by
 have hR := two_right h
 have hnd := right_nodup hR
 constructor
 ·
  intro hs x y hx hy hxy
  refine Nat.le_of_not_lt fun h2 => ?_
  obtain ⟨e, f, he, hf, hfe, hde, hdf⟩ := dirs_two h2 hnd
  obtain ⟨i, hi⟩ := List.getElem?_of_mem he
  obtain ⟨k, hk⟩ := List.getElem?_of_mem hf
  have l1 := (hR.2.1 e he).2.1
  have l2 := (hR.2.1 f hf).2.1
  unfold DirL at hde hdf
  simp only [List.mem_cons, List.not_mem_nil, or_false] at hde hdf
  have q1 : e.1 = f.1 ∧ e.2.1 = f.2.1 := by omega
  have hne : i ≠ k := fun e2 => by subst e2; rw [hi] at hk; exact hfe (Option.some.inj hk).symm
  have hil := (List.getElem?_eq_some_iff.1 hi).1
  have hkl := (List.getElem?_eq_some_iff.1 hk).1
  have hany : ∀ a b, a < ls.length → b < a → sameB ls a b = true → sideB ls = true := fun a b ha hb hab => by
   unfold sideB; exact List.any_eq_true.2 ⟨a, List.mem_range.2 ha, List.any_eq_true.2 ⟨b, List.mem_range.2 hb, hab⟩⟩
  rcases Nat.lt_or_gt_of_ne hne with hlt | hlt
  · rw [hany k i hkl hlt (by unfold sameB; rw [hi, hk]; simp [q1.1, q1.2])] at hs; cases hs
  · rw [hany i k hil hlt (by unfold sameB; rw [hi, hk]; simp [q1.1, q1.2])] at hs; cases hs
 ·
  intro hd
  cases hs : sideB ls with
  | false => rfl
  | true =>
   unfold sideB at hs; obtain ⟨i, hi, hs⟩ := List.any_eq_true.1 hs; obtain ⟨k, hk, hs⟩ := List.any_eq_true.1 hs; rw [List.mem_range] at hi hk; have hei : ls[i]? = some ls[i] := List.getElem?_eq_getElem hi; have hek : ls[k]? = some (ls[k]'(by omega)) := List.getElem?_eq_getElem (by omega); unfold sameB at hs; rw [hei, hek] at hs; simp at hs; have hm := List.getElem_mem hi; have hm2 : ls[k]'(by omega) ∈ ls := List.getElem_mem _; have l1 := (hR.2.1 _ hm).2.1; have := hd ls[i].1 ls[i].2.1 ((mem_vertsL _ _).2 ⟨_, hm, .inl rfl⟩) ((mem_vertsL _ _).2 ⟨_, hm, .inr rfl⟩) l1
   have h2 := dirs_of (a := ls[i].1) (b := ls[i].2.1) hm hm2 (fun e => by
    have := nodup_idx hnd hek (by rw [hei, e])
    omega) (by unfold DirL; simp) (by unfold DirL; rw [← hs.1, ← hs.2]; simp)
   omega
def rigidB (ls : List Lk) : Bool := decide (4 ≤ (vertsL ls).length) && !sideB ls && (vertsL ls).all fun x => (vertsL ls).all fun y => decide (y ≤ x) || okP ls x y
theorem rigid_iff {ls : List Lk} (h : twoL ls = true) (h4 : 4 ≤ (vertsL ls).length) : rigidB ls = true ↔ noneP ls = true := by
 have h3 : 3 ≤ (vertsL ls).length := by omega
 rw [noneP_v h]
 unfold rigidB
 simp only [Bool.and_eq_true, decide_eq_true_eq, Bool.not_eq_true', List.all_eq_true, Bool.or_eq_true]
 rw [side_iff h]
 constructor
 ·
  rintro ⟨⟨_, hs⟩, hr⟩ x y hx hy hxy
  rw [pairP_false h h3]
  exact ⟨(ok_iff h h4 hx hy (by omega)).1 ((hr x hx y hy).resolve_left (by omega)), hs x y hx hy hxy⟩
 ·
  intro hn
  refine ⟨⟨h4, fun x y hx hy hxy => ((pairP_false h h3).1 (hn x y hx hy hxy)).2⟩, fun x hx y hy => ?_⟩
  by_cases hxy : y ≤ x
  · exact .inl hxy
  · exact .inr ((ok_iff h h4 hx hy (by omega)).2 ((pairP_false h h3).1 (hn x y hx hy (by omega))).1)
def wantN (ls : List Lk) : Bool := decide (ls.length ≤ 2) || (((vertsL ls).length == 2) && (ls.length == 3)) || (((vertsL ls).length == 3) && (ls.length == 3)) || rigidB ls
theorem want_none {ls : List Lk} (h : twoL ls = true) : noneP ls = wantN ls := by
 rw [Bool.eq_iff_iff]
 unfold wantN
 have hv := two_verts h
 by_cases h2 : ls.length ≤ 2
 ·
  simp only [h2, decide_true, Bool.true_or, iff_true]
  exact none_few h (by omega)
 ·
  simp only [h2, decide_false, Bool.false_or]
  by_cases v2 : (vertsL ls).length = 2
  ·
   have hr : rigidB ls = false := by unfold rigidB; simp; omega
   simp only [v2, beq_self_eq_true, Bool.true_and, hr, Bool.or_false, show ((2 : Nat) == 3) = false from rfl, Bool.false_and, beq_iff_eq]; rw [noneP_iff h]; constructor
   ·
    intro hn; have := hn 0 1 (by omega) (by omega); rw [pair_small (two_right h) v2] at this; simp at this; omega
   ·
    intro hl i k hik hk; obtain rfl : k = 1 := by omega
    obtain rfl : i = 0 := by omega
    rw [pair_small (two_right h) v2]; simp; omega
  ·
   by_cases v3 : (vertsL ls).length = 3
   ·
    have hr : rigidB ls = false := by unfold rigidB; simp; omega
    simp only [v3, hr, Bool.or_false, show ((3 : Nat) == 2) = false from rfl, Bool.false_and, Bool.false_or, beq_self_eq_true, Bool.true_and, beq_iff_eq]; exact none_three h v3
   ·
    have e2 : ((vertsL ls).length == 2) = false := by simpa using v2
    have e3 : ((vertsL ls).length == 3) = false := by simpa using v3
    simp only [e2, e3, Bool.false_and, Bool.false_or]; exact (rigid_iff h (by omega)).symm
end Go.Proofs.YtagcbnpahgfgmaaGreat
namespace Go.Proofs.YtagcbnpahgfgmaaGreat
def AtL (e : Lk) (v : Int) : Prop := v = e.1 ∨ v = e.2.1
def bdL (p : List Lk) (Y : Lk → Prop) (v : Int) : Prop := (∃ e ∈ p, Y e ∧ AtL e v) ∧ ∃ f ∈ p, ¬ Y f ∧ AtL f v
def ConL (p : List Lk) : Prop := ∀ Y : Lk → Prop, (∃ e ∈ p, Y e) → (∃ f ∈ p, ¬ Y f) → ∀ a, ∃ v, v ≠ a ∧ bdL p Y v
theorem AtL.vert {p : List Lk} {e : Lk} {v : Int} (he : e ∈ p) (h : AtL e v) : v ∈ vertsL p := (mem_vertsL p v).2 ⟨e, he, h⟩
theorem vcon_bd {p : List Lk} {wo : List Int} {u w : Int} {Y : Lk → Prop} (h : VCon p wo u w) (hn : ∀ v, bdL p Y v → v ∈ wo) (hu : u ∉ wo) (hu2 : ∃ e ∈ p, Y e ∧ AtL e u) : w ∉ wo ∧ ∃ e ∈ p, Y e ∧ AtL e w := by
 induction h with
 | refl => exact ⟨hu, hu2⟩
 | @step y z k _ hk h1 h2 h3 ih =>
  obtain ⟨hy, e, he, hYe, hey⟩ := ih
  have hyk : AtL k y := by
   rcases h3 with ⟨e1, _⟩ | ⟨e1, _⟩
   · exact .inl e1
   · exact .inr e1
  have hzk : AtL k z ∧ z ∉ wo := by
   rcases h3 with ⟨_, e1⟩ | ⟨_, e1⟩
   · exact ⟨.inr e1, e1 ▸ h2⟩
   · exact ⟨.inl e1, e1 ▸ h1⟩
  have hYk : Y k := Classical.byContradiction fun hno => hy (hn y ⟨⟨e, he, hYe, hey⟩, k, hk, hno, hyk⟩)
  exact ⟨hzk.2, k, hk, hYk, hzk.1⟩
theorem con_two {p : List Lk} (h : twoL p = true) : ConL p := by
 intro Y ⟨e, he, hYe⟩ ⟨f, hf, hYf⟩ a
 refine Classical.byContradiction fun hno => ?_
 have hn : ∀ v, bdL p Y v → v = a := fun v hv => Classical.byContradiction fun hne => hno ⟨v, hne, hv⟩
 have hR := two_right h
 have ends : ∀ k ∈ p, ∃ u, u ≠ a ∧ AtL k u ∧ u ∈ vertsL p := fun k hk => by
  have ok := (hR.2.1 k hk).2.1
  by_cases h1 : k.1 = a
  ·
   have : AtL k k.2.1 := .inr rfl; exact ⟨k.2.1, by omega, this, this.vert hk⟩
  ·
   have : AtL k k.1 := .inl rfl; exact ⟨k.1, h1, this, this.vert hk⟩
 obtain ⟨u, u1, u2, u3⟩ := ends e he
 obtain ⟨w, w1, w2, w3⟩ := ends f hf
 have fin : (∃ k ∈ p, Y k ∧ AtL k w) → False := fun hw => w1 (hn w ⟨hw, f, hf, hYf, w2⟩)
 by_cases ha : a ∈ vertsL p
 ·
  by_cases h3 : 3 ≤ (vertsL p).length
  · exact fin (vcon_bd (two_con1 h h3 ha u3 w3 u1 w1) (fun v hv => by simp [hn v hv]) (by simpa using u1) ⟨e, he, hYe, u2⟩).2
  ·
   have : u = w := Classical.byContradiction fun hne => by
    have := nodup_len_leZ (l := [a, u, w]) (m := vertsL p) (by
     have := fun e : a = u => u1 e.symm; have := fun e : a = w => w1 e.symm
     simp; exact ⟨⟨by assumption, by assumption⟩, hne⟩) (fun x hx => by
     simp only [List.mem_cons, List.not_mem_nil, or_false] at hx
     rcases hx with rfl | rfl | rfl <;> assumption)
    simp only [List.length_cons, List.length_nil] at this; omega
   exact fin ⟨e, he, hYe, this ▸ u2⟩
 ·
  exact fin (vcon_bd (two_con0 h u3 w3) (fun v hv => absurd (hn v hv) fun e1 => ha (by
   obtain ⟨⟨k, hk, _, hkv⟩, _⟩ := hv
   rw [← e1]; exact hkv.vert hk)) (by simp) ⟨e, he, hYe, u2⟩).2
theorem same_end {p : List Lk} {wo : List Int} {k : Lk} (hk : k ∈ p) {x y : Int} (hx : AtL k x) (hy : AtL k y) (h1 : x ∉ wo) (h2 : y ∉ wo) : VCon p wo x y := by
 rcases hx with rfl | rfl <;> rcases hy with rfl | rfl
 · exact .refl
 · exact VCon.link hk h1 h2
 · exact (VCon.link hk h2 h1).symm
 · exact .refl
theorem con_vc {p : List Lk} (h : ConL p) {wo : List Int} {a : Int} (hwo : ∀ x ∈ wo, x = a) {u w : Int} (hu : u ∈ vertsL p) (hw : w ∈ vertsL p) (hu1 : u ∉ wo) (hw1 : w ∉ wo) : VCon p wo u w := by
 refine Classical.byContradiction fun hno => ?_
 obtain ⟨k, hk, hku⟩ := (mem_vertsL p u).1 hu
 obtain ⟨m, hm, hmw⟩ := (mem_vertsL p w).1 hw
 obtain ⟨v, hva, ⟨e, he, ⟨z, z1, z2, z3⟩, hev⟩, f, hf, hYf, hfv⟩ := h (fun k => ∃ z, AtL k z ∧ z ∉ wo ∧ VCon p wo u z) ⟨k, hk, u, hku, hu1, .refl⟩
  ⟨m, hm, fun ⟨z, z1, z2, z3⟩ => hno (z3.trans (same_end hm z1 hmw z2 hw1))⟩ a
 have hvw : v ∉ wo := fun hv => hva (hwo v hv)
 exact hYf ⟨v, hfv, hvw, z3.trans (same_end he z1 hev z2 hvw)⟩
theorem two_con {p : List Lk} (hR : RightL p) (hne : p ≠ []) (h : ConL p) : twoL p = true := by
 have hr := (rightL_iff p).2 hR
 unfold twoL joinedL
 simp only [Bool.and_eq_true, beq_iff_eq, Bool.or_eq_true, List.all_eq_true]
 refine ⟨(groups_one_v hr hne (by simp)).2 fun u v hu hv h1 h2 => con_vc h (a := 0) (by simp) hu hv h1 h2, .inr fun v _ => ?_⟩
 exact (groups_one_v hr hne (by simp)).2 fun u w hu hw h1 h2 => con_vc h (a := v) (by simp) hu hw h1 h2
abbrev Al (ls : List Lk) := {k : Lk // k ∈ ls}
def grL (ls : List Lk) : Uq.Gr (Al ls) := ⟨vertsL ls, fun k v => AtL k.1 v⟩
theorem ok_grL {ls : List Lk} (h : twoL ls = true) : Uq.Ok (grL ls) := by
 refine ⟨verts_nodup ls, fun k v hk => AtL.vert k.2 hk, fun X ⟨k, hk⟩ ⟨m, hm⟩ => ?_⟩
 have hc := con_two h (fun k => ∃ hk : k ∈ ls, X ⟨k, hk⟩) ⟨k.1, k.2, k.2, hk⟩ ⟨m.1, m.2, fun ⟨_, hx⟩ => hm hx⟩
 obtain ⟨v, _, hv⟩ := hc 0
 obtain ⟨w, hwv, hw⟩ := hc v
 have tr : ∀ v, bdL ls (fun k => ∃ hk : k ∈ ls, X ⟨k, hk⟩) v → v ∈ (grL ls).VS.filter fun v => @decide (Uq.bd (grL ls) X v) (Classical.propDecidable _) := fun v hv => by
  obtain ⟨⟨e, he, ⟨he', hX⟩, hev⟩, f, hf, hnf, hfv⟩ := hv
  rw [List.mem_filter]
  refine ⟨AtL.vert he hev, ?_⟩
  simp only [decide_eq_true_eq]
  exact ⟨⟨⟨e, he⟩, hX, hev⟩, ⟨f, hf⟩, fun hx => hnf ⟨hf, hx⟩, hfv⟩
 have := nodup_len_leZ (l := [w, v]) (by simpa using hwv) (fun x hx => by
  simp only [List.mem_cons, List.not_mem_nil, or_false] at hx
  rcases hx with rfl | rfl
  · exact tr _ hw
  · exact tr _ hv)
 simpa [Uq.lam] using this
structure DPart (ls : List Lk) (p : List Lk) (β : Lk → Al ls → Prop) : Prop where
 ne : ∀ e ∈ p, ∃ m, β e m
 cover : ∀ m, ∃ e ∈ p, β e m
 disj : ∀ e ∈ p, ∀ f ∈ p, ∀ m, β e m → β f m → e = f
 nd : p.Nodup
 three : 3 ≤ p.length
 ends : ∀ e ∈ p, ∀ v, Uq.bd (grL ls) (β e) v ↔ AtL e v
 ok : ∀ e ∈ p, e.1 ≠ e.2.1
 real : ∀ e ∈ p, e.2.2 = 0 → ∀ m, β e m ↔ m.1 = e
 big : ∀ e ∈ p, e.2.2 ≠ 0 → Uq.Big (β e)
def upB {ls : List Lk} (p : List Lk) (β : Lk → Al ls → Prop) (Y : Lk → Prop) : Al ls → Prop := fun m => ∃ e ∈ p, Y e ∧ β e m
namespace DPart
variable {ls p q : List Lk} {β γ : Lk → Al ls → Prop}
theorem perm (h : DPart ls p β) (hp : p.Perm q) : DPart ls q β :=
 ⟨fun e he => h.ne e (hp.mem_iff.2 he), fun m => by obtain ⟨e, he, hm⟩ := h.cover m; exact ⟨e, hp.mem_iff.1 he, hm⟩, fun e he f hf => h.disj e (hp.mem_iff.2 he) f (hp.mem_iff.2 hf),
  hp.nodup_iff.1 h.nd, by rw [← hp.length_eq]; exact h.three, fun e he => h.ends e (hp.mem_iff.2 he), fun e he => h.ok e (hp.mem_iff.2 he), fun e he => h.real e (hp.mem_iff.2 he), fun e he => h.big e (hp.mem_iff.2 he)⟩
theorem up_iff (h : DPart ls p β) {Y : Lk → Prop} {f : Lk} (hf : f ∈ p) {m : Al ls} (hm : β f m) : upB p β Y m ↔ Y f := by
 constructor
 ·
  rintro ⟨e, he, hY, hem⟩
  rw [← h.disj e he f hf m hem hm]; exact hY
 · exact fun hY => ⟨f, hf, hY, hm⟩
theorem up_bd (h : DPart ls p β) (Y : Lk → Prop) (v : Int) : Uq.bd (grL ls) (upB p β Y) v ↔ bdL p Y v := by
 constructor
 ·
  rintro ⟨⟨k, hk, hkv⟩, m, hm, hmv⟩
  obtain ⟨e, he, hek⟩ := h.cover k
  obtain ⟨f, hf, hfm⟩ := h.cover m
  rw [h.up_iff he hek] at hk
  rw [h.up_iff hf hfm] at hm
  have hne : e ≠ f := fun e1 => hm (e1 ▸ hk)
  refine ⟨⟨e, he, hk, (h.ends e he v).1 ⟨⟨k, hek, hkv⟩, m, fun hx => hne (h.disj e he f hf m hx hfm), hmv⟩⟩, f, hf, hm, (h.ends f hf v).1 ⟨⟨m, hfm, hmv⟩, k, fun hx => hne (h.disj e he f hf k hek hx), hkv⟩⟩
 ·
  rintro ⟨⟨e, he, hY, hev⟩, f, hf, hn, hfv⟩
  obtain ⟨⟨k, hk, hkv⟩, _⟩ := (h.ends e he v).2 hev
  obtain ⟨⟨m, hm, hmv⟩, _⟩ := (h.ends f hf v).2 hfv
  exact ⟨⟨k, (h.up_iff he hk).2 hY, hkv⟩, m, fun hx => hn ((h.up_iff hf hm).1 hx), hmv⟩
theorem con (h : DPart ls p β) (hG : Uq.Ok (grL ls)) : ConL p := by
 intro Y ⟨e, he, hY⟩ ⟨f, hf, hn⟩ a
 obtain ⟨k, hk⟩ := h.ne e he
 obtain ⟨m, hm⟩ := h.ne f hf
 obtain ⟨v, hv, hb⟩ := hG.ge (X := upB p β Y) ⟨k, (h.up_iff he hk).2 hY⟩ ⟨m, fun hx => hn ((h.up_iff hf hm).1 hx)⟩ a
 exact ⟨v, hv, (h.up_bd Y v).1 hb⟩
theorem nil (h : DPart ls p β) : p ≠ [] := fun e => by have := h.three; rw [e] at this; simp at this
theorem two (h : DPart ls p β) (hG : Uq.Ok (grL ls)) (hR : RightL p) : twoL p = true := two_con hR h.nil (h.con hG)
theorem up_compl (h : DPart ls p β) {X Y : List Lk} (hp : p.Perm (X ++ Y)) (m : Al ls) : upB p β (· ∈ X) m ↔ ¬ upB p β (· ∈ Y) m := by
 obtain ⟨e, he, hm⟩ := h.cover m
 rw [h.up_iff he hm, h.up_iff he hm]
 have h1 := List.mem_append.1 (hp.mem_iff.1 he)
 have hn := List.nodup_append.1 (hp.nodup_iff.1 h.nd)
 exact ⟨fun hx hy => hn.2.2 e hx e hy rfl, fun hy => h1.resolve_right hy⟩
theorem half (h : DPart ls p β) (hG : Uq.Ok (grL ls)) {X Y : List Lk} (hp : p.Perm (X ++ Y)) (hX : 2 ≤ X.length) (hY : 2 ≤ Y.length) {a b n : Int} (hab : a ≠ b)
  (hsh : ∀ e ∈ X, ∀ f ∈ Y, ∀ v, AtL e v → AtL f v → v = a ∨ v = b) (hn : n ≠ 0) (hf : ∀ k ∈ p, k.2.2 ≠ n) :
  DPart ls ((a, b, n) :: X) (fun k => if k = (a, b, n) then upB p β (· ∈ Y) else β k) := by
 have mX : ∀ k ∈ X, k ∈ p := fun k hk => hp.mem_iff.2 (List.mem_append_left _ hk)
 have mY : ∀ k ∈ Y, k ∈ p := fun k hk => hp.mem_iff.2 (List.mem_append_right _ hk)
 have eX : ∀ k ∈ X, k ≠ (a, b, n) := fun k hk e => hf k (mX k hk) (by rw [e])
 have hnd := List.nodup_append.1 (hp.nodup_iff.1 h.nd)
 have xy : ∀ k ∈ X, k ∉ Y := fun k h1 h2 => hnd.2.2 k h1 k h2 rfl
 have bX : ∀ k ∈ X, (fun k => if k = (a, b, n) then upB p β (· ∈ Y) else β k) k = β k := fun k hk => if_neg (eX k hk)
 have bE : (fun k => if k = (a, b, n) then upB p β (· ∈ Y) else β k) (a, b, n) = upB p β (· ∈ Y) := if_pos rfl
 obtain ⟨y0, y1, hy0, hy1, hyy⟩ : ∃ y0 y1, y0 ∈ Y ∧ y1 ∈ Y ∧ y0 ≠ y1 := by
  match Y, hY, hnd.2.1 with
  | y0 :: y1 :: l, _, hn => exact ⟨y0, y1, by simp, by simp, fun e => by subst e; simp at hn⟩
 obtain ⟨x0, hx0⟩ : ∃ x0, x0 ∈ X := by
  match X, hX with
  | x0 :: l, _ => exact ⟨x0, by simp⟩
 generalize hB : (fun k => if k = (a, b, n) then upB p β (· ∈ Y) else β k) = B at bX bE ⊢
 have hbd : ∀ v, bdL p (· ∈ Y) v ↔ v = a ∨ v = b := by
  have h1 : ∀ v, bdL p (· ∈ Y) v → v = a ∨ v = b := fun v ⟨⟨f, _, hfY, hfv⟩, e, he, hne, hev⟩ =>
   hsh e ((List.mem_append.1 (hp.mem_iff.1 he)).resolve_right hne) f hfY v hev hfv
  have hc := h.con hG (· ∈ Y) ⟨y0, mY _ hy0, hy0⟩ ⟨x0, mX _ hx0, xy _ hx0⟩
  refine fun v => ⟨h1 v, fun hv => ?_⟩
  rcases hv with rfl | rfl
  ·
   obtain ⟨w, hw, hb⟩ := hc b; rcases h1 w hb with rfl | rfl
   · exact hb
   · exact absurd rfl hw
  ·
   obtain ⟨w, hw, hb⟩ := hc a; rcases h1 w hb with rfl | rfl
   · exact absurd rfl hw
   · exact hb
 refine ⟨fun e he => ?_, fun m => ?_, fun e he f hf' m h1 h2 => ?_, ?_, by simp only [List.length_cons]; omega, fun e he v => ?_, fun e he => ?_, fun e he h0 => ?_, fun e he h0 => ?_⟩
 ·
  rcases List.mem_cons.1 he with rfl | he
  ·
   obtain ⟨m, hm⟩ := h.ne y0 (mY _ hy0); exact ⟨m, by rw [bE]; exact ⟨y0, mY _ hy0, hy0, hm⟩⟩
  · rw [bX e he]; exact h.ne e (mX _ he)
 ·
  obtain ⟨f, hfp, hm⟩ := h.cover m
  rcases List.mem_append.1 (hp.mem_iff.1 hfp) with hx | hy
  · exact ⟨f, List.mem_cons_of_mem _ hx, by rw [bX f hx]; exact hm⟩
  · exact ⟨_, List.mem_cons_self .., by rw [bE]; exact ⟨f, hfp, hy, hm⟩⟩
 ·
  rcases List.mem_cons.1 he with rfl | he <;> rcases List.mem_cons.1 hf' with rfl | hf'
  · rfl
  ·
   rw [bE] at h1; rw [bX f hf'] at h2; exact absurd ((h.up_iff (mX f hf') h2).1 h1) (xy f hf')
  ·
   rw [bE] at h2; rw [bX e he] at h1; exact absurd ((h.up_iff (mX e he) h1).1 h2) (xy e he)
  ·
   rw [bX e he] at h1; rw [bX f hf'] at h2; exact h.disj e (mX e he) f (mX f hf') m h1 h2
 · exact List.nodup_cons.2 ⟨fun hm => eX _ hm rfl, hnd.1⟩
 ·
  rcases List.mem_cons.1 he with rfl | he
  · rw [bE, h.up_bd, hbd]; rfl
  · rw [bX e he]; exact h.ends e (mX e he) v
 ·
  rcases List.mem_cons.1 he with rfl | he
  · exact hab
  · exact h.ok e (mX e he)
 ·
  rcases List.mem_cons.1 he with rfl | he
  · exact absurd h0 hn
  · rw [bX e he]; exact h.real e (mX e he) h0
 ·
  rcases List.mem_cons.1 he with rfl | he
  ·
   rw [bE]; obtain ⟨m, hm⟩ := h.ne y0 (mY _ hy0); obtain ⟨k, hk⟩ := h.ne y1 (mY _ hy1); exact ⟨m, k, fun e => hyy (h.disj y0 (mY _ hy0) y1 (mY _ hy1) k (e ▸ hm) hk), ⟨y0, mY _ hy0, hy0, hm⟩, y1, mY _ hy1, hy1, hk⟩
  · rw [bX e he]; exact h.big e (mX e he) h0
theorem join {x y z : List Lk} (h : DPart ls x β) (k : DPart ls y γ) {e : Lk} (hex : e ∈ x) (hey : e ∈ y) (hc : ∀ m, γ e m ↔ ¬ β e m) (hz : z.Perm (x.erase e ++ y.erase e)) (hd : ∀ f ∈ x, f ∈ y → f = e) :
  DPart ls z (fun k => open Classical in if k ∈ x then β k else γ k) := by
 have bX : ∀ k ∈ x, (fun k => open Classical in if k ∈ x then β k else γ k) k = β k := fun k hk => if_pos hk
 have bY : ∀ k ∈ y, k ≠ e → (fun k => open Classical in if k ∈ x then β k else γ k) k = γ k := fun k hk hne => if_neg fun hx => hne (hd k hx hk)
 generalize (fun k => open Classical in if k ∈ x then β k else γ k) = B at bX bY ⊢
 have mz : ∀ f, f ∈ z ↔ (f ∈ x ∧ f ≠ e) ∨ (f ∈ y ∧ f ≠ e) := fun f => by
  rw [hz.mem_iff, List.mem_append, h.nd.mem_erase_iff, k.nd.mem_erase_iff]
  constructor
  ·
   rintro (⟨a, b⟩ | ⟨a, b⟩)
   · exact .inl ⟨b, a⟩
   · exact .inr ⟨b, a⟩
  ·
   rintro (⟨a, b⟩ | ⟨a, b⟩)
   · exact .inl ⟨b, a⟩
   · exact .inr ⟨b, a⟩
 have nx : ∀ f ∈ x, f ≠ e → ∀ m, β f m → ¬ β e m := fun f hf hne m h1 h2 => hne (h.disj f hf e hex m h1 h2)
 have ny : ∀ f ∈ y, f ≠ e → ∀ m, γ f m → β e m := fun f hf hne m h1 => Classical.byContradiction fun h2 => hne (k.disj f hf e hey m h1 ((hc m).2 h2))
 refine ⟨fun f hf => ?_, fun m => ?_, fun f hf g hg m h1 h2 => ?_, ?_, ?_, fun f hf v => ?_, fun f hf => ?_, fun f hf h0 => ?_, fun f hf h0 => ?_⟩
 ·
  rcases (mz f).1 hf with ⟨a, b⟩ | ⟨a, b⟩
  · rw [bX f a]; exact h.ne f a
  · rw [bY f a b]; exact k.ne f a
 ·
  by_cases hm : β e m
  ·
   obtain ⟨f, hf, hfm⟩ := k.cover m; have hne : f ≠ e := fun e1 => by rw [e1] at hfm; exact (hc m).1 hfm hm
   exact ⟨f, (mz f).2 (.inr ⟨hf, hne⟩), by rw [bY f hf hne]; exact hfm⟩
  ·
   obtain ⟨f, hf, hfm⟩ := h.cover m; have hne : f ≠ e := fun e1 => by rw [e1] at hfm; exact hm hfm
   exact ⟨f, (mz f).2 (.inl ⟨hf, hne⟩), by rw [bX f hf]; exact hfm⟩
 ·
  rcases (mz f).1 hf with ⟨a, b⟩ | ⟨a, b⟩ <;> rcases (mz g).1 hg with ⟨c, d⟩ | ⟨c, d⟩
  ·
   rw [bX f a] at h1; rw [bX g c] at h2; exact h.disj f a g c m h1 h2
  ·
   rw [bX f a] at h1; rw [bY g c d] at h2; exact absurd (ny g c d m h2) (nx f a b m h1)
  ·
   rw [bY f a b] at h1; rw [bX g c] at h2; exact absurd (ny f a b m h1) (nx g c d m h2)
  ·
   rw [bY f a b] at h1; rw [bY g c d] at h2; exact k.disj f a g c m h1 h2
 ·
  rw [hz.nodup_iff, List.nodup_append]
  refine ⟨h.nd.erase _, k.nd.erase _, fun f hf g hg e1 => ?_⟩
  subst e1
  rw [h.nd.mem_erase_iff] at hf
  rw [k.nd.mem_erase_iff] at hg
  exact hf.1 (hd f hf.2 hg.2)
 ·
  have h1 := h.three
  have h2 := k.three
  rw [hz.length_eq, List.length_append, List.length_erase_of_mem hex, List.length_erase_of_mem hey]
  omega
 ·
  rcases (mz f).1 hf with ⟨a, b⟩ | ⟨a, b⟩
  · rw [bX f a]; exact h.ends f a v
  · rw [bY f a b]; exact k.ends f a v
 ·
  rcases (mz f).1 hf with ⟨a, b⟩ | ⟨a, b⟩
  · exact h.ok f a
  · exact k.ok f a
 ·
  rcases (mz f).1 hf with ⟨a, b⟩ | ⟨a, b⟩
  · rw [bX f a]; exact h.real f a h0
  · rw [bY f a b]; exact k.real f a h0
 ·
  rcases (mz f).1 hf with ⟨a, b⟩ | ⟨a, b⟩
  · rw [bX f a]; exact h.big f a h0
  · rw [bY f a b]; exact k.big f a h0
end DPart
end Go.Proofs.YtagcbnpahgfgmaaGreat
namespace Go.Proofs.YtagcbnpahgfgmaaGreat
abbrev DT (ls : List Lk) := List Lk × (Lk → Al ls → Prop)
def NestD {ls : List Lk} (d d' : DT ls) : Prop := ∃ e ∈ d.1, ∃ f ∈ d'.1, ∀ m, d.2 e m ∨ d'.2 f m
theorem NestD.symm {ls : List Lk} {d d' : DT ls} (h : NestD d d') : NestD d' d := by
 obtain ⟨e, he, f, hf, hm⟩ := h
 exact ⟨f, hf, e, he, fun m => (hm m).symm⟩
structure Dec (ls : List Lk) (T : List (DT ls)) : Prop where
 part : ∀ d ∈ T, DPart ls d.1 d.2
 virt : ∀ d ∈ T, ∀ e ∈ d.1, e.2.2 ≠ 0 → ∃ d' ∈ T, e ∈ d'.1 ∧ ∀ m, d'.2 e m ↔ ¬ d.2 e m
 nest : T.Pairwise NestD
theorem DPart.third {ls p : List Lk} {β : Lk → Al ls → Prop} (h : DPart ls p β) (e f : Lk) : ∃ g ∈ p, g ≠ e ∧ g ≠ f ∧ ∃ m, β g m := by
 obtain ⟨g, hg, h1, h2⟩ := Uq.third h.nd h.three e f
 exact ⟨g, hg, h1, h2, h.ne g hg⟩
theorem DPart.gap {ls p : List Lk} {β : Lk → Al ls → Prop} (h : DPart ls p β) {e f : Lk} (he : e ∈ p) (hf : f ∈ p) : ∃ m, ¬ β e m ∧ ¬ β f m := by
 obtain ⟨g, hg, h1, h2, m, hm⟩ := h.third e f
 exact ⟨m, fun hx => h1 (h.disj g hg e he m hm hx), fun hx => h2 (h.disj g hg f hf m hm hx)⟩
namespace Dec
variable {ls : List Lk} {T T' : List (DT ls)}
theorem perm (h : Dec ls T) (hp : T.Perm T') : Dec ls T' :=
 ⟨fun d hd => h.part d (hp.mem_iff.2 hd), fun d hd e he hv => by
  obtain ⟨d', hd', h1⟩ := h.virt d (hp.mem_iff.2 hd) e he hv
  exact ⟨d', hp.mem_iff.1 hd', h1⟩, hp.pairwise h.nest fun h => h.symm⟩
theorem start (h2 : twoL ls = true) (hv : ∀ k ∈ ls, k.2.2 = 0) (h3 : 3 ≤ ls.length) : Dec ls [(ls, fun k m => m.1 = k)] := by
 have hR := two_right h2
 refine ⟨fun d hd => ?_, fun d hd e he h0 => ?_, by simp⟩
 ·
  simp only [List.mem_cons, List.not_mem_nil, or_false] at hd
  subst hd
  refine ⟨fun e he => ⟨⟨e, he⟩, rfl⟩, fun m => ⟨m.1, m.2, rfl⟩, fun e he f hf m h1 h2 => h1.symm.trans h2, right_nodup hR, h3, fun e he v => ?_, fun e he => by have := (hR.2.1 e he).2.1; omega, fun e he _ m => .rfl, fun e he h0 => absurd (hv e he) h0⟩
  constructor
  ·
   rintro ⟨⟨k, hk, hkv⟩, _⟩; have : k.1 = e := hk; exact this ▸ hkv
  ·
   intro hev; obtain ⟨f, hf, hfe⟩ : ∃ f ∈ ls, f ≠ e := by
    obtain ⟨f, hf, h1, _⟩ := Uq.third (right_nodup hR) h3 e e; exact ⟨f, hf, h1⟩
   have hc := con_two h2 (fun k => k = e) ⟨e, he, rfl⟩ ⟨f, hf, hfe⟩; have fin : ∀ w, bdL ls (fun k => k = e) w → w = v → Uq.bd (grL ls) (fun m => m.1 = e) v := fun w ⟨⟨k, hk, hke, hkw⟩, g, hg, hge, hgw⟩ hw => by
    subst hw; have : k = e := hke; subst this; exact ⟨⟨⟨k, hk⟩, rfl, hkw⟩, ⟨g, hg⟩, hge, hgw⟩
   have mem : ∀ w, bdL ls (fun k => k = e) w → AtL e w := fun w ⟨⟨k, hk, hke, hkw⟩, _⟩ => by
    have : k = e := hke; exact this ▸ hkw
   rcases hev with h1 | h1
   ·
    obtain ⟨w, hw, hb⟩ := hc e.2.1; exact fin w hb (((mem w hb).resolve_right hw).trans h1.symm)
   ·
    obtain ⟨w, hw, hb⟩ := hc e.1; exact fin w hb (((mem w hb).resolve_left hw).trans h1.symm)
 ·
  simp only [List.mem_cons, List.not_mem_nil, or_false] at hd
  subst hd
  exact absurd (hv e he) h0
theorem split (hG : Uq.Ok (grL ls)) {d : DT ls} {R : List (DT ls)} (h : Dec ls (d :: R)) {X Y : List Lk} (hp : d.1.Perm (X ++ Y)) (hX : 2 ≤ X.length) (hY : 2 ≤ Y.length) {a b n : Int} (hab : a ≠ b)
  (hsh : ∀ e ∈ X, ∀ f ∈ Y, ∀ v, AtL e v → AtL f v → v = a ∨ v = b) (hn : n ≠ 0) (hf : ∀ d' ∈ d :: R, ∀ k ∈ d'.1, k.2.2 ≠ n) :
  ∃ B1 B2, Dec ls (((a, b, n) :: X, B1) :: ((a, b, n) :: Y, B2) :: R) := by
 have hd := h.part d (List.mem_cons_self ..)
 have hfd := hf d (List.mem_cons_self ..)
 have p1 := hd.half hG hp hX hY hab hsh hn hfd
 have p2 := hd.half hG (hp.trans List.perm_append_comm) hY hX hab (fun e he f hf v h1 h2 => hsh f hf e he v h2 h1) hn hfd
 have mX : ∀ k ∈ X, k ∈ d.1 := fun k hk => hp.mem_iff.2 (List.mem_append_left _ hk)
 have mY : ∀ k ∈ Y, k ∈ d.1 := fun k hk => hp.mem_iff.2 (List.mem_append_right _ hk)
 have b1 : ∀ k ∈ d.1, (fun k => if k = (a, b, n) then upB d.1 d.2 (· ∈ Y) else d.2 k) k = d.2 k := fun k hk => if_neg fun e => hfd k hk (by rw [e])
 have b2 : ∀ k ∈ d.1, (fun k => if k = (a, b, n) then upB d.1 d.2 (· ∈ X) else d.2 k) k = d.2 k := fun k hk => if_neg fun e => hfd k hk (by rw [e])
 have e1 : (fun k => if k = (a, b, n) then upB d.1 d.2 (· ∈ Y) else d.2 k) (a, b, n) = upB d.1 d.2 (· ∈ Y) := if_pos rfl
 have e2 : (fun k => if k = (a, b, n) then upB d.1 d.2 (· ∈ X) else d.2 k) (a, b, n) = upB d.1 d.2 (· ∈ X) := if_pos rfl
 refine ⟨(fun k => if k = (a, b, n) then upB d.1 d.2 (· ∈ Y) else d.2 k), (fun k => if k = (a, b, n) then upB d.1 d.2 (· ∈ X) else d.2 k), ?_⟩
 generalize (fun k => if k = (a, b, n) then upB d.1 d.2 (· ∈ Y) else d.2 k) = B1 at p1 b1 e1 ⊢
 generalize (fun k => if k = (a, b, n) then upB d.1 d.2 (· ∈ X) else d.2 k) = B2 at p2 b2 e2 ⊢
 have hcp := hd.up_compl hp
 have hcp2 := hd.up_compl (hp.trans List.perm_append_comm)
 have old : ∀ g ∈ d.1, g.2.2 ≠ 0 → ∃ d' ∈ R, g ∈ d'.1 ∧ ∀ m, d'.2 g m ↔ ¬ d.2 g m := fun g hg h0 => by
  obtain ⟨d', hd', h1, h2⟩ := h.virt d (List.mem_cons_self ..) g hg h0
  rcases List.mem_cons.1 hd' with rfl | hd'
  ·
   obtain ⟨m, hm⟩ := hd.ne g hg; exact absurd hm ((h2 m).1 hm)
  · exact ⟨d', hd', h1, h2⟩
 have nst := List.pairwise_cons.1 h.nest
 refine ⟨fun d' hd' => ?_, fun d' hd' g hg h0 => ?_, ?_⟩
 ·
  rcases List.mem_cons.1 hd' with rfl | hd'
  · exact p1
  ·
   rcases List.mem_cons.1 hd' with rfl | hd'
   · exact p2
   · exact h.part d' (List.mem_cons_of_mem _ hd')
 ·
  rcases List.mem_cons.1 hd' with rfl | hd'
  ·
   rcases List.mem_cons.1 hg with rfl | hg
   · exact ⟨_, List.mem_cons_of_mem _ (List.mem_cons_self ..), List.mem_cons_self .., fun m => by simp only [e1, e2]; exact hcp m⟩
   ·
    obtain ⟨d', hd', h1, h2⟩ := old g (mX g hg) h0; exact ⟨d', by simp [hd'], h1, fun m => by simp only [b1 g (mX g hg)]; exact h2 m⟩
  ·
   rcases List.mem_cons.1 hd' with rfl | hd'
   ·
    rcases List.mem_cons.1 hg with rfl | hg
    · exact ⟨_, List.mem_cons_self .., List.mem_cons_self .., fun m => by simp only [e1, e2]; exact hcp2 m⟩
    ·
     obtain ⟨d', hd', h1, h2⟩ := old g (mY g hg) h0; exact ⟨d', by simp [hd'], h1, fun m => by simp only [b2 g (mY g hg)]; exact h2 m⟩
   ·
    obtain ⟨d2, hd2, h1, h2⟩ := h.virt d' (List.mem_cons_of_mem _ hd') g hg h0; rcases List.mem_cons.1 hd2 with rfl | hd2
    ·
     rcases List.mem_append.1 (hp.mem_iff.1 h1) with hx | hy
     · exact ⟨_, List.mem_cons_self .., List.mem_cons_of_mem _ hx, fun m => by simp only [b1 g h1]; exact h2 m⟩
     · exact ⟨_, List.mem_cons_of_mem _ (List.mem_cons_self ..), List.mem_cons_of_mem _ hy, fun m => by simp only [b2 g h1]; exact h2 m⟩
    · exact ⟨d2, by simp [hd2], h1, h2⟩
 ·
  refine List.pairwise_cons.2 ⟨fun d' hd' => ?_, List.pairwise_cons.2 ⟨fun d' hd' => ?_, nst.2⟩⟩
  ·
   rcases List.mem_cons.1 hd' with rfl | hd'
   ·
    refine ⟨_, List.mem_cons_self .., _, List.mem_cons_self .., fun m => ?_⟩; simp only [e1, e2]; rw [hcp m]; exact Classical.em _
   ·
    obtain ⟨g, hg, f, hf', hm⟩ := nst.1 d' hd'; rcases List.mem_append.1 (hp.mem_iff.1 hg) with hx | hy
    · exact ⟨g, List.mem_cons_of_mem _ hx, f, hf', fun m => by simp only [b1 g hg]; exact hm m⟩
    · exact ⟨_, List.mem_cons_self .., f, hf', fun m => by simp only [e1]; exact (hm m).imp (fun hx => ⟨g, hg, hy, hx⟩) id⟩
  ·
   obtain ⟨g, hg, f, hf', hm⟩ := nst.1 d' hd'; rcases List.mem_append.1 (hp.mem_iff.1 hg) with hx | hy
   · exact ⟨_, List.mem_cons_self .., f, hf', fun m => by simp only [e2]; exact (hm m).imp (fun hz => ⟨g, hg, hx, hz⟩) id⟩
   · exact ⟨g, List.mem_cons_of_mem _ hy, f, hf', fun m => by simp only [b2 g hg]; exact hm m⟩
theorem twin {x y : DT ls} {R : List (DT ls)} (h : Dec ls (x :: y :: R)) {e : Lk} (hex : e ∈ x.1) (hey : e ∈ y.1) (hv : e.2.2 ≠ 0) (ho : ∀ d ∈ R, e ∉ d.1) : ∀ m, y.2 e m ↔ ¬ x.2 e m := by
 obtain ⟨d', hd', h1, h2⟩ := h.virt x (List.mem_cons_self ..) e hex hv
 rcases List.mem_cons.1 hd' with rfl | hd'
 ·
  obtain ⟨m, hm⟩ := (h.part d' (List.mem_cons_self ..)).ne e hex
  exact absurd hm ((h2 m).1 hm)
 ·
  rcases List.mem_cons.1 hd' with rfl | hd'
  · exact h2
  · exact absurd h1 (ho d' hd')
theorem join {x y : DT ls} {R : List (DT ls)} (h : Dec ls (x :: y :: R)) {e : Lk} (hex : e ∈ x.1) (hey : e ∈ y.1) (hv : e.2.2 ≠ 0) (ho : ∀ d ∈ R, e ∉ d.1) (hd : ∀ f ∈ x.1, f ∈ y.1 → f = e)
  {z : List Lk} (hz : z.Perm (x.1.erase e ++ y.1.erase e)) : ∃ B, Dec ls ((z, B) :: R) := by
 have px := h.part x (List.mem_cons_self ..)
 have py := h.part y (by simp)
 have hc := h.twin hex hey hv ho
 have pz := px.join py hex hey hc hz hd
 have bX : ∀ k ∈ x.1, (fun k => open Classical in if k ∈ x.1 then x.2 k else y.2 k) k = x.2 k := fun k hk => if_pos hk
 have bY : ∀ k ∈ y.1, k ≠ e → (fun k => open Classical in if k ∈ x.1 then x.2 k else y.2 k) k = y.2 k := fun k hk hne => if_neg fun hx => hne (hd k hx hk)
 refine ⟨(fun k => open Classical in if k ∈ x.1 then x.2 k else y.2 k), ?_⟩
 generalize (fun k => open Classical in if k ∈ x.1 then x.2 k else y.2 k) = B at pz bX bY ⊢
 have mz : ∀ f, f ∈ z ↔ (f ∈ x.1 ∧ f ≠ e) ∨ (f ∈ y.1 ∧ f ≠ e) := fun f => by
  rw [hz.mem_iff, List.mem_append, px.nd.mem_erase_iff, py.nd.mem_erase_iff, and_comm, @and_comm (f ≠ e) (f ∈ y.1)]
 have nst := List.pairwise_cons.1 h.nest
 have nst2 := List.pairwise_cons.1 nst.2
 refine ⟨fun d' hd' => ?_, fun d' hd' g hg h0 => ?_, List.pairwise_cons.2 ⟨fun d' hd' => ?_, nst2.2⟩⟩
 ·
  rcases List.mem_cons.1 hd' with rfl | hd'
  · exact pz
  · exact h.part d' (by simp [hd'])
 ·
  rcases List.mem_cons.1 hd' with rfl | hd'
  ·
   rcases (mz g).1 hg with ⟨g1, g2⟩ | ⟨g1, g2⟩
   ·
    obtain ⟨d2, hd2, h1, h2⟩ := h.virt x (List.mem_cons_self ..) g g1 h0; rcases List.mem_cons.1 hd2 with rfl | hd2
    ·
     obtain ⟨m, hm⟩ := px.ne g g1; exact absurd hm ((h2 m).1 hm)
    ·
     rcases List.mem_cons.1 hd2 with rfl | hd2
     · exact absurd (hd g g1 h1) g2
     · exact ⟨d2, by simp [hd2], h1, fun m => by simp only [bX g g1]; exact h2 m⟩
   ·
    obtain ⟨d2, hd2, h1, h2⟩ := h.virt y (by simp) g g1 h0; rcases List.mem_cons.1 hd2 with rfl | hd2
    · exact absurd (hd g h1 g1) g2
    ·
     rcases List.mem_cons.1 hd2 with rfl | hd2
     ·
      obtain ⟨m, hm⟩ := py.ne g g1; exact absurd hm ((h2 m).1 hm)
     · exact ⟨d2, by simp [hd2], h1, fun m => by simp only [bY g g1 g2]; exact h2 m⟩
  ·
   obtain ⟨d2, hd2, h1, h2⟩ := h.virt d' (by simp [hd']) g hg h0; have hge : g ≠ e := fun e1 => ho d' hd' (e1 ▸ hg); rcases List.mem_cons.1 hd2 with rfl | hd2
   · exact ⟨_, List.mem_cons_self .., (mz g).2 (.inl ⟨h1, hge⟩), fun m => by simp only [bX g h1]; exact h2 m⟩
   ·
    rcases List.mem_cons.1 hd2 with rfl | hd2
    · exact ⟨_, List.mem_cons_self .., (mz g).2 (.inr ⟨h1, hge⟩), fun m => by simp only [bY g h1 hge]; exact h2 m⟩
    · exact ⟨d2, by simp [hd2], h1, h2⟩
 ·
  obtain ⟨a, ha, f, hf, hm⟩ := nst.1 d' (by simp [hd'])
  obtain ⟨c, hc', f', hf', hm'⟩ := nst2.1 d' hd'
  by_cases h1 : a = e
  ·
   by_cases h2 : c = e
   ·
    subst h1; subst h2; obtain ⟨m, m1, m2⟩ := (h.part d' (by simp [hd'])).gap hf hf'; have a1 := (hm m).resolve_right m1; have a2 := (hm' m).resolve_right m2; exact absurd a1 ((hc m).1 a2)
   · exact ⟨c, (mz c).2 (.inr ⟨hc', h2⟩), f', hf', fun m => by simp only [bY c hc' h2]; exact hm' m⟩
  · exact ⟨a, (mz a).2 (.inl ⟨ha, h1⟩), f, hf, fun m => by simp only [bX a ha]; exact hm m⟩
end Dec
end Go.Proofs.YtagcbnpahgfgmaaGreat
namespace Go.Proofs.YtagcbnpahgfgmaaGreat
theorem sides_apart {ls : List Lk} {a b num : Int} (hR : RightL ls) (ha : 0 ≤ a) (hab : a < b) (hb : b < 1048576) (hn : 0 < num ∧ num ≤ 1048576) {X Y : List Lk}
  (h1 : (sidesL ls a b num).1.Perm ((a, b, num) :: X)) (h2 : (sidesL ls a b num).2.Perm ((a, b, num) :: Y)) : ∀ e ∈ X, ∀ f ∈ Y, ∀ v, AtL e v → AtL f v → v = a ∨ v = b := by
 have hr := (rightL_iff ls).2 hR
 have hok : OkL (a, b, num) := by unfold OkL; simp only; omega
 unfold sidesL at h1 h2
 simp only at h1 h2
 obtain ⟨G, hG⟩ : ∃ G, G = groupsL ls [a, b] := ⟨_, rfl⟩
 obtain ⟨f0, hf0⟩ : ∃ f0, f0 = (fromTo ls.length G).1 := ⟨_, rfl⟩
 obtain ⟨t0, ht0⟩ : ∃ t0, t0 = (fromTo ls.length G).2 := ⟨_, rfl⟩
 rw [← hG, ← hf0, ← ht0] at h1 h2
 have okI : ∀ k ∈ (a, b, num) :: inS f0 t0 G G.length, OkL k := fun k hk => by
  rcases List.mem_cons.1 hk with rfl | hk
  · exact hok
  ·
   obtain ⟨r, hr', hk⟩ := mem_inS hk; exact hR.2.1 k (mem_groups (by rw [← hG]; exact hr') hk)
 have okO : ∀ k ∈ (a, b, num) :: outS f0 t0 G G.length, OkL k := fun k hk => by
  rcases List.mem_cons.1 hk with rfl | hk
  · exact hok
  ·
   obtain ⟨r, hr', hk⟩ := mem_outS hk; exact hR.2.1 k (mem_groups (by rw [← hG]; exact hr') hk)
 have pX : X.Perm (inS f0 t0 G G.length) := by
  have := sortL_perm ((a, b, num) :: inS f0 t0 G G.length)
  rw [map_swapL okI] at this
  exact (h1.symm.trans this).cons_inv
 have pY : Y.Perm (outS f0 t0 G G.length) := by
  have := sortL_perm ((a, b, num) :: outS f0 t0 G G.length)
  rw [map_swapL okO] at this
  exact (h2.symm.trans this).cons_inv
 have at_ : ∀ {j : Nat} {e : Lk}, e ∈ G.getD j [] → ∃ r, (groupsL ls [a, b])[j]? = some r ∧ e ∈ r := fun {j e} he => by
  by_cases hj : j < G.length
  ·
   simp only [List.getD, List.getElem?_eq_getElem hj, Option.getD_some] at he; exact ⟨_, by rw [← hG]; exact List.getElem?_eq_getElem hj, he⟩
  · simp [List.getD, List.getElem?_eq_none (Nat.le_of_not_lt hj)] at he
 intro e he f hf v hev hfv
 have he2 := pX.mem_iff.1 he
 have hf2 := pY.mem_iff.1 hf
 unfold inS at he2
 unfold outS at hf2
 obtain ⟨i, _, hei⟩ := List.mem_flatMap.1 he2
 obtain ⟨j, _, hfj⟩ := List.mem_flatMap.1 hf2
 split at hei
 ·
  rename_i hi
  split at hfj
  · simp at hfj
  ·
   rename_i hj; have hij : i ≠ j := fun e => hj (e ▸ hi); obtain ⟨r, hr1, her⟩ := at_ hei; obtain ⟨s, hs1, hfs⟩ := at_ hfj; obtain ⟨x, hx, GX⟩ := grp_at hr hr1; obtain ⟨y, hy, GY⟩ := grp_at hr hs1; exact grp_share hR GX GY (grp_differ hx hy hij) v (mem_shared.2 ⟨AtL.vert her hev, AtL.vert hfs hfv⟩)
 · simp at hei
theorem map_pick {ls : List Lk} {T : List (DT ls)} {x : List Lk} {S : List (List Lk)} (h : (T.map fun d => d.1).Perm (x :: S)) : ∃ d R, T.Perm (d :: R) ∧ d.1 = x ∧ (R.map fun d => d.1).Perm S := by
 obtain ⟨d, hd, e⟩ := List.mem_map.1 (h.mem_iff.2 (List.mem_cons_self ..))
 obtain ⟨s, t, rfl⟩ := List.append_of_mem hd
 have hp : (s ++ d :: t).Perm (d :: (s ++ t)) := List.perm_middle
 refine ⟨d, s ++ t, hp, e, ?_⟩
 have := (hp.map fun d => d.1).symm.trans h
 rw [List.map_cons, e] at this
 exact this.cons_inv
theorem Dec.repl {ls : List Lk} {p q : List Lk} {B : Lk → Al ls → Prop} {R : List (DT ls)} (h : Dec ls ((p, B) :: R)) (hp : p.Perm q) : Dec ls ((q, B) :: R) := by
 have nst := List.pairwise_cons.1 h.nest
 refine ⟨fun d hd => ?_, fun d hd e he hv => ?_, List.pairwise_cons.2 ⟨fun d hd => ?_, nst.2⟩⟩
 ·
  rcases List.mem_cons.1 hd with rfl | hd
  · exact (h.part (p, B) (List.mem_cons_self ..)).perm hp
  · exact h.part d (List.mem_cons_of_mem _ hd)
 ·
  have key : ∃ d' ∈ (p, B) :: R, e ∈ d'.1 ∧ ∀ m, d'.2 e m ↔ ¬ d.2 e m := by
   rcases List.mem_cons.1 hd with rfl | hd
   · exact h.virt (p, B) (List.mem_cons_self ..) e (hp.mem_iff.2 he) hv
   · exact h.virt d (List.mem_cons_of_mem _ hd) e he hv
  obtain ⟨d', hd', h1, h2⟩ := key
  rcases List.mem_cons.1 hd' with rfl | hd'
  · exact ⟨(q, B), List.mem_cons_self .., hp.mem_iff.1 h1, h2⟩
  · exact ⟨d', List.mem_cons_of_mem _ hd', h1, h2⟩
 ·
  obtain ⟨e, he, f, hf, hm⟩ := nst.1 d hd
  exact ⟨e, hp.mem_iff.1 he, f, hf, hm⟩
structure SpD (ls : List Lk) (s : SpS) : Prop where
 dec : ∃ T : List (DT ls), Dec ls T ∧ (T.map fun d => d.1).Perm (s.todo ++ s.out)
 fin : ∀ t ∈ s.out, (firstC t).2.2.1 = false
theorem SpD.step {ls : List Lk} (hG : Uq.Ok (grL ls)) {s : SpS} (hl : ls.length ≤ 1000) (hi : SpI ls s) (h : SpD ls s) : SpD ls s.step := by
 unfold SpS.step
 cases ht : s.todo.getLast? with
 | none => exact h
 | some top =>
  have hsp := getLast_split ht
  have hp1 : (s.todo ++ s.out).Perm (top :: (s.todo.dropLast ++ s.out)) := by
   conv => lhs; rw [hsp]
   rw [List.append_assoc]; exact List.perm_middle
  have htop := hi.right top (hp1.mem_iff.2 (by simp))
  have hhi := hi.hi
  obtain ⟨D, hD, hDv, hDl⟩ := hi.tree
  obtain ⟨T, hT, hTp⟩ := h.dec
  simp only
  cases hc : (firstC top).2.2.1 with
  | false =>
   simp only [Bool.false_eq_true, if_false]; refine ⟨⟨T, hT, hTp.trans (hp1.trans ?_)⟩, fun t ht => ?_⟩
   ·
    rw [← List.append_assoc]; exact (List.perm_append_singleton top _).symm
   ·
    rcases List.mem_append.1 ht with ht | ht
    · exact h.fin t ht
    · simp at ht; subst ht; exact hc
  | true =>
   simp only [if_true]; have hfc : firstC top = ((firstC top).1, (firstC top).2.1, true, (firstC top).2.2.2) := by rw [← hc]
   obtain ⟨p, hpe⟩ : ∃ p, p = (firstC top).1 := ⟨_, rfl⟩
   obtain ⟨q, hqe⟩ : ∃ q, q = (firstC top).2.1 := ⟨_, rfl⟩
   rw [← hpe, ← hqe] at hfc ⊢; obtain ⟨t2, hpm, hqm, hpq, hpr, _⟩ := firstC_true hfc; obtain ⟨l1, l2, l3⟩ := sides_len (num := s.next) t2 hpr; have hpo : 0 ≤ p := by
    obtain ⟨x, hx, e⟩ := (mem_vertsL top p).1 hpm; have := htop.2.1 x hx; unfold OkL at this; rcases e with rfl | rfl <;> omega
   have hqo : q < 1048576 := by
    obtain ⟨x, hx, e⟩ := (mem_vertsL top q).1 hqm; have := htop.2.1 x hx; unfold OkL at this; rcases e with rfl | rfl <;> omega
   have hnx : 0 < s.next ∧ s.next ≤ 1048576 := by omega
   obtain ⟨X, Y, hXY, hS1, hS2⟩ := sides_perm (num := s.next) htop hpo hpq hqo hnx; have hsh := sides_apart htop hpo hpq hqo hnx hS1 hS2; obtain ⟨S1, hS1e⟩ : ∃ S1, S1 = (sidesL top p q s.next).1 := ⟨_, rfl⟩
   obtain ⟨S2, hS2e⟩ : ∃ S2, S2 = (sidesL top p q s.next).2 := ⟨_, rfl⟩
   rw [← hS1e] at hS1 l1 ⊢; rw [← hS2e] at hS2 l2 ⊢; obtain ⟨d, R, hTd, hde, hR⟩ := map_pick (hTp.trans hp1); have hsame : ((d :: R).map fun d => d.1).Perm (s.todo ++ s.out) := (hTd.map fun d => d.1).symm.trans hTp; have hfr : ∀ d' ∈ d :: R, ∀ k ∈ d'.1, k.2.2 ≠ s.next := fun d' hd' k hk e => by
    have hm : d'.1 ∈ s.todo ++ s.out := hsame.mem_iff.1 (List.mem_map_of_mem hd'); have hk2 := hDv k (hD.memD.2 (mem_occL.2 ⟨_, hm, hk, by omega⟩)); omega
   have hx2 := hS1.length_eq; have hy2 := hS2.length_eq; simp only [List.length_cons] at hx2 hy2; obtain ⟨B1, B2, hD2⟩ := Dec.split hG (hT.perm hTd) (hde ▸ hXY) (by omega) (by omega) (by omega : p ≠ q) hsh (by omega : s.next ≠ 0) hfr; have hD3 := (hD2.repl hS1.symm).perm (List.Perm.swap ..); have hD4 := hD3.repl hS2.symm; refine ⟨⟨_, hD4, ?_⟩, h.fin⟩; rw [List.map_cons, List.map_cons]; simp only; refine (((hR.cons S1).cons S2)).trans ?_; rw [List.append_assoc]; refine List.Perm.trans ?_ List.perm_append_comm; rw [List.append_assoc]; simp only [List.cons_append, List.nil_append]; exact ((List.perm_append_comm).cons _).cons _
theorem SpD.steps {ls : List Lk} (hG : Uq.Ok (grL ls)) (hl : ls.length ≤ 1000) : ∀ (k : Nat) (s : SpS), SpI ls s → SpD ls s → SpD ls (SpS.steps k s) := by
 intro k
 induction k with
 | zero => intro s _ h; exact h
 | succ k ih => intro s hi h; rw [SpS.steps]; exact ih _ (hi.step hl) (h.step hG hl hi)
theorem SplitTo.dec {ls : List Lk} {out : List (List Lk)} {n : Int} (h : SplitTo ls 1 out n) (h2 : twoL ls = true) (hv : ∀ k ∈ ls, k.2.2 = 0) (h3 : 3 ≤ ls.length) :
  ∃ T : List (DT ls), Dec ls T ∧ (T.map fun d => d.1).Perm out ∧ ∀ t ∈ out, (firstC t).2.2.1 = false := by
 have hR := two_right h2
 obtain ⟨k, hk⟩ := h
 have := SpD.steps (ok_grL h2) hR.1 k _ (SpI.start hR hv h3) ⟨⟨_, Dec.start h2 hv h3, by simp⟩, by simp⟩
 rw [hk] at this
 obtain ⟨T, hT, hp⟩ := this.dec
 exact ⟨T, hT, by simpa using hp, this.fin⟩
end Go.Proofs.YtagcbnpahgfgmaaGreat
