/- The law LinksTell: whatever links and vertices come in (of more than 60 links only the chapter's examples are asked): all that layer 12 tells is just what the document defines. It holds of every input. -/
import Derived.Test.YtagjakgbmmbmhaaAwakeL
import Derived.Test.YtagjakgbmmbmhaaRowL
import Derived.Test.YtagjakgbmmbmhaaRL5
import Derived.Test.YtagjakgbmmbmhaaSI12
import Derived.Test.YtagjakgbmmbmhaaLkT
namespace Go.Proofs.Ytagjakgbmmbmhaa
open Go Go.RowKit Go.ChangeShapes Go.WideShapes Go.ChangeAt Go.Joins Go.Deep

theorem RdI.take {w : World} {a : Option Addr} {zs : List Int} (h : RdI w a zs) (n : Nat) : RdI w a (zs.take n) := by
  intro i u hu
  refine h i u ?_
  rw [List.map_take, List.getElem?_take] at hu
  split at hu
  · exact hu
  · cases hu

theorem groups_walkN (k : Nat) (a : Option Addr) (cap : Nat) (ls : List Lk) (aw : Option Addr) (capw : Nat) (wo : List Int) (w : World) (hr : RdL w a ls) (hcap : ls.length ≤ 9223372036854775807) (hw : RdI w aw wo) (hk : wo.length = k) (hk2 : k ≤ 10) (hwf : ∀ z ∈ wo, WfZ z) :
    Calls Try.prog 23 #[.slice a ls.length cap, .slice aw k capw] w (RetGs w (groupsL ls wo)) := by
  subst hk; exact groups_walk a cap ls aw capw wo w hr hcap hw (by omega) hwf
theorem refGroups12_walkN (k : Nat) (a : Option Addr) (cap : Nat) (ls : List Lk) (aw : Option Addr) (capw : Nat) (wo : List Int) (w : World) (hr : RdL w a ls) (hcap : ls.length ≤ 9223372036854775807) (hw : RdI w aw wo) (hk : wo.length = k) (hk2 : k ≤ 10) :
    Calls Try.prog 24 #[.slice a ls.length cap, .slice aw k capw] w (RetGs w (groupsL ls wo)) := by
  subst hk; exact refGroups12_walk a cap ls aw capw wo w hr hcap hw (by omega)

set_option maxRecDepth 100000 in
set_option maxHeartbeats 8000000 in
theorem linksTell_walk (a : Option Addr) (cap : Nat) (ls : List Lk) (aw : Option Addr) (capw : Nat) (zs : List Int) (w : World) (hr : RdL w a ls) (hl : ls.length ≤ cap) (hm : cap ≤ maxLen) (_hw : ∀ k ∈ ls, WfZ k.1 ∧ WfZ k.2.1 ∧ WfZ k.2.2)
    (hz : RdI w aw zs) (hzl : zs.length ≤ capw) (hzm : capw ≤ maxLen) (hzw : ∀ z ∈ zs, WfZ z) :
    Calls Try.prog 4 #[.slice a ls.length cap, .slice aw zs.length capw] w (RetT w true) := by
  have hcap : ls.length ≤ 9223372036854775807 := by unfold maxLen at hm; omega
  unfold maxLen at hzm
  clear _hw hm hl
  by_cases h60 : 60 < ls.length
  · have g0 : decide ((60 : Int) < (ls.length : Int)) = true := by simp; omega
    go_enter Try.func4, Try.ntmps4
    go_wp2_with fail
    refine (awake_walk _).mono ?_
    rintro e w1 ⟨rfl, hb1⟩
    go_wp2_with fail
    go_ret
    exact ⟨rfl, hb1⟩
  have h60' : ls.length ≤ 60 := by omega
  have g0 : decide ((60 : Int) < (ls.length : Int)) = false := by simp; omega
  clear h60
  by_cases h10 : zs.length ≤ 10
  · have m1 : min (zs.length : Int) 10 = (zs.length : Int) := by omega
    have hW := hz
    have HWf := Lib.hid hzw; clear hzw
    go_enter Try.func4, Try.ntmps4
    go_wp2_with fail
    -- W: what is left out, as a list of K; behind the cut
    refine (lright_walk a cap ls _ hr hcap).mono ?_
    rintro e w1 ⟨rfl, hb1⟩
    go_wp2_with fail
    refine (refRight12_walk a cap ls _ (hr.below hb1) hcap).mono ?_
    rintro e w2 ⟨rfl, hb2⟩
    have hB2 := bl_trans hb1 hb2
    clear hb1 hb2
    have e1 : (rightL ls == rightL ls) = true := by simp
    go_wp2_with fail
    refine (sorted_walk a cap ls _ (hr.below hB2) (by omega)).mono ?_
    rintro e w3 ⟨v3, rfl, ho3, _, hb3⟩
    have hB3 := bl_trans hB2 hb3
    go_wp2_with fail
    refine (refSorted12_walk a cap ls _ (hr.below hB3) (by omega)).mono ?_
    rintro e w4 ⟨v4, rfl, ho4, _, hb4⟩
    have hB4 := bl_trans hB3 hb4
    obtain ⟨a3, c3, rfl, hr3, _, _, _⟩ := ho3.read
    obtain ⟨a4, c4, rfl, hr4, _, _, _⟩ := ho4.read
    have hr3' := hr3.below hb4
    have hsl : (sortL ls).length ≤ 9223372036854775807 := by rw [sortL_length]; exact hcap
    clear ho3 ho4 hr3 hB3 hb3 hb4 hB2
    obtain ⟨sl, hsE⟩ : ∃ sl, sl = sortL ls := ⟨_, rfl⟩
    rw [← hsE] at hr3' hr4 hsl ⊢
    clear hsE
    go_wp2_with fail
    refine (same_walk a3 a4 c3 c4 sl sl _ hr3' hr4 hsl hsl).mono ?_
    rintro e w5 hq
    obtain ⟨rfl, hb5⟩ := hq.below
    have hB5 := bl_trans hB4 hb5
    have e2 : decide (sl = sl) = true := by simp
    rw [e2]
    clear hq hb5 hB4 hr3' hr4 hsl e2
    go_wp2_with fail
    refine (verts_walk a cap ls _ (hr.below hB5) (by omega)).mono ?_
    rintro e w6 ⟨a6, c6, rfl, hr6, _, _, _, hb6⟩
    have hB6 := bl_trans hB5 hb6
    go_wp2_with fail
    refine (refVerts12_walk a cap ls _ (hr.below hB6) (by omega)).mono ?_
    rintro e w7 ⟨a7, c7, rfl, hr7, _, _, _, hb7⟩
    have hB7 := bl_trans hB6 hb7
    have hr6' := hr6.below hb7
    have hvl : (vertsL ls).length ≤ 9223372036854775807 := by have := vertsL_length ls; omega
    obtain ⟨vl, hvE⟩ : ∃ vl, vl = vertsL ls := ⟨_, rfl⟩
    rw [← hvE] at hr6' hr7 hvl ⊢
    clear hvE hr6 hb6 hb7 hB5 hB6
    go_wp2_with fail
    refine (sameInts12_walk a6 a7 c6 c7 vl vl _ hr6' hr7 hvl hvl).mono ?_
    rintro e w8 hq
    obtain ⟨rfl, hb8⟩ := hq.below
    have hB8 := bl_trans hB7 hb8
    have e3 : decide (vl = vl) = true := by simp
    rw [e3]
    clear hq hb8 hB7 hr6' hr7 hvl e3
    go_wp2_with fail
    refine (groups_walkN zs.length a cap ls aw _ zs _ (hr.below hB8) hcap (hW.below hB8) rfl h10 HWf.out).mono ?_
    rintro e w9 ⟨v9, vals9, rfl, hL9, hb9⟩
    have hB9 := bl_trans hB8 hb9
    go_wp2_with fail
    refine (refGroups12_walkN zs.length a cap ls aw _ zs _ (hr.below hB9) hcap (hW.below hB9) rfl h10).mono ?_
    rintro e wA ⟨vA, valsA, rfl, hLA, hbA⟩
    have hBA := bl_trans hB9 hbA
    obtain ⟨a9, c9, rfl, hr9, _, _⟩ := hL9.read
    obtain ⟨aA, cA, rfl, hrA, _, _⟩ := hLA.read
    have hr9' := hr9.below hbA
    have hgl : (groupsL ls zs).length ≤ 9223372036854775807 := by have := groups_len_le ls zs; omega
    obtain ⟨gl, hgE⟩ : ∃ gl, gl = groupsL ls zs := ⟨_, rfl⟩
    rw [← hgE] at hr9' hrA hgl ⊢
    clear hgE hr9 hL9 hLA hb9 hbA hB8 hB9
    go_wp2_with fail
    refine (sameGroups_walk a9 aA c9 cA gl gl _ hr9' hrA hgl hgl).mono ?_
    rintro e wB hq
    obtain ⟨rfl, hbB⟩ := hq.below
    have hBB := bl_trans hBA hbB
    have e4 : decide (gl = gl) = true := by simp
    rw [e4]
    clear hq hbB hBA hr9' hrA hgl e4
    go_wp2_with fail
    refine (joined_walk a cap ls _ (hr.below hBB) hcap).mono ?_
    rintro e wC ⟨rfl, hbC⟩
    have hBC := bl_trans hBB hbC
    have e5 : (joinedL ls == joinedL ls) = true := by simp
    clear hbC hBB
    go_wp2_with fail
    refine (refJoined12_walk a cap ls _ (hr.below hBC) hcap).mono ?_
    rintro e wD ⟨rfl, hbD⟩
    have hBD := bl_trans hBC hbD
    clear hbD hBC
    go_wp2_with fail
    refine (two_walk a cap ls _ (hr.below hBD) hcap).mono ?_
    rintro e wE ⟨rfl, hbE⟩
    have hBE := bl_trans hBD hbE
    have e6 : (twoL ls == twoL ls) = true := by simp
    clear hbE hBD
    go_wp2_with fail
    refine (refTwo12_walk a cap ls _ (hr.below hBE) hcap).mono ?_
    rintro e wF ⟨rfl, hbF⟩
    have hBF := bl_trans hBE hbF
    clear hbF hBE
    go_wp2_with fail
    refine (awake_walk _).mono ?_
    rintro e wG ⟨rfl, hbG⟩
    go_wp2_with fail
    go_ret
    exact ⟨by simp, bl_trans hBF hbG⟩
  · have m1 : min (zs.length : Int) 10 = 10 := by omega
    have hW := hz.take 10
    have hWf : ∀ z ∈ zs.take 10, WfZ z := fun z h => hzw z (List.mem_of_mem_take h)
    have hWk : (zs.take 10).length = 10 := by rw [List.length_take]; omega
    have hc10 : 10 ≤ capw := by omega
    have HWf := Lib.hid hWf; have HWk := Lib.hid hWk; clear hWf hzw hWk
    have h10 : 10 ≤ 10 := Nat.le_refl _
    obtain ⟨WL, hWL⟩ : ∃ WL, WL = zs.take 10 := ⟨_, rfl⟩
    rw [← hWL] at hW HWf HWk
    clear hWL
    go_enter Try.func4, Try.ntmps4
    go_wp2_with fail
    -- W: what is left out, as a list of K; behind the cut
    refine (lright_walk a cap ls _ hr hcap).mono ?_
    rintro e w1 ⟨rfl, hb1⟩
    go_wp2_with fail
    refine (refRight12_walk a cap ls _ (hr.below hb1) hcap).mono ?_
    rintro e w2 ⟨rfl, hb2⟩
    have hB2 := bl_trans hb1 hb2
    clear hb1 hb2
    have e1 : (rightL ls == rightL ls) = true := by simp
    go_wp2_with fail
    refine (sorted_walk a cap ls _ (hr.below hB2) (by omega)).mono ?_
    rintro e w3 ⟨v3, rfl, ho3, _, hb3⟩
    have hB3 := bl_trans hB2 hb3
    go_wp2_with fail
    refine (refSorted12_walk a cap ls _ (hr.below hB3) (by omega)).mono ?_
    rintro e w4 ⟨v4, rfl, ho4, _, hb4⟩
    have hB4 := bl_trans hB3 hb4
    obtain ⟨a3, c3, rfl, hr3, _, _, _⟩ := ho3.read
    obtain ⟨a4, c4, rfl, hr4, _, _, _⟩ := ho4.read
    have hr3' := hr3.below hb4
    have hsl : (sortL ls).length ≤ 9223372036854775807 := by rw [sortL_length]; exact hcap
    clear ho3 ho4 hr3 hB3 hb3 hb4 hB2
    obtain ⟨sl, hsE⟩ : ∃ sl, sl = sortL ls := ⟨_, rfl⟩
    rw [← hsE] at hr3' hr4 hsl ⊢
    clear hsE
    go_wp2_with fail
    refine (same_walk a3 a4 c3 c4 sl sl _ hr3' hr4 hsl hsl).mono ?_
    rintro e w5 hq
    obtain ⟨rfl, hb5⟩ := hq.below
    have hB5 := bl_trans hB4 hb5
    have e2 : decide (sl = sl) = true := by simp
    rw [e2]
    clear hq hb5 hB4 hr3' hr4 hsl e2
    go_wp2_with fail
    refine (verts_walk a cap ls _ (hr.below hB5) (by omega)).mono ?_
    rintro e w6 ⟨a6, c6, rfl, hr6, _, _, _, hb6⟩
    have hB6 := bl_trans hB5 hb6
    go_wp2_with fail
    refine (refVerts12_walk a cap ls _ (hr.below hB6) (by omega)).mono ?_
    rintro e w7 ⟨a7, c7, rfl, hr7, _, _, _, hb7⟩
    have hB7 := bl_trans hB6 hb7
    have hr6' := hr6.below hb7
    have hvl : (vertsL ls).length ≤ 9223372036854775807 := by have := vertsL_length ls; omega
    obtain ⟨vl, hvE⟩ : ∃ vl, vl = vertsL ls := ⟨_, rfl⟩
    rw [← hvE] at hr6' hr7 hvl ⊢
    clear hvE hr6 hb6 hb7 hB5 hB6
    go_wp2_with fail
    refine (sameInts12_walk a6 a7 c6 c7 vl vl _ hr6' hr7 hvl hvl).mono ?_
    rintro e w8 hq
    obtain ⟨rfl, hb8⟩ := hq.below
    have hB8 := bl_trans hB7 hb8
    have e3 : decide (vl = vl) = true := by simp
    rw [e3]
    clear hq hb8 hB7 hr6' hr7 hvl e3
    go_wp2_with fail
    refine (groups_walkN 10 a cap ls aw _ WL _ (hr.below hB8) hcap (hW.below hB8) HWk.out h10 HWf.out).mono ?_
    rintro e w9 ⟨v9, vals9, rfl, hL9, hb9⟩
    have hB9 := bl_trans hB8 hb9
    go_wp2_with fail
    refine (refGroups12_walkN 10 a cap ls aw _ WL _ (hr.below hB9) hcap (hW.below hB9) HWk.out h10).mono ?_
    rintro e wA ⟨vA, valsA, rfl, hLA, hbA⟩
    have hBA := bl_trans hB9 hbA
    obtain ⟨a9, c9, rfl, hr9, _, _⟩ := hL9.read
    obtain ⟨aA, cA, rfl, hrA, _, _⟩ := hLA.read
    have hr9' := hr9.below hbA
    have hgl : (groupsL ls WL).length ≤ 9223372036854775807 := by have := groups_len_le ls WL; omega
    obtain ⟨gl, hgE⟩ : ∃ gl, gl = groupsL ls WL := ⟨_, rfl⟩
    rw [← hgE] at hr9' hrA hgl ⊢
    clear hgE hr9 hL9 hLA hb9 hbA hB8 hB9
    go_wp2_with fail
    refine (sameGroups_walk a9 aA c9 cA gl gl _ hr9' hrA hgl hgl).mono ?_
    rintro e wB hq
    obtain ⟨rfl, hbB⟩ := hq.below
    have hBB := bl_trans hBA hbB
    have e4 : decide (gl = gl) = true := by simp
    rw [e4]
    clear hq hbB hBA hr9' hrA hgl e4
    go_wp2_with fail
    refine (joined_walk a cap ls _ (hr.below hBB) hcap).mono ?_
    rintro e wC ⟨rfl, hbC⟩
    have hBC := bl_trans hBB hbC
    have e5 : (joinedL ls == joinedL ls) = true := by simp
    clear hbC hBB
    go_wp2_with fail
    refine (refJoined12_walk a cap ls _ (hr.below hBC) hcap).mono ?_
    rintro e wD ⟨rfl, hbD⟩
    have hBD := bl_trans hBC hbD
    clear hbD hBC
    go_wp2_with fail
    refine (two_walk a cap ls _ (hr.below hBD) hcap).mono ?_
    rintro e wE ⟨rfl, hbE⟩
    have hBE := bl_trans hBD hbE
    have e6 : (twoL ls == twoL ls) = true := by simp
    clear hbE hBD
    go_wp2_with fail
    refine (refTwo12_walk a cap ls _ (hr.below hBE) hcap).mono ?_
    rintro e wF ⟨rfl, hbF⟩
    have hBF := bl_trans hBE hbF
    clear hbF hBE
    go_wp2_with fail
    refine (awake_walk _).mono ?_
    rintro e wG ⟨rfl, hbG⟩
    go_wp2_with fail
    go_ret
    exact ⟨by simp, bl_trans hBF hbG⟩
namespace linksTell
open Go Go.RowKit Go.ChangeShapes Go.WideShapes Go.ChangeAt
set_option maxRecDepth 100000 in
theorem lifted (os : Os) (started : os.Started) (H : Type) (enc : TypeId × Value → H) :
    ReturnsInHanded {} Try.checked os 4 .any (Rows.linksTellSpec.pre6 enc Try.prog Try.f4 Rows.linksTellRow.domain false) (Rows.linksTellSpec.post enc Try.prog Try.f4 false true false false) := by
  refine returnsInHanded_of_change (C := Try.checked) rowOwn started (by kernel_rfl) Try.func4
    (ChangeSpec.witness6 (enc := enc) (C := Try.checked) false ⟨#[], #[.slice none 0 0, .slice none 0 0], []⟩ 8 (by kernel_rfl) (by kernel_rfl) (by kernel_rfl) (by kernel_rfl)) ?_
  intro W base args ds gs before hval0 hW hcnd _
  have hval : ∀ (j : Nat) t v, Try.f4.params[j]? = some t → args[j]? = some v → Value.okWide Try.prog W .any base t v := hval0
  have hW' := hW
  obtain ⟨p, q, hA0, hV, rfl, hfz, hnd⟩ := hW
  have hA : DataW.TrodAll enc Try.prog W 0 (fun _ => true) true Try.f4.params.toList args.toList ds p := hA0
  rw [Try.params4] at hA hval
  obtain ⟨v0, vs0, d0, ds0, p0, q0, hargs, rfl, rfl, h0, r0⟩ := trodAll_cons hA
  obtain ⟨v1, vs1, d1, ds1, p1, q1, rfl, rfl, rfl, h1, r1⟩ := trodAll_cons r0
  obtain ⟨rfl, rfl, rfl⟩ := trodAll_nil r1
  obtain rfl : args = #[v0, v1] := by cases args; simp_all
  obtain ⟨rfl, rfl⟩ := trodVars_none hV
  have k0 := h0
  have lt0 : ∀ x ∈ p0, x.block < W.heap.size := by obtain ⟨m, hm⟩ := k0; exact DataW.trod_lt m _ _ _ hm
  obtain ⟨a0, cap0, es0, rfl, rd0, hl0, hm0, wn0⟩ := open_links (hval 0 22 v0 rfl rfl) h0
  have k1 := h1
  have lt1 : ∀ x ∈ p1, x.block < W.heap.size := by obtain ⟨m, hm⟩ := k1; exact DataW.trod_lt m _ _ _ hm
  obtain ⟨a1, cap1, es1, rfl, rd1, hl1, hm1, wn1⟩ := open_nums (hval 1 25 v1 rfl rfl) h1
  clear hA0 hval0
  refine (linksTell_walk a0 cap0 es0 a1 cap1 es1 W rd0 hl0 hm0 wn0 rd1 hl1 hm1 wn1).mono fun e W' ⟨he, bel⟩ => ?_
  subst he
  exact ⟨_, rfl, _, _, _, [], _, [], hW', trodAll_mk1 (shut_bool Try.underlying4 _), (trodAll_cons_mk (Below.trod rowLaid (by kernel_rfl) (of_decide_eq_true (by kernel_rfl)) k0 bel lt0) (trodAll_cons_mk (Below.trod rowLaid (by kernel_rfl) (of_decide_eq_true (by kernel_rfl)) k1 bel lt1) trodAll_mk0)), rfl, bel.frame _, fun h => by cases h⟩
theorem over : Rows.linksTellRow.holds Try.pinned (OpenSpec.ofChange Rows.linksTellSpec) :=
  OpenClaim.holds_of_wide 4 Try.f4 rfl rfl rfl rfl rfl rfl rfl ⟨rfl, rfl, rfl, rfl, rfl⟩ rfl rfl rfl rfl rfl (by kernel_rfl) Try.func4 (by kernel_rfl)
    (of_decide_eq_true (by kernel_rfl)) (by unfold Func.isWrapper; first | (rw [if_pos (by decide +kernel)]; kernel_rfl) | (rw [if_neg (by decide +kernel)]; exact ⟨rfl, rfl⟩))
    (fun os started H enc _ => lifted os started H enc)
/-- The statement. -/
theorem proved : Rows.LinksTellSaid := over
#print axioms proved
end linksTell
end Go.Proofs.Ytagjakgbmmbmhaa
