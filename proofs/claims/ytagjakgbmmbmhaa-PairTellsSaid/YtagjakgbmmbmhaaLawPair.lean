/- The law PairTells: whatever links and two numbers come in (of more than 40 links only the chapter's examples are asked): the classes, whether they part, and the first pair are just what the document defines. It holds of every input. -/
import Derived.Test.YtagjakgbmmbmhaaPaH
import Derived.Test.YtagjakgbmmbmhaaRowL
namespace Go.Proofs.Ytagjakgbmmbmhaa
open Go Go.RowKit Go.ChangeShapes Go.WideShapes Go.ChangeAt Go.Joins Go.Deep

theorem classes_len (ls : List Lk) (p q : Int) : (classesL ls p q).1.length ≤ 1000 := by
  unfold classesL
  split
  · exact groups_len_le _ _
  · simp
set_option maxRecDepth 100000 in
set_option maxHeartbeats 8000000 in
theorem pairTells_walk (a : Option Addr) (cap : Nat) (ls : List Lk) (p q : Int) (w : World) (hr : RdL w a ls) (hl : ls.length ≤ cap) (hm : cap ≤ maxLen) (_hw : ∀ k ∈ ls, WfZ k.1 ∧ WfZ k.2.1 ∧ WfZ k.2.2) (hp : WfZ p) (hq : WfZ q) :
    Calls Try.prog 7 #[.slice a ls.length cap, .int .i64 p, .int .i64 q] w (RetT w true) := by
  have hcap : ls.length ≤ 9223372036854775807 := by unfold maxLen at hm; omega
  clear _hw hm hl
  by_cases h40 : 40 < ls.length
  · have g0 : decide ((40 : Int) < (ls.length : Int)) = true := by simp; omega
    clear hp hq
    go_enter Try.func7, Try.ntmps7
    go_wp2_with fail
    refine (awake13_walk _).mono ?_
    rintro e w1 ⟨rfl, hb1⟩
    go_wp2_with fail
    go_ret
    exact ⟨rfl, hb1⟩
  have g0 : decide ((40 : Int) < (ls.length : Int)) = false := by simp; omega
  clear h40
  have hcl := classes_len ls p q
  obtain ⟨⟨G, er⟩, hC⟩ : ∃ r, r = classesL ls p q := ⟨_, rfl⟩
  obtain ⟨⟨t, e2⟩, hP⟩ : ∃ r, r = partsL2 ls p q := ⟨_, rfl⟩
  obtain ⟨⟨f1, f2, f3, f4⟩, hF⟩ : ∃ r, r = firstL ls := ⟨_, rfl⟩
  rw [← hC] at hcl
  simp only at hcl
  have HC := Lib.hid hC; have HP := Lib.hid hP; have HF := Lib.hid hF; have Hp := Lib.hid hp; have Hq := Lib.hid hq
  clear hC hP hF hp hq
  go_enter Try.func7, Try.ntmps7
  go_wp2_with fail
  refine (classes_walk a cap ls p q _ hr hcap Hp.out Hq.out).mono ?_
  rw [← HC.out]
  rintro e w1 ⟨vo1, vals1, rfl, hL1, hb1⟩
  simp only at hL1 ⊢
  obtain ⟨a1, c1, rfl, hr1, _, _⟩ := hL1.read
  clear hL1
  go_wp2_with fail
  refine (refClasses_walk a cap ls p q _ (hr.below hb1) hcap).mono ?_
  rw [← HC.out]
  rintro e w2 ⟨vo2, vals2, rfl, hL2, hb2⟩
  simp only at hL2 ⊢
  obtain ⟨a2, c2, rfl, hr2, _, _⟩ := hL2.read
  have hB2 := bl_trans hb1 hb2
  have hr1' := hr1.below hb2
  clear hL2 hb1 hb2 hr1
  go_wp2_with fail
  refine (pparts_walk a cap ls p q _ (hr.below hB2) hcap Hp.out Hq.out).mono ?_
  rw [← HP.out]
  rintro e w3 ⟨rfl, hb3⟩
  simp only
  have hB3 := bl_trans hB2 hb3
  have hr1 := hr1'.below hb3
  have hr2' := hr2.below hb3
  clear hb3 hr1' hr2 hB2
  go_wp2_with fail
  refine (refParts13_walk a cap ls p q _ (hr.below hB3) hcap).mono ?_
  rw [← HP.out]
  rintro e w4 ⟨rfl, hb4⟩
  simp only
  have hB4 := bl_trans hB3 hb4
  have hr1' := hr1.below hb4
  have hr2 := hr2'.below hb4
  clear hb4 hr1 hr2' hB3
  go_wp2_with fail
  refine (first_walk a cap ls _ (hr.below hB4) hcap).mono ?_
  rw [← HF.out]
  rintro e w5 ⟨rfl, hb5⟩
  simp only
  have hB5 := bl_trans hB4 hb5
  have hr1 := hr1'.below hb5
  have hr2' := hr2.below hb5
  clear hb5 hr1' hr2 hB4
  go_wp2_with fail
  refine (refFirst_walk a cap ls _ (hr.below hB5) hcap).mono ?_
  rw [← HF.out]
  rintro e w6 ⟨rfl, hb6⟩
  simp only
  have hB6 := bl_trans hB5 hb6
  have hr1' := hr1.below hb6
  have hr2 := hr2'.below hb6
  clear hb6 hr1 hr2' hB5
  have y1 : (er == er) = true := by simp
  have y2 : (t == t) = true := by simp
  have y3 : (e2 == e2) = true := by simp
  have y4 : (f1 == f1) = true := by simp
  have y5 : (f2 == f2) = true := by simp
  have y6 : (f3 == f3) = true := by simp
  have y7 : (f4 == f4) = true := by simp
  go_wp2_with fail
  refine (sameGroups_walk a1 a2 c1 c2 G G _ hr1' hr2 (by omega) (by omega)).mono ?_
  rintro e w7 hq7
  obtain ⟨rfl, hb7⟩ := hq7.below
  have hB7 := bl_trans hB6 hb7
  have e9 : decide (G = G) = true := by simp
  rw [e9]
  clear hq7 hb7 hB6 hr1' hr2 e9
  go_wp2_with fail
  refine (awake13_walk _).mono ?_
  rintro e w8 ⟨rfl, hb8⟩
  go_wp2_with fail
  go_ret
  exact ⟨rfl, bl_trans hB7 hb8⟩
namespace pairTells
open Go Go.RowKit Go.ChangeShapes Go.WideShapes Go.ChangeAt
set_option maxRecDepth 100000 in
theorem lifted (os : Os) (started : os.Started) (H : Type) (enc : TypeId × Value → H) :
    ReturnsInHanded {} Try.checked os 7 .any (Rows.pairTellsSpec.pre6 enc Try.prog Try.f7 Rows.pairTellsRow.domain false) (Rows.pairTellsSpec.post enc Try.prog Try.f7 false true false false) := by
  refine returnsInHanded_of_change (C := Try.checked) rowOwn started (by kernel_rfl) Try.func7
    (ChangeSpec.witness6 (enc := enc) (C := Try.checked) false ⟨#[], #[.slice none 0 0, .int .i64 0, .int .i64 0], []⟩ 8 (by kernel_rfl) (by kernel_rfl) (by kernel_rfl) (by kernel_rfl)) ?_
  intro W base args ds gs before hval0 hW hcnd _
  have hval : ∀ (j : Nat) t v, Try.f7.params[j]? = some t → args[j]? = some v → Value.okWide Try.prog W .any base t v := hval0
  have hW' := hW
  obtain ⟨p, q, hA0, hV, rfl, hfz, hnd⟩ := hW
  have hA : DataW.TrodAll enc Try.prog W 0 (fun _ => true) true Try.f7.params.toList args.toList ds p := hA0
  rw [Try.params7] at hA hval
  obtain ⟨v0, vs0, d0, ds0, p0, q0, hargs, rfl, rfl, h0, r0⟩ := trodAll_cons hA
  obtain ⟨v1, vs1, d1, ds1, p1, q1, rfl, rfl, rfl, h1, r1⟩ := trodAll_cons r0
  obtain ⟨v2, vs2, d2, ds2, p2, q2, rfl, rfl, rfl, h2, r2⟩ := trodAll_cons r1
  obtain ⟨rfl, rfl, rfl⟩ := trodAll_nil r2
  obtain rfl : args = #[v0, v1, v2] := by cases args; simp_all
  obtain ⟨rfl, rfl⟩ := trodVars_none hV
  have k0 := h0
  have lt0 : ∀ x ∈ p0, x.block < W.heap.size := by obtain ⟨m, hm⟩ := k0; exact DataW.trod_lt m _ _ _ hm
  obtain ⟨a0, cap0, es0, rfl, rd0, hl0, hm0, wn0⟩ := open_links (hval 0 22 v0 rfl rfl) h0
  obtain ⟨x1, rfl, rfl, rfl, wn1⟩ := open_int Try.underlying3 (hval 1 3 v1 rfl rfl) h1
  obtain ⟨x2, rfl, rfl, rfl, wn2⟩ := open_int Try.underlying3 (hval 2 3 v2 rfl rfl) h2
  clear hA0 hval0
  refine (pairTells_walk a0 cap0 es0 x1 x2 W rd0 hl0 hm0 wn0 wn1 wn2).mono fun e W' ⟨he, bel⟩ => ?_
  subst he
  exact ⟨_, rfl, _, _, _, [], _, [], hW', trodAll_mk1 (shut_bool Try.underlying4 _), (trodAll_cons_mk (Below.trod rowLaid (by kernel_rfl) (of_decide_eq_true (by kernel_rfl)) k0 bel lt0) (trodAll_cons_mk (shut_int Try.underlying3 wn1) (trodAll_cons_mk (shut_int Try.underlying3 wn2) trodAll_mk0))), rfl, bel.frame _, fun h => by cases h⟩
theorem over : Rows.pairTellsRow.holds Try.pinned (OpenSpec.ofChange Rows.pairTellsSpec) :=
  OpenClaim.holds_of_wide 7 Try.f7 rfl rfl rfl rfl rfl rfl rfl ⟨rfl, rfl, rfl, rfl, rfl⟩ rfl rfl rfl rfl rfl (by kernel_rfl) Try.func7 (by kernel_rfl)
    (of_decide_eq_true (by kernel_rfl)) (by unfold Func.isWrapper; first | (rw [if_pos (by decide +kernel)]; kernel_rfl) | (rw [if_neg (by decide +kernel)]; exact ⟨rfl, rfl⟩))
    (fun os started H enc _ => lifted os started H enc)
/-- The statement. -/
theorem proved : Rows.PairTellsSaid := over
#print axioms proved
end pairTells
end Go.Proofs.Ytagjakgbmmbmhaa
