/- The law SpqrCentre: of any two-connected real links (at most 40) of three vertices at least, the centre of their tree of parts is one part or two, and from none of its parts any other part is further away than from all others. It holds for any links, of any length: all others only ask the chapter's examples. -/
import Derived.Test.YtagcbnpahgfgmaaGreatKC12
namespace Go.Proofs.YtagcbnpahgfgmaaGreat
open Go Go.RowKit Go.ChangeShapes Go.WideShapes Go.ChangeAt Go.Joins Go.Deep Go.Maps
theorem EccW.one {bs : Nat → List Nat} {n v a b : Nat} (h : EccW bs n v a) (k : EccW bs n v b) : a = b := by
 have := h.2 b k.1; have := k.2 a h.1; omega
theorem len_two {α : Type} {l : List α} (h1 : 1 ≤ l.length) (h2 : l.length ≤ 2) : (∃ x, l = [x]) ∨ ∃ x y, l = [x, y] := by
 match l, h1, h2 with
 | [x], _, _ => exact .inl ⟨x, rfl⟩
 | [x, y], _, _ => exact .inr ⟨x, y, rfl⟩
set_option maxRecDepth 100000 in
set_option maxHeartbeats 4000000 in
theorem spqrCentre_walk (a : Option Addr) (cap : Nat) (ls : List Lk) (w : World) (hr : RdL w a ls) (hl : ls.length ≤ cap) (hm : cap ≤ maxLen) (_hw : ∀ k ∈ ls, WfZ k.1 ∧ WfZ k.2.1 ∧ WfZ k.2.2) :
  Calls Tryz.prog 6 #[.slice a ls.length cap] w (RetT w true) := by
 have hcap : ls.length ≤ 9223372036854775807 := by unfold maxLen at hm; omega
 clear hl hm _hw
 cases ht : twoR ls with
 | false =>
  have Ht := Lib.hid ht
  clear ht
  go_enter Tryz.func6, Tryz.ntmps6
  go_wp2_with fail
  refine (two15_walk a cap ls _ hr hcap).mono ?_
  rw [Ht.out]
  rintro e w1 ⟨rfl, hb1⟩
  go_wp2_with fail
  refine (awake15_walk _).mono ?_
  rintro e w2 ⟨rfl, hb2⟩
  go_wp2_with fail
  go_ret
  exact ⟨rfl, bl_trans hb1 hb2⟩
 | true =>
  obtain ⟨h2, hv0, h3, hwt, h40⟩ := twoR_facts ht
  have hRl := two_right h2
  have Ht := Lib.hid ht; have Hwt := Lib.hid hwt; have HRl := Lib.hid hRl; have Hv0 := Lib.hid hv0; have H2 := Lib.hid h2
  clear ht hwt hRl hv0 h2
  go_enter Tryz.func6, Tryz.ntmps6
  go_wp2_with fail
  refine (two15_walk a cap ls _ hr hcap).mono ?_
  rw [Ht.out]
  rintro e w1 ⟨rfl, hb1⟩
  go_wp2_with fail
  refine (stree_walk a cap ls _ (hr.below hb1) hcap).mono ?_
  rintro e w2 ⟨hb2, ⟨-, s, c, T, rfl, hq, htr, -, -⟩ | ⟨hno, -⟩⟩
  rotate_left
  · rw [Hwt.out] at hno; cases hno
  have hTl := htr.few HRl.out Hv0.out h3
  have hRQ := htr.rightQ H2.out Hv0.out h3
  have hce : centreL T = centreQ T := by unfold centreL; rw [rightB_iff.2 hRQ]; rfl
  have hcl1 := hRQ.centre_len
  have HRQ := Lib.hid hRQ
  have hlt0 : ∀ j ∈ centreQ T, j < T.length := fun j hj => by
   unfold centreQ at hj; exact List.mem_range.1 (List.mem_filter.1 hj).1
  have hpc : (w2.alloc (.cells #[.slice s T.length c] 24)).cell? ⟨w2.heap.size, 0, none⟩ = some (.slice s T.length c) := by simp
  have hbl := bl_alloc w2 (.cells #[.slice s T.length c] 24)
  have hq2 := hq.below hbl
  have hB2 := bl_trans (bl_trans hb1 hb2) hbl
  have hcw := centre_walk s c T (w2.alloc (.cells #[.slice s T.length c] 24)) hq2 hTl
  rcases len_two hcl1.1 hcl1.2 with ⟨u, hu⟩ | ⟨u, v, hu⟩
  ·
   rw [hce, hu] at hcw; have hu0 : u ∈ centreQ T := by rw [hu]; simp
   have hul := hlt0 u hu0; have Hu := Lib.hid hu; have Hu0 := Lib.hid hu0; clear hRQ htr hb1 hb2 hbl hu hu0 hlt0 hcl1 hce hq; go_wp2_with fail; refine hcw.mono ?_; rintro e w3 ⟨ac, cc, rfl, hcl, hb3⟩; obtain ⟨bc, oc, rfl, c0⟩ := hcl 0 (vN u) rfl; unfold vN at c0; simp only [Nat.add_zero] at c0; have hp3 := keep_cell hb3 hpc; have hq3 := hq2.below hb3; have hB3 := bl_trans hB2 hb3; clear hcw hcl hpc hq2 hB2 hb3; go_wp2_with fail; refine (far_walk _ s c T u _ hp3 hq3 hTl HRQ.out hul).mono ?_; rintro e w4 ⟨a0, rfl, hE0, hb4⟩; have hu0 := Hu0.out; have hfar : ∀ j, j < T.length → ∀ {b}, EccW (besQ T) T.length j b → (j ∈ centreQ T → a0 = b) ∧ (j ∉ centreQ T → a0 < b) := fun j hj b hb => HRQ.out.centre_far hu0 hj hE0 hb; have Hfar := Lib.hid hfar; have hB4 := bl_trans hB3 hb4; have hp4 := keep_cell hb4 hp3; have hq4 := hq3.below hb4; replace c0 := keep_cell hb4 c0; clear hfar hE0 hp3 hq3 hB3; clear hb4 hu0; go_wp2_with fail; go_loopg [39] T.length (fun r iv wj => ∃ i : Nat, i + r = T.length ∧ iv = .int .i64 i ∧ Below w4.heap.size w4 wj)
   case atStart => exact ⟨0, by omega, rfl, bl_refl _⟩
   case round =>
    obtain ⟨i, hi, rfl, hB⟩ := hrel; have Hi := Lib.hid hi; by_cases hil : i < T.length
    ·
     clear hi; have hpr := keep_cell hB hp4; have hqr := hq4.below hB; have c0r := keep_cell hB c0; have iI : (i : Int) < (T.length : Int) := by omega
     by_cases hiu : i = u
     ·
      subst hiu; have Hin := Lib.hid Hu0.out; have hEi := Hfar.out i; go_wp2_with fail; refine (far_walk _ s c T i _ hpr hqr hTl HRQ.out hil).mono ?_; rintro e w5 ⟨d1, rfl, hE1, hb5⟩; obtain rfl : a0 = d1 := ((hEi hil hE1).1 Hin.out)
      have hp5 := keep_cell hb5 hpr; have hq5 := hqr.below hb5; have hB5 := bl_trans hB hb5; clear hpr hqr hb5 hB hEi hE1; go_wp2_with fail; refine (far_walk _ s c T i _ hp5 hq5 hTl HRQ.out hil).mono ?_; rintro e w6 ⟨d2, rfl, hE2, hb6⟩; obtain rfl : a0 = d2 := ((Hfar.out i hil hE2).1 Hin.out)
      have hB6 := bl_trans hB5 hb6; clear hp5 hq5 hb6 hB5 hE2; go_wp2_with fail; go_roundg (gk - 1)
      case measure => have := Hi.out; omega
      case rel => exact ⟨i + 1, by have := Hi.out; omega, by go_num, hB6⟩
     ·
      have e1 : ((i : Int) == (u : Int)) = false := by simp; omega
      have hin : i ∉ centreQ T := by rw [Hu.out]; simpa using hiu
      have Hin := Lib.hid hin; clear hin hiu; have hEi := Hfar.out i; go_wp2_with fail; refine (far_walk _ s c T i _ hpr hqr hTl HRQ.out hil).mono ?_; rintro e w5 ⟨d1, rfl, hE1, hb5⟩; have hlt : a0 < d1 := ((hEi hil hE1).2 Hin.out)
      have q1 : decide ((d1 : Int) < (a0 : Int)) = false := by simp; omega
      have q2 : ((d1 : Int) == (a0 : Int)) = false := by simp; omega
      have q3 : decide (d1 < a0) = false := by simp; omega
      have q4 : (d1 == a0) = false := by simp; omega
      have hp5 := keep_cell hb5 hpr; have hq5 := hqr.below hb5; have hB5 := bl_trans hB hb5; have HE1 := Lib.hid hE1; clear hpr hqr hb5 hB hEi hE1 hlt; go_wp2_with fail; refine (far_walk _ s c T i _ hp5 hq5 hTl HRQ.out hil).mono ?_; rintro e w6 ⟨d2, rfl, hE2, hb6⟩; obtain rfl : d1 = d2 := HE1.out.one hE2; have hB6 := bl_trans hB5 hb6; clear hp5 hq5 hb6 hB5 hE2 HE1; go_wp2_with fail; go_roundg (gk - 1)
      case measure => have := Hi.out; omega
      case rel => exact ⟨i + 1, by have := Hi.out; omega, by go_num, hB6⟩
    ·
     have hin : i = T.length := by omega
     subst hin; have hB9 := bl_trans hB4 hB; clear hi hB hp4 hq4; go_wp2_with fail; refine (awake15_walk _).mono ?_; rintro e w9 ⟨rfl, hb9⟩; go_wp2_with fail; go_ret; exact ⟨rfl, bl_trans hB9 hb9⟩
  ·
   rw [hce, hu] at hcw; have hu0 : u ∈ centreQ T := by rw [hu]; simp
   have hv0 : v ∈ centreQ T := by rw [hu]; simp
   have hul := hlt0 u hu0; have Hu := Lib.hid hu; have Hu0 := Lib.hid hu0; have Hv1 := Lib.hid hv0; clear hRQ htr hb1 hb2 hbl hu hu0 hv0 hlt0 hcl1 hce hq; go_wp2_with fail; refine hcw.mono ?_; rintro e w3 ⟨ac, cc, rfl, hcl, hb3⟩; obtain ⟨bc, oc, rfl, c0⟩ := hcl 0 (vN u) rfl; obtain ⟨bc', oc', he, c1⟩ := hcl 1 (vN v) rfl; cases he; unfold vN at c0 c1; simp only [Nat.add_zero] at c0; have hp3 := keep_cell hb3 hpc; have hq3 := hq2.below hb3; have hB3 := bl_trans hB2 hb3; clear hcw hcl hpc hq2 hB2 hb3; go_wp2_with fail; refine (far_walk _ s c T u _ hp3 hq3 hTl HRQ.out hul).mono ?_; rintro e w4 ⟨a0, rfl, hE0, hb4⟩; have hu0 := Hu0.out; have hfar : ∀ j, j < T.length → ∀ {b}, EccW (besQ T) T.length j b → (j ∈ centreQ T → a0 = b) ∧ (j ∉ centreQ T → a0 < b) := fun j hj b hb => HRQ.out.centre_far hu0 hj hE0 hb; have Hfar := Lib.hid hfar; have hB4 := bl_trans hB3 hb4; have hp4 := keep_cell hb4 hp3; have hq4 := hq3.below hb4; replace c0 := keep_cell hb4 c0; clear hfar hE0 hp3 hq3 hB3; replace c1 := keep_cell hb4 c1; clear hb4 hu0; go_wp2_with fail; go_loopg [39] T.length (fun r iv wj => ∃ i : Nat, i + r = T.length ∧ iv = .int .i64 i ∧ Below w4.heap.size w4 wj)
   case atStart => exact ⟨0, by omega, rfl, bl_refl _⟩
   case round =>
    obtain ⟨i, hi, rfl, hB⟩ := hrel; have Hi := Lib.hid hi; by_cases hil : i < T.length
    ·
     clear hi; have hpr := keep_cell hB hp4; have hqr := hq4.below hB; have c0r := keep_cell hB c0; have c1r := keep_cell hB c1; have iI : (i : Int) < (T.length : Int) := by omega
     by_cases hiu : i = u
     ·
      subst hiu; have Hin := Lib.hid Hu0.out; have hEi := Hfar.out i; go_wp2_with fail; refine (far_walk _ s c T i _ hpr hqr hTl HRQ.out hil).mono ?_; rintro e w5 ⟨d1, rfl, hE1, hb5⟩; obtain rfl : a0 = d1 := ((hEi hil hE1).1 Hin.out)
      have hp5 := keep_cell hb5 hpr; have hq5 := hqr.below hb5; have hB5 := bl_trans hB hb5; clear hpr hqr hb5 hB hEi hE1; go_wp2_with fail; refine (far_walk _ s c T i _ hp5 hq5 hTl HRQ.out hil).mono ?_; rintro e w6 ⟨d2, rfl, hE2, hb6⟩; obtain rfl : a0 = d2 := ((Hfar.out i hil hE2).1 Hin.out)
      have hB6 := bl_trans hB5 hb6; clear hp5 hq5 hb6 hB5 hE2; go_wp2_with fail; go_roundg (gk - 1)
      case measure => have := Hi.out; omega
      case rel => exact ⟨i + 1, by have := Hi.out; omega, by go_num, hB6⟩
     ·
      have e1 : ((i : Int) == (u : Int)) = false := by simp; omega
      have e1' : (i == u) = false := by simp; omega
      by_cases hiv : i = v
      ·
       subst hiv; have Hin := Lib.hid Hv1.out; clear hiu; have hEi := Hfar.out i; go_wp2_with fail; refine (far_walk _ s c T i _ hpr hqr hTl HRQ.out hil).mono ?_; rintro e w5 ⟨d1, rfl, hE1, hb5⟩; obtain rfl : a0 = d1 := ((hEi hil hE1).1 Hin.out)
       have hp5 := keep_cell hb5 hpr; have hq5 := hqr.below hb5; have hB5 := bl_trans hB hb5; clear hpr hqr hb5 hB hEi hE1; go_wp2_with fail; refine (far_walk _ s c T i _ hp5 hq5 hTl HRQ.out hil).mono ?_; rintro e w6 ⟨d2, rfl, hE2, hb6⟩; obtain rfl : a0 = d2 := ((Hfar.out i hil hE2).1 Hin.out)
       have hB6 := bl_trans hB5 hb6; clear hp5 hq5 hb6 hB5 hE2; go_wp2_with fail; go_roundg (gk - 1)
       case measure => have := Hi.out; omega
       case rel => exact ⟨i + 1, by have := Hi.out; omega, by go_num, hB6⟩
      ·
       have e2 : ((i : Int) == (v : Int)) = false := by simp; omega
       have e2' : (i == v) = false := by simp; omega
       have hin : i ∉ centreQ T := by rw [Hu.out]; simp; omega
       have Hin := Lib.hid hin; clear hin hiu hiv; have hEi := Hfar.out i; go_wp2_with fail; refine (far_walk _ s c T i _ hpr hqr hTl HRQ.out hil).mono ?_; rintro e w5 ⟨d1, rfl, hE1, hb5⟩; have hlt : a0 < d1 := ((hEi hil hE1).2 Hin.out)
       have q1 : decide ((d1 : Int) < (a0 : Int)) = false := by simp; omega
       have q2 : ((d1 : Int) == (a0 : Int)) = false := by simp; omega
       have q3 : decide (d1 < a0) = false := by simp; omega
       have q4 : (d1 == a0) = false := by simp; omega
       have hp5 := keep_cell hb5 hpr; have hq5 := hqr.below hb5; have hB5 := bl_trans hB hb5; have HE1 := Lib.hid hE1; clear hpr hqr hb5 hB hEi hE1 hlt; go_wp2_with fail; refine (far_walk _ s c T i _ hp5 hq5 hTl HRQ.out hil).mono ?_; rintro e w6 ⟨d2, rfl, hE2, hb6⟩; obtain rfl : d1 = d2 := HE1.out.one hE2; have hB6 := bl_trans hB5 hb6; clear hp5 hq5 hb6 hB5 hE2 HE1; go_wp2_with fail; go_roundg (gk - 1)
       case measure => have := Hi.out; omega
       case rel => exact ⟨i + 1, by have := Hi.out; omega, by go_num, hB6⟩
    ·
     have hin : i = T.length := by omega
     subst hin; have hB9 := bl_trans hB4 hB; clear hi hB hp4 hq4; go_wp2_with fail; refine (awake15_walk _).mono ?_; rintro e w9 ⟨rfl, hb9⟩; go_wp2_with fail; go_ret; exact ⟨rfl, bl_trans hB9 hb9⟩
namespace spqrCentre
open Go Go.RowKit Go.ChangeShapes Go.WideShapes Go.ChangeAt
set_option maxRecDepth 100000 in
theorem lifted (os : Os) (started : os.Started) (H : Type) (enc : TypeId × Value → H) :
  ReturnsInHanded {} Tryz.checked os 6 .any (Rows.spqrCentreSpec.pre6 enc Tryz.prog Tryz.f6 Rows.spqrCentreRow.domain false) (Rows.spqrCentreSpec.post enc Tryz.prog Tryz.f6 false true false false) := by
 refine returnsInHanded_of_change (C := Tryz.checked) rowOwn started (by kernel_rfl) Tryz.func6
  (ChangeSpec.witness6 (enc := enc) (C := Tryz.checked) false ⟨#[], #[.slice none 0 0], []⟩ 8 (by kernel_rfl) (by kernel_rfl) (by kernel_rfl) (by kernel_rfl)) ?_
 intro W base args ds gs before hval0 hW hcnd _
 have hval : ∀ (j : Nat) t v, Tryz.f6.params[j]? = some t → args[j]? = some v → Value.okWide Tryz.prog W .any base t v := hval0
 have hW' := hW
 obtain ⟨p, q, hA0, hV, rfl, hfz, hnd⟩ := hW
 have hA : DataW.TrodAll enc Tryz.prog W 0 (fun _ => true) true Tryz.f6.params.toList args.toList ds p := hA0
 rw [Tryz.params6] at hA hval
 obtain ⟨v0, vs0, d0, ds0, p0, q0, hargs, rfl, rfl, h0, r0⟩ := trodAll_cons hA
 obtain ⟨rfl, rfl, rfl⟩ := trodAll_nil r0
 obtain rfl : args = #[v0] := by cases args; simp_all
 obtain ⟨rfl, rfl⟩ := trodVars_none hV
 have k0 := h0
 have lt0 : ∀ x ∈ p0, x.block < W.heap.size := by obtain ⟨m, hm⟩ := k0; exact DataW.trod_lt m _ _ _ hm
 obtain ⟨a0, cap0, es0, rfl, rd0, hl0, hm0, wn0⟩ := open_links (hval 0 22 v0 rfl rfl) h0
 clear hA0 hval0
 refine (spqrCentre_walk a0 cap0 es0 W rd0 hl0 hm0 wn0).mono fun e W' ⟨he, bel⟩ => ?_
 subst he
 exact ⟨_, rfl, _, _, _, [], _, [], hW', trodAll_mk1 (shut_bool Tryz.underlying4 _), (trodAll_cons_mk (Below.trod rowLaid (by kernel_rfl) (of_decide_eq_true (by kernel_rfl)) k0 bel lt0) trodAll_mk0), rfl, bel.frame _, fun h => by cases h⟩
theorem over : Rows.spqrCentreRow.holds Tryz.pinned (OpenSpec.ofChange Rows.spqrCentreSpec) :=
 OpenClaim.holds_of_wide 6 Tryz.f6 rfl rfl rfl rfl rfl rfl rfl ⟨rfl, rfl, rfl, rfl, rfl⟩ rfl rfl rfl rfl rfl (by kernel_rfl) Tryz.func6 (by kernel_rfl)
  (of_decide_eq_true (by kernel_rfl)) (by unfold Func.isWrapper; first | (rw [if_pos (by decide +kernel)]; kernel_rfl) | (rw [if_neg (by decide +kernel)]; exact ⟨rfl, rfl⟩))
  (fun os started H enc _ => lifted os started H enc)
theorem proved : Rows.SpqrCentreSaid := over
end spqrCentre
end Go.Proofs.YtagcbnpahgfgmaaGreat
