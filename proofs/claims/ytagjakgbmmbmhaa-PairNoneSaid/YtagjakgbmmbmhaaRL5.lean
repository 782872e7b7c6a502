/- fretworkref12.Joined and Two. -/
import Derived.Test.YtagjakgbmmbmhaaRL4
import Derived.Test.YtagjakgbmmbmhaaRL2v
import Derived.Test.YtagjakgbmmbmhaaTwoP
namespace Go.Proofs.Ytagjakgbmmbmhaa
open Go Go.RowKit

theorem groups_len_le (ls : List Lk) (wo : List Int) : (groupsL ls wo).length ≤ 1000 := by
  unfold groupsL
  split
  · rename_i h
    rw [List.length_map, gIdx_length]
    have := firsts_length_le (compC ls.length (bsL ls wo)) ls.length
    have := ((rightL_iff ls).1 h).1
    omega
  · simp
theorem refJoined12_walk (a : Option Addr) (cap : Nat) (ls : List Lk) (w : World) (hr : RdL w a ls) (hcap : ls.length ≤ 9223372036854775807) :
    Calls Try.prog 25 #[.slice a ls.length cap] w fun e w' => e = .returned (.bool (joinedL ls)) ∧ Below w.heap.size w w' := by
  obtain ⟨g, hg⟩ : ∃ g, g = groupsL ls [] := ⟨_, rfl⟩
  have hgl : g.length ≤ 1000000 := by rw [hg]; have := groups_len_le ls []; omega
  have hj : ((g.length : Int) == 1) = joinedL ls := by unfold joinedL; rw [← hg, Bool.eq_iff_iff]; simp; omega
  have Hj := Lib.hid hj; have Hg := Lib.hid hg; clear hj
  go_enter Try.func25, Try.ntmps25
  go_wp2_with fail
  refine (refGroups12_walk a cap ls none 0 [] _ hr hcap (by intro i u hu; simp at hu) (by simp)).mono ?_
  rintro e w1 ⟨vo, vals, rfl, hL, hb⟩
  rw [← Hg.out] at hL
  obtain ⟨ao, co, rfl, _⟩ := hL.read
  clear hL hg
  go_wp2_with fail
  go_ret
  exact ⟨by rw [Hj.out] <;> rfl, hb⟩

theorem joined_right {ls : List Lk} (h : joinedL ls = true) : rightL ls = true := by
  unfold joinedL groupsL at h
  cases hr : rightL ls with
  | true => rfl
  | false => rw [hr] at h; simp at h

theorem refTwo12_walk (a : Option Addr) (cap : Nat) (ls : List Lk) (w : World) (hr : RdL w a ls) (hcap : ls.length ≤ 9223372036854775807) :
    Calls Try.prog 26 #[.slice a ls.length cap] w fun e w' => e = .returned (.bool (twoL ls)) ∧ Below w.heap.size w w' := by
  cases hj : joinedL ls with
  | false =>
    have h2 : twoL ls = false := by unfold twoL; rw [hj]; rfl
    have Hj := Lib.hid hj; have H2 := Lib.hid h2; clear hj h2
    go_enter Try.func26, Try.ntmps26
    go_wp2_with fail
    refine (refJoined12_walk a cap ls _ hr hcap).mono ?_
    rw [Hj.out]
    rintro e w1 ⟨rfl, hb1⟩
    go_wp2_with fail
    go_ret
    exact ⟨by rw [H2.out] <;> rfl, hb1⟩
  | true =>
    have hn := ((rightL_iff ls).1 (joined_right hj)).1
    obtain ⟨vs, hvs⟩ : ∃ vs, vs = vertsL ls := ⟨_, rfl⟩
    have hvl : vs.length ≤ 2000 := by rw [hvs]; have := vertsL_length ls; omega
    have ht2 : twoL ls = (decide (vs.length ≤ 2) || vs.all fun v => (groupsL ls [v]).length == 1) := by unfold twoL; rw [hj, ← hvs]; rfl
    have Hvs := Lib.hid hvs; have Hj := Lib.hid hj; have Ht2 := Lib.hid ht2; clear hvs hj ht2
    go_enter Try.func26, Try.ntmps26
    go_wp2_with fail
    refine (refJoined12_walk a cap ls _ hr hcap).mono ?_
    rw [Hj.out]
    rintro e w1 ⟨rfl, hb1⟩
    have hr1 := hr.below hb1
    go_wp2_with fail
    refine (refVerts12_walk a cap ls _ hr1 (by omega)).mono ?_
    rw [← Hvs.out]
    rintro e w2 ⟨av, cv, rfl, hv, _, hcv, hcm, hb2⟩
    have hr2 := hr1.below hb2
    have hb12 := bl_trans hb1 hb2
    clear hr hr1 hb1 hb2
    unfold maxLen at hcm
    go_wp2_with fail
    go_loopg [4] vs.length (fun r iv wj => ∃ i : Nat, i + r = vs.length ∧ iv = .int .i64 i ∧ (∀ j (h : j < vs.length), j < i → (groupsL ls [vs[j]]).length = 1) ∧ Below w2.heap.size w2 wj)
    case atStart => exact ⟨0, by omega, rfl, fun j h hj => absurd hj (by omega), bl_refl _⟩
    case round =>
      obtain ⟨i, hi, rfl, hall, hb⟩ := hrel
      have Hall := Lib.hid hall; have Hi := Lib.hid hi
      clear hall
      by_cases hil : i < vs.length
      · by_cases h2 : 2 < vs.length
        · clear hi
          obtain ⟨b, o, rfl, c0⟩ := (hv.below hb).at i hil
          obtain ⟨v, hvi⟩ : ∃ v, vs[i] = v := ⟨_, rfl⟩
          rw [hvi] at c0
          have Hvi := Lib.hid hvi; clear hvi
          have hrj := hr2.below hb
          have hw1 : RdI wr (some ⟨b, o + i, none⟩) [v] := by
            intro j u hu
            match j with
            | 0 => simp at hu; subst hu; exact ⟨b, o + i, rfl, c0⟩
            | j + 1 => simp at hu
          obtain ⟨G, hG⟩ : ∃ G, G = groupsL ls [v] := ⟨_, rfl⟩
          have hGl : G.length ≤ 1000 := by rw [hG]; exact groups_len_le _ _
          have HG := Lib.hid hG; clear hG
          have hone : i + 1 - i = 1 := by omega
          have hiv : i ≤ cv := by omega
          have hciv : ¬ cv = i := by omega
          go_wp2_with fail
          refine (refGroups12_walk a cap ls (some ⟨b, o + i, none⟩) (cv - i) [v] _ hrj hcap hw1 (by simp)).mono ?_
          rintro e w4 ⟨vo, vals, rfl, hL, hb4⟩
          rw [← HG.out] at hL
          obtain ⟨ao, co, rfl, _⟩ := hL.read
          clear hL
          by_cases hg1 : G.length = 1
          · have q1 : ((G.length : Int) != 1) = false := by rw [hg1]; rfl
            have q2 : (G.length != 1) = false := by rw [hg1]; rfl
            have hst : ∀ j (h : j < vs.length), j < i + 1 → (groupsL ls [vs[j]]).length = 1 := fun j h hj => by
              by_cases e : j < i
              · exact Hall.out j h e
              · obtain rfl : j = i := by omega
                rw [Hvi.out, ← HG.out]; exact hg1
            have Hst := Lib.hid hst; clear hst hg1
            go_wp2_with fail
            go_roundg (gk - 1)
            case measure => have := Hi.out; omega
            case rel => exact ⟨i + 1, by have := Hi.out; omega, by go_num, Hst.out, bl_trans hb hb4⟩
          · have q1 : ((G.length : Int) != 1) = true := by simp only [bne_iff_ne, ne_eq]; omega
            have q2 : (G.length != 1) = true := by simp only [bne_iff_ne, ne_eq]; omega
            have hfin : twoL ls = false := by
              rw [Ht2.out, Bool.or_eq_false_iff]
              refine ⟨by simpa using h2, ?_⟩
              rw [List.all_eq_false]
              exact ⟨v, by rw [← Hvi.out]; exact List.getElem_mem _, by rw [← HG.out]; simpa using hg1⟩
            have Hfin := Lib.hid hfin; clear hfin hg1
            go_wp2_with fail
            go_ret
            exact ⟨by rw [Hfin.out] <;> rfl, bl_trans hb12 (bl_trans hb hb4)⟩
        · have hfin : twoL ls = true := by
            rw [Ht2.out, decide_eq_true (show vs.length ≤ 2 by omega)]; rfl
          have d2 : decide ((2 : Int) < (vs.length : Int)) = false := by simp; omega
          have d3 : decide (2 < vs.length) = false := by simp; omega
          have Hfin := Lib.hid hfin; clear hfin hi h2
          go_wp2_with fail
          go_ret
          exact ⟨by rw [Hfin.out] <;> rfl, bl_trans hb12 hb⟩
      · have hin : i = vs.length := by omega
        subst hin
        have hfin : twoL ls = true := by
          rw [Ht2.out, Bool.or_eq_true]
          right
          rw [List.all_eq_true]
          intro v hv'
          obtain ⟨j, hj, rfl⟩ := List.getElem_of_mem hv'
          simpa using Hall.out j hj hj
        have Hfin := Lib.hid hfin; clear hfin hi
        go_wp2_with fail
        go_ret
        exact ⟨by rw [Hfin.out] <;> rfl, bl_trans hb12 hb⟩
end Go.Proofs.Ytagjakgbmmbmhaa
