/- fretworkref12.ahead, has, Right. -/
import Derived.Test.YtagjakgbmmbmhaaLkS
namespace Go.Proofs.Ytagjakgbmmbmhaa
open Go Go.RowKit

theorem ahead_walk (a1 a2 a3 b1 b2 b3 : Int) (w : World) :
    Calls Try.prog 44 #[.agg #[.int .i64 a1, .int .i64 a2, .int .i64 a3], .agg #[.int .i64 b1, .int .i64 b2, .int .i64 b3]] w
      fun e w' => e = .returned (.bool (decide (LtL (a1, a2, a3) (b1, b2, b3)))) ∧ Below w.heap.size w w' := by
  have hB := bl_trans (bl_alloc w (.cells #[.int .i64 a1, .int .i64 a2, .int .i64 a3] 29)) (bl_alloc _ (.cells #[.int .i64 b1, .int .i64 b2, .int .i64 b3] 29))
  have hdef : LtL (a1, a2, a3) (b1, b2, b3) ↔ (a1 < b1 ∨ (a1 = b1 ∧ (a2 < b2 ∨ (a2 = b2 ∧ a3 < b3)))) := Iff.rfl
  by_cases h1 : a1 = b1
  · have g1 : (a1 != b1) = false := by simpa using h1
    by_cases h2 : a2 = b2
    · have g2 : (a2 != b2) = false := by simpa using h2
      have hd : decide (LtL (a1, a2, a3) (b1, b2, b3)) = decide (a3 < b3) := by rw [decide_eq_decide, hdef]; omega
      have Hd := Lib.hid hd; clear hd hdef h1 h2
      go_enter Try.func44, Try.ntmps44
      go_wp2_with fail
      go_ret
      exact ⟨by rw [Hd.out] <;> rfl, hB⟩
    · have g2 : (a2 != b2) = true := by simpa using h2
      have hd : decide (LtL (a1, a2, a3) (b1, b2, b3)) = decide (a2 < b2) := by rw [decide_eq_decide, hdef]; omega
      have Hd := Lib.hid hd; clear hd hdef h1 h2
      go_enter Try.func44, Try.ntmps44
      go_wp2_with fail
      go_ret
      exact ⟨by rw [Hd.out] <;> rfl, hB⟩
  · have g1 : (a1 != b1) = true := by simpa using h1
    have hd : decide (LtL (a1, a2, a3) (b1, b2, b3)) = decide (a1 < b1) := by rw [decide_eq_decide, hdef]; omega
    have Hd := Lib.hid hd; clear hd hdef h1
    go_enter Try.func44, Try.ntmps44
    go_wp2_with fail
    go_ret
    exact ⟨by rw [Hd.out] <;> rfl, hB⟩

theorem has12_walk (a : Option Addr) (cap : Nat) (zs : List Int) (x : Int) (w : World) (hr : RdI w a zs) (hl : zs.length ≤ 9223372036854775807) :
    Calls Try.prog 48 #[.slice a zs.length cap, .int .i64 x] w fun e w' => e = .returned (.bool (decide (x ∈ zs))) ∧ w = w' := by
  go_enter Try.func48, Try.ntmps48
  go_wp2_with fail
  go_loopg [5] zs.length (fun r i wr => ∃ k : Nat, i = .int .i64 k ∧ k + r = zs.length ∧ x ∉ zs.take k ∧ w = wr)
  case atStart => exact ⟨0, rfl, by omega, by simp, rfl⟩
  case round =>
    obtain ⟨k, rfl, hk, hno, rfl⟩ := hrel
    by_cases hlt : k < zs.length
    · obtain ⟨b, o, rfl, c0⟩ := hr.at k hlt
      have hst := List.take_succ_eq_append_getElem hlt
      have hmem := List.getElem_mem hlt
      obtain ⟨z, hz⟩ : ∃ z, zs[k] = z := ⟨_, rfl⟩
      rw [hz] at c0 hst hmem
      by_cases e : z = x
      · have g1 : (z == x) = true := by simpa using e
        have hd : decide (x ∈ zs) = true := by rw [decide_eq_true_eq, ← e]; exact hmem
        have Hd := Lib.hid hd; clear hd hst hmem hz hno hk e
        go_wp2_with fail
        go_ret
        exact ⟨by rw [Hd.out] <;> rfl, rfl⟩
      · have g1 : (z == x) = false := by simpa using e
        have hn2 : x ∉ zs.take (k + 1) := by rw [hst]; simp only [List.mem_append, List.mem_singleton, not_or]; exact ⟨hno, fun e2 => e e2.symm⟩
        have Hn2 := Lib.hid hn2; have Hk := Lib.hid hk; clear hn2 hst hmem hz hno hk e
        go_wp2_with fail
        go_roundg (gk - 1)
        case measure => have := Hk.out; omega
        case rel => exact ⟨k + 1, by go_num, by have := Hk.out; omega, Hn2.out, rfl⟩
    · have hkl : k = zs.length := by omega
      subst hkl
      have hd : decide (x ∈ zs) = false := by rw [List.take_length] at hno; simpa using hno
      have Hd := Lib.hid hd; clear hd hno hk
      go_wp2_with fail
      go_ret
      exact ⟨by rw [Hd.out] <;> rfl, rfl⟩

set_option maxHeartbeats 4000000 in
theorem refRight12_walk (a : Option Addr) (cap : Nat) (ls : List Lk) (w : World) (hr : RdL w a ls) (hcap : ls.length ≤ 9223372036854775807) :
    Calls Try.prog 16 #[.slice a ls.length cap] w fun e w' => e = .returned (.bool (rightL ls)) ∧ Below w.heap.size w w' := by
  by_cases hg : 1000 < ls.length
  · have hno : rightL ls = false := rightL_false fun h => by have := h.1; omega
    have Hno := Lib.hid hno; clear hno
    have g0 : decide ((1000 : Int) < (ls.length : Int)) = true := by simp; omega
    go_enter Try.func16, Try.ntmps16
    go_wp2_with fail
    go_ret
    exact ⟨by rw [Hno.out] <;> rfl, bl_refl _⟩
  have g0 : decide ((1000 : Int) < (ls.length : Int)) = false := by simp; omega
  have hg2 : ls.length ≤ 1000 := by omega
  clear hg
  go_enter Try.func16, Try.ntmps16
  go_wp2_with fail
  go_loopg [3] ls.length (fun r i wr => ∃ k : Nat, k + r = ls.length ∧ i = .int .i64 k ∧ Below w.heap.size w wr ∧
    (∀ j (h : j < ls.length), j < k → OkL ls[j]) ∧ (∀ j (h : j + 1 < ls.length), j + 1 < k → LtL ls[j] ls[j+1]))
  case atStart => exact ⟨0, by omega, rfl, bl_refl _, fun j _ h => absurd h (by omega), fun j _ h => absurd h (by omega)⟩
  case round =>
    obtain ⟨k, hk, rfl, hB, hok, hris⟩ := hrel
    by_cases hlt : k < ls.length
    · obtain ⟨b, o, rfl, c0, c1, c2⟩ := (hr.below hB).at k hlt
      have hprev : ∀ m, k = m + 1 → ∃ p : Lk, (∀ h2 : m < ls.length, ls[m] = p) ∧ wr.cell? ⟨b, o + m * 3, none⟩ = some (.int .i64 p.1) ∧ wr.cell? ⟨b, o + m * 3 + 1, none⟩ = some (.int .i64 p.2.1) ∧ wr.cell? ⟨b, o + m * 3 + 2, none⟩ = some (.int .i64 p.2.2) := fun m hm => by
        obtain ⟨b', o', e, p0, p1, p2⟩ := (hr.below hB).at m (by omega)
        cases e
        exact ⟨ls[m]'(by omega), fun h2 => rfl, p0, p1, p2⟩
      have hnot : ¬ OkL ls[k] → rightL ls = false := fun h => rightL_false fun h2 => h (h2.2.1 _ (List.getElem_mem hlt))
      have hend : OkL ls[k] → ∀ j (h : j < ls.length), j < k + 1 → OkL ls[j] := fun h j hj hjk => by
        by_cases e : j < k
        · exact hok j hj e
        · obtain rfl : j = k := by omega
          exact h
      obtain ⟨⟨x, y, z⟩, hx⟩ : ∃ x : Lk, ls[k] = x := ⟨_, rfl⟩
      rw [hx] at c0 c1 c2 hnot hend
      simp only [OkL] at c0 c1 c2 hnot
      have Hprev := Lib.hid hprev; have Hx := Lib.hid hx; have Hend := Lib.hid hend; have Hris := Lib.hid hris; have Hk := Lib.hid hk
      clear hprev hx hend hok hris hk
      by_cases b1 : 0 ≤ x
      · have q1 : decide (x < 0) = false := by simpa using b1
        by_cases b2 : x < y
        · have q2 : decide (y ≤ x) = false := by simpa using b2
          by_cases b3 : y < 1048576
          · have q3 : decide (1048576 ≤ y) = false := by simpa using b3
            by_cases b4 : 0 ≤ z
            · have q4 : decide (z < 0) = false := by simpa using b4
              by_cases b5 : z ≤ 1048576
              · have q5 : decide (1048576 < z) = false := by simpa using b5
                clear hnot
                by_cases b6 : k = 0
                · subst b6
                  have q6 : decide ((0 : Int) < ((0 : Nat) : Int)) = false := by simp
                  simp only [Nat.zero_mul, Nat.add_zero] at c0 c1 c2
                  go_wp2_with fail
                  go_quiet (fail)
                  go_wp2_with fail
                  go_roundg (gk - 1)
                  case measure => have := Hk.out; omega
                  case rel => exact ⟨0 + 1, by have := Hk.out; omega, rfl, bl_trans hB (below_drewN (bl_alloc _ _) _), Hend.out ⟨b1, b2, b3, b4, b5⟩, fun j _ h => absurd h (by omega)⟩
                · obtain ⟨m, rfl⟩ : ∃ m, k = m + 1 := ⟨k - 1, by omega⟩
                  obtain ⟨⟨p, q, s⟩, hp, p0, p1, p2⟩ := Hprev.out m rfl
                  simp only at p0 p1 p2
                  have q6 : decide ((0 : Int) < ((m + 1 : Nat) : Int)) = true := by rw [decide_eq_true_eq]; omega
                  have q7 : (0 : Int) < (m : Int) + 1 := by omega
                  have Hp := Lib.hid hp; clear hp
                  go_wp2_with fail
                  have i1 : IntKind.i64.wrap ((m : Int) + 1 - 1) = (m : Int) := by rw [show ((m : Int) + 1 - 1) = m by omega]; exact IntWalk.i64_in _ (by omega)
                  have i2 : IntKind.i64.wrap (m : Int) = (m : Int) := IntWalk.i64_in _ (by omega)
                  have i3 : (0 : Int) ≤ (m : Int) := by omega
                  have i4 : (m : Int) < (ls.length : Int) := by omega
                  have i5 : m < ls.length := by omega
                  go_region_held3 (fun w' => w'.cell? ⟨b, o + m * 3, none⟩ = some (.int .i64 p) ∧ w'.cell? ⟨b, o + m * 3 + 1, none⟩ = some (.int .i64 q) ∧ w'.cell? ⟨b, o + m * 3 + 2, none⟩ = some (.int .i64 s) ∧
                    w'.cell? ⟨wr.heap.size, 0, none⟩ = some (.int .i64 x) ∧ w'.cell? ⟨wr.heap.size, 1, none⟩ = some (.int .i64 y) ∧ w'.cell? ⟨wr.heap.size, 2, none⟩ = some (.int .i64 z)) (first | (refine ⟨?_, ?_, ?_, ?_, ?_, ?_⟩ <;> (refine keep_cell (by assumption) ?_; simp [*]; done)) | go_keep)
                    (first | (go_at_call 44; refine (ahead_walk _ _ _ _ _ _ _).mono ?_; rintro e w' ⟨rfl, hbw⟩))
                  by_cases hlt2 : LtL (p, q, s) (x, y, z)
                  · have hd : decide (LtL (p, q, s) (x, y, z)) = true := by simpa using hlt2
                    have Hlt2 := Lib.hid hlt2; clear hlt2
                    rw [hd]; clear hd
                    go_wp2_with fail
                    go_roundg (gk - 1)
                    case measure => have := Hk.out; omega
                    case rel =>
                      refine ⟨m + 1 + 1, by have := Hk.out; omega, by go_num, bl_trans ((hB.alloc (by have := hB.size; omega) _).drew) hbw, Hend.out ⟨b1, b2, b3, b4, b5⟩, ?_⟩
                      intro j h hj
                      by_cases hjm : j + 1 < m + 1
                      · exact Hris.out j h hjm
                      · obtain rfl : j = m := by omega
                        rw [Hx.out, Hp.out (by omega)]; exact Hlt2.out
                  · have hd : decide (LtL (p, q, s) (x, y, z)) = false := by simpa using hlt2
                    have hno : rightL ls = false := rightL_false fun h => by
                      have h1 := ((rightL_at _).1 ((rightL_iff ls).2 h)).2.2 m hlt
                      rw [Hx.out, Hp.out (by omega)] at h1
                      exact hlt2 h1
                    have Hno := Lib.hid hno; clear hno hlt2
                    rw [hd]; clear hd
                    go_wp2_with fail
                    go_ret
                    exact ⟨by rw [Hno.out] <;> rfl, bl_trans ((hB.alloc (by have := hB.size; omega) _).drew) hbw⟩
              · have q5 : decide (1048576 < z) = true := by simpa using b5
                have hno := hnot fun h => b5 h.2.2.2.2
                clear hnot
                have Hno := Lib.hid hno; clear hno
                go_wp2_with fail
                go_quiet (fail)
                go_wp2_with fail
                go_ret
                exact ⟨by rw [Hno.out] <;> rfl, bl_trans hB (below_drewN (bl_alloc _ _) _)⟩
            · have q4 : decide (z < 0) = true := by simpa using b4
              have hno := hnot fun h => b4 h.2.2.2.1
              clear hnot
              have Hno := Lib.hid hno; clear hno
              go_wp2_with fail
              go_quiet (fail)
              go_wp2_with fail
              go_ret
              exact ⟨by rw [Hno.out] <;> rfl, bl_trans hB (below_drewN (bl_alloc _ _) _)⟩
          · have q3 : decide (1048576 ≤ y) = true := by simpa using b3
            have hno := hnot fun h => b3 h.2.2.1
            clear hnot
            have Hno := Lib.hid hno; clear hno
            go_wp2_with fail
            go_quiet (fail)
            go_wp2_with fail
            go_ret
            exact ⟨by rw [Hno.out] <;> rfl, bl_trans hB (below_drewN (bl_alloc _ _) _)⟩
        · have q2 : decide (y ≤ x) = true := by simpa using b2
          have hno := hnot fun h => b2 h.2.1
          clear hnot
          have Hno := Lib.hid hno; clear hno
          go_wp2_with fail
          go_quiet (fail)
          go_wp2_with fail
          go_ret
          exact ⟨by rw [Hno.out] <;> rfl, bl_trans hB (below_drewN (bl_alloc _ _) _)⟩
      · have q1 : decide (x < 0) = true := by simpa using b1
        have hno := hnot fun h => b1 h.1
        clear hnot
        have Hno := Lib.hid hno; clear hno
        go_wp2_with fail
        go_quiet (fail)
        go_wp2_with fail
        go_ret
        exact ⟨by rw [Hno.out] <;> rfl, bl_trans hB (below_drewN (bl_alloc _ _) _)⟩
    · have hkl : k = ls.length := by omega
      have hyes : rightL ls = true := by
        rw [rightL_at]
        exact ⟨hg2, fun j h => hok j h (by omega), fun j h => hris j h (by omega)⟩
      have Hyes := Lib.hid hyes
      clear hyes hok hris hkl hk
      go_wp2_with fail
      go_ret
      exact ⟨by rw [Hyes.out] <;> rfl, hB⟩
end Go.Proofs.Ytagjakgbmmbmhaa
