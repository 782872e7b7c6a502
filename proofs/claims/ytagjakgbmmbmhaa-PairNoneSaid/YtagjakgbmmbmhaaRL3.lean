/- fretworkref12.touch. -/
import Derived.Test.YtagjakgbmmbmhaaRL2v
import Derived.Test.YtagjakgbmmbmhaaGrpP
namespace Go.Proofs.Ytagjakgbmmbmhaa
open Go Go.RowKit

set_option maxHeartbeats 2000000 in
theorem touch12_walk (a1 a2 a3 b1 b2 b3 : Int) (g : Option Addr) (cap : Nat) (wo : List Int) (w : World) (hr : RdI w g wo) (hl : wo.length ≤ 9223372036854775807) :
    Calls Try.prog 50 #[.agg #[.int .i64 a1, .int .i64 a2, .int .i64 a3], .agg #[.int .i64 b1, .int .i64 b2, .int .i64 b3], .slice g wo.length cap] w
      fun e w' => e = .returned (.bool (touchB wo (a1, a2, a3) (b1, b2, b3))) ∧ Below w.heap.size w w' := by
  have hB := bl_trans (bl_alloc w (.cells #[.int .i64 a1, .int .i64 a2, .int .i64 a3] 29)) (bl_alloc _ (.cells #[.int .i64 b1, .int .i64 b2, .int .i64 b3] 29))
  have hrB := hr.below hB
  clear hr
  go_enter Try.func50, Try.ntmps50
  by_cases p1 : a1 ∈ wo
  · have d1 : decide (a1 ∈ wo) = true := by simpa using p1
    have P1 := Lib.hid p1; clear p1
    go_wp2_with fail
    refine (has12_walk g cap wo a1 _ hrB hl).mono ?_
    rintro e w' ⟨rfl, rfl⟩
    rw [d1]; clear d1
    have p1 := P1.out
    by_cases p2 : a2 ∈ wo
    · have d2 : decide (a2 ∈ wo) = true := by simpa using p2
      have hd : touchB wo (a1, a2, a3) (b1, b2, b3) = false := by unfold touchB; simp only; simp only [List.contains_iff_mem.2 p1, Bool.not_true, Bool.false_and, Bool.false_or]; simp [p2]
      have Hd := Lib.hid hd; clear hd p2 p1
      go_wp2_with fail
      refine (has12_walk g cap wo a2 _ hrB hl).mono ?_
      rintro e w' ⟨rfl, rfl⟩
      rw [d2]; clear d2
      go_wp2_with fail
      go_ret
      exact ⟨by rw [Hd.out] <;> rfl, hB⟩
    · have d2 : decide (a2 ∈ wo) = false := by simpa using p2
      have hd : touchB wo (a1, a2, a3) (b1, b2, b3) = (a2 == b1 || a2 == b2) := by unfold touchB; simp only; simp only [List.contains_iff_mem.2 p1, Bool.not_true, Bool.false_and, Bool.false_or]; simp [p2]
      by_cases e1 : a2 = b1
      · have q1 : (a2 == b1) = true := by simpa using e1
        rw [q1, Bool.true_or] at hd
        have Hd := Lib.hid hd; clear hd p2 e1 p1
        go_wp2_with fail
        refine (has12_walk g cap wo a2 _ hrB hl).mono ?_
        rintro e w' ⟨rfl, rfl⟩
        rw [d2]; clear d2
        go_wp2_with fail
        go_ret
        exact ⟨by rw [Hd.out] <;> rfl, hB⟩
      · have q1 : (a2 == b1) = false := by simpa using e1
        rw [q1, Bool.false_or] at hd
        have Hd := Lib.hid hd; clear hd p2 e1 p1
        go_wp2_with fail
        refine (has12_walk g cap wo a2 _ hrB hl).mono ?_
        rintro e w' ⟨rfl, rfl⟩
        rw [d2]; clear d2
        go_wp2_with fail
        go_ret
        exact ⟨by rw [Hd.out] <;> rfl, hB⟩
  · have d1 : decide (a1 ∈ wo) = false := by simpa using p1
    by_cases e1 : a1 = b1
    · have q1 : (a1 == b1) = true := by simpa using e1
      have hd : touchB wo (a1, a2, a3) (b1, b2, b3) = true := by have p3 := p1; rw [e1] at p3; unfold touchB; simp [p3, e1]
      have Hd := Lib.hid hd; clear hd p1 e1
      go_wp2_with fail
      refine (has12_walk g cap wo a1 _ hrB hl).mono ?_
      rintro e w' ⟨rfl, rfl⟩
      rw [d1]; clear d1
      go_wp2_with fail
      go_ret
      exact ⟨by rw [Hd.out] <;> rfl, hB⟩
    · have q1 : (a1 == b1) = false := by simpa using e1
      by_cases e2 : a1 = b2
      · have q2 : (a1 == b2) = true := by simpa using e2
        have hd : touchB wo (a1, a2, a3) (b1, b2, b3) = true := by have p3 := p1; rw [e2] at p3; unfold touchB; simp [p3, e2]
        have Hd := Lib.hid hd; clear hd p1 e1 e2
        go_wp2_with fail
        refine (has12_walk g cap wo a1 _ hrB hl).mono ?_
        rintro e w' ⟨rfl, rfl⟩
        rw [d1]; clear d1
        go_wp2_with fail
        go_ret
        exact ⟨by rw [Hd.out] <;> rfl, hB⟩
      · have q2 : (a1 == b2) = false := by simpa using e2
        have P1 := Lib.hid p1; have E1 := Lib.hid e1; have E2 := Lib.hid e2; clear p1 e1 e2
        go_wp2_with fail
        refine (has12_walk g cap wo a1 _ hrB hl).mono ?_
        rintro e w' ⟨rfl, rfl⟩
        rw [d1]; clear d1
        have hx : (a1 == b1 || a1 == b2) = false := by rw [q1, q2]; rfl
        by_cases p2 : a2 ∈ wo
        · have d2 : decide (a2 ∈ wo) = true := by simpa using p2
          have hd : touchB wo (a1, a2, a3) (b1, b2, b3) = false := by unfold touchB; simp only; simp only [hx, Bool.and_false, Bool.false_or]; simp [p2]
          have Hd := Lib.hid hd; clear hd p2 hx
          go_wp2_with fail
          refine (has12_walk g cap wo a2 _ hrB hl).mono ?_
          rintro e w' ⟨rfl, rfl⟩
          rw [d2]; clear d2
          go_wp2_with fail
          go_ret
          exact ⟨by rw [Hd.out] <;> rfl, hB⟩
        · have d2 : decide (a2 ∈ wo) = false := by simpa using p2
          have hd : touchB wo (a1, a2, a3) (b1, b2, b3) = (a2 == b1 || a2 == b2) := by unfold touchB; simp only; simp only [hx, Bool.and_false, Bool.false_or]; simp [p2]
          by_cases e1 : a2 = b1
          · have q1 : (a2 == b1) = true := by simpa using e1
            rw [q1, Bool.true_or] at hd
            have Hd := Lib.hid hd; clear hd p2 e1 hx
            go_wp2_with fail
            refine (has12_walk g cap wo a2 _ hrB hl).mono ?_
            rintro e w' ⟨rfl, rfl⟩
            rw [d2]; clear d2
            go_wp2_with fail
            go_ret
            exact ⟨by rw [Hd.out] <;> rfl, hB⟩
          · have q1 : (a2 == b1) = false := by simpa using e1
            rw [q1, Bool.false_or] at hd
            have Hd := Lib.hid hd; clear hd p2 e1 hx
            go_wp2_with fail
            refine (has12_walk g cap wo a2 _ hrB hl).mono ?_
            rintro e w' ⟨rfl, rfl⟩
            rw [d2]; clear d2
            go_wp2_with fail
            go_ret
            exact ⟨by rw [Hd.out] <;> rfl, hB⟩
end Go.Proofs.Ytagjakgbmmbmhaa
