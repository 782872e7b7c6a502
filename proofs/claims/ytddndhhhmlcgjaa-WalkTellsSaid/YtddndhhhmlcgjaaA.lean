/- cmp.Compare, cmp.Or, graph.compare. -/
import Derived.Test.YtddndhhhmlcgjaaChecked
import Derived.Test.YtddndhhhmlcgjaaLib
import Derived.Test.YtddndhhhmlcgjaaPlain
import Derived.BigQuiet
import Derived.Deep.QuietTactic
import Derived.Deep.RegionHeld3
import Derived.Deep.DeepCutAuto
import Derived.Deep.LoopGhost
namespace Go.Proofs.Ytddndhhhmlcgjaa
open Go Go.RowKit

theorem compare_any (a b : Int) (w : World) :
    Calls Try.prog 45 #[.int .i64 a, .int .i64 b] w fun e w' => e = .returned (.int .i64 (cmpI a b)) ∧ w = w' := by
  go_enter Try.func45, Try.ntmps45
  go_wp2
  · have h : a < b := by assumption
    go_ret
    exact ⟨by simp [cmpI, h], rfl⟩
  · have h : b < a := by assumption
    go_ret
    exact ⟨by simp [cmpI, h, show ¬ a < b by omega], rfl⟩
  · have h : a ≤ b := by assumption
    have h : b ≤ a := by assumption
    go_ret
    exact ⟨by simp [cmpI, show ¬ a < b by omega, show ¬ b < a by omega], rfl⟩

/-- cmp.Or of two. -/
theorem or_two (b : Nat) (x y : Int) (w : World) (h0 : w.cell? ⟨b, 0, none⟩ = some (.int .i64 x)) (h1 : w.cell? ⟨b, 1, none⟩ = some (.int .i64 y)) :
    Calls Try.prog 44 #[.slice (some ⟨b, 0, none⟩) 2 2] w fun e w' => e = .returned (.int .i64 (orI x y)) ∧ w = w' := by
  by_cases hx : x = 0
  · subst hx
    by_cases hy : y = 0
    · subst hy
      go_enter Try.func44, Try.ntmps44
      go_wp2
      refine wp_loop_rounds 3 ?_
      rw [rounds_succ]
      go_wp2
      rw [rounds_succ]
      go_wp2
      rw [rounds_succ]
      go_wp2
      go_ret
      exact ⟨rfl, rfl⟩
    · have hy' : (y != 0) = true := by simpa using hy
      go_enter Try.func44, Try.ntmps44
      go_wp2
      refine wp_loop_rounds 2 ?_
      rw [rounds_succ]
      go_wp2
      rw [rounds_succ]
      go_wp2
      go_ret
      exact ⟨rfl, rfl⟩
  · have hx' : (x != 0) = true := by simpa using hx
    go_enter Try.func44, Try.ntmps44
    go_wp2
    refine wp_loop_rounds 1 ?_
    rw [rounds_succ]
    go_wp2
    go_ret
    exact ⟨by simp [orI, hx], rfl⟩


theorem gcompare_any (a0 a1 b0 b1 : Int) (w : World) :
    Calls Try.prog 39 #[.agg #[.int .i64 a0, .int .i64 a1], .agg #[.int .i64 b0, .int .i64 b1]] w
      fun e w' => e = .returned (.int .i64 (cmpP (a0, a1) (b0, b1))) ∧ Below w.heap.size w w' := by
  go_enter Try.func39, Try.ntmps39
  go_wp2_with fail
  go_region_held3 (fun w' => w'.cell? ⟨w.heap.size, 0, none⟩ = some (.int .i64 a0) ∧ w'.cell? ⟨w.heap.size, 1, none⟩ = some (.int .i64 a1) ∧
     w'.cell? ⟨w.heap.size+1, 0, none⟩ = some (.int .i64 b0) ∧ w'.cell? ⟨w.heap.size+1, 1, none⟩ = some (.int .i64 b1)) (go_keep)
    (first | (go_at_call 45; refine (compare_any _ _ _).mono ?_; rintro e w' ⟨rfl, rfl⟩) | (go_at_call 44; refine (or_two _ (cmpI a0 b0) (cmpI a1 b1) _ ?_ ?_).mono ?_; go_simp; go_simp; rintro e w' ⟨rfl, rfl⟩))
  go_wp2
  go_ret
  exact ⟨rfl, ((bl_trans (bl_trans (bl_alloc _ _) (bl_alloc _ _)) (Below.refl _ _)).drew).alloc (by simp; omega) _⟩
end Go.Proofs.Ytddndhhhmlcgjaa
