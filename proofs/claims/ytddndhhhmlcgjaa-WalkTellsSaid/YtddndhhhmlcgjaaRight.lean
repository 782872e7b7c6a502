/- graph.Right: it answers rightB. -/
import Derived.Test.YtddndhhhmlcgjaaA
namespace Go.Proofs.Ytddndhhhmlcgjaa
open Go Go.RowKit

set_option maxHeartbeats 1000000 in
theorem right_walk (n : Int) (a : Option Addr) (cap : Nat) (es : List (Int × Int)) (w : World) (hr : RdP w a es) (hcap : es.length ≤ 9223372036854775807) :
    Calls Try.prog 37 #[.agg #[.int .i64 n, .slice a es.length cap]] w
      fun e w' => e = .returned (.bool (rightB n es)) ∧ Below w.heap.size w w' := by
  by_cases hg : 0 ≤ n ∧ n ≤ 200 ∧ es.length ≤ 594
  · obtain ⟨h0, h1, h2⟩ := hg
    go_enter Try.func37, Try.ntmps37
    go_wp2_with fail
    go_loopg [22] es.length (fun r i wr => ∃ k : Nat, k + r = es.length ∧ i = .int .i64 k ∧ Below (w.heap.size + 1) (w.alloc (.cells #[.int .i64 n, .slice a es.length cap] 24)) wr ∧
      (∀ j (h : j < es.length), j < k → 0 ≤ es[j].1 ∧ es[j].1 < es[j].2 ∧ es[j].2 < n) ∧ (∀ j (h : j + 1 < es.length), j + 1 < k → cmpP es[j] es[j+1] < 0))
    case atStart => exact ⟨0, by omega, rfl, Below.refl _ _, fun j _ h => absurd h (by omega), fun j _ h => absurd h (by omega)⟩
    case round =>
      obtain ⟨k, hk, rfl, hb, hok, hris⟩ := hrel
      have hB : Below w.heap.size w wr := (bl_alloc w _).trans (hb.mono (by omega))
      have hsz : w.heap.size < wr.heap.size := by have := hb.size; simp at this; omega
      have d0 : wr.cell? ⟨w.heap.size, 0, none⟩ = some (.int .i64 n) := by rw [hb.cell (by simp)]; simp
      have d1 : wr.cell? ⟨w.heap.size, 1, none⟩ = some (.slice a es.length cap) := by rw [hb.cell (by simp)]; simp
      by_cases hlt : k < es.length
      · obtain ⟨b, o, rfl, c0, c1⟩ := (hr.below hB).at k hlt
        obtain ⟨x, hx⟩ : ∃ x, x = es[k].1 := ⟨_, rfl⟩
        obtain ⟨y, hy⟩ : ∃ y, y = es[k].2 := ⟨_, rfl⟩
        rw [← hx] at c0
        rw [← hy] at c1
        by_cases he : 0 ≤ x ∧ x < y ∧ y < n
        · obtain ⟨e0, e1, e2⟩ := he
          by_cases hk0 : k = 0
          · subst hk0
            simp only [Nat.zero_mul, Nat.add_zero] at c0 c1
            have hend : ∀ j (h : j < es.length), j < 0 + 1 → 0 ≤ es[j].1 ∧ es[j].1 < es[j].2 ∧ es[j].2 < n := by
              intro j h hj
              obtain rfl : j = 0 := by omega
              rw [← hx, ← hy]; exact ⟨e0, e1, e2⟩
            have Hx := Lib.hid hx; have Hy := Lib.hid hy; clear hx hy
            have Hend := Lib.hid hend; have Hok := Lib.hid hok; have Hris := Lib.hid hris
            clear hend hok hris
            go_wp2_with fail
            go_quiet (fail)
            go_wp2
            go_roundg (gk - 1)
            case measure => omega
            case rel => exact ⟨0 + 1, by omega, rfl, below_drewN (hb.alloc (by omega) _) _, Hend.out, fun j _ h => absurd h (by omega)⟩
          · obtain ⟨m, rfl⟩ : ∃ m, k = m + 1 := ⟨k - 1, by omega⟩
            obtain ⟨b', o', hbo, p0, p1⟩ := (hr.below hB).at m (by omega)
            simp only [Option.some.injEq, Addr.mk.injEq, and_true] at hbo
            obtain ⟨rfl, rfl⟩ := hbo
            have hz : cmpP es[m] es[m+1] = cmpP (es[m].1, es[m].2) (x, y) := by rw [hx, hy]
            have hend : ∀ j (h : j < es.length), j < m + 1 + 1 → 0 ≤ es[j].1 ∧ es[j].1 < es[j].2 ∧ es[j].2 < n := by
              intro j h hj
              by_cases hjm : j < m + 1
              · exact hok j h hjm
              · obtain rfl : j = m + 1 := by omega
                rw [← hx, ← hy]; exact ⟨e0, e1, e2⟩
            have hmr : m + 1 < es.length := hlt
            obtain ⟨p, hp⟩ : ∃ p, p = es[m].1 := ⟨_, rfl⟩
            obtain ⟨q, hq⟩ : ∃ q, q = es[m].2 := ⟨_, rfl⟩
            rw [← hp] at p0
            rw [← hq] at p1
            rw [← hp, ← hq] at hz
            have Hx := Lib.hid hx; have Hy := Lib.hid hy; have Hp := Lib.hid hp; have Hq := Lib.hid hq; have Hz := Lib.hid hz; clear hx hy hp hq hz
            have Hend := Lib.hid hend; have Hok := Lib.hid hok; have Hris := Lib.hid hris
            clear hend hok hris
            go_wp2_with fail
            have i1 : IntKind.i64.wrap ((m : Int) + 1 - 1) = (m : Int) := by rw [show ((m : Int) + 1 - 1) = m by omega]; exact IntWalk.i64_in _ (by omega)
            have i2 : IntKind.i64.wrap (m : Int) = (m : Int) := IntWalk.i64_in _ (by omega)
            have i3 : (0 : Int) ≤ (m : Int) := by omega
            have i4 : (m : Int) < (es.length : Int) := by omega
            have i5 : m < es.length := by omega
            go_region_held3 (fun w' => w'.cell? ⟨b, o + m * 2, none⟩ = some (.int .i64 p) ∧ w'.cell? ⟨b, o + m * 2 + 1, none⟩ = some (.int .i64 q) ∧
              w'.cell? ⟨wr.heap.size, 0, none⟩ = some (.int .i64 x) ∧ w'.cell? ⟨wr.heap.size, 1, none⟩ = some (.int .i64 y) ∧ w'.cell? ⟨w.heap.size, 1, none⟩ = some (.slice (some ⟨b, o, none⟩) es.length cap)) (first | (refine ⟨?_, ?_, ?_, ?_, ?_⟩ <;> (refine keep_cell (by assumption) ?_; simp [*]; done)) | go_keep)
              (first | (go_at_call 39; refine (gcompare_any _ _ _ _ _).mono ?_; rintro e w' ⟨rfl, hbw⟩))
            go_wp2
            · have hge : 0 ≤ cmpP (p, q) (x, y) := by assumption
              go_ret
              exact ⟨by rw [right_no_ris m hmr (by rw [Hz.out]; omega)]; rfl, bl_trans ((hB.alloc (by omega) _).drew) hbw⟩
            · have hge : cmpP (p, q) (x, y) < 0 := by assumption
              go_roundg (gk - 1)
              case measure => omega
              case rel =>
                refine ⟨m + 1 + 1, by omega, by go_num, ?_, Hend.out, ?_⟩
                · exact (hb.alloc (by omega) _).drew.trans (hbw.mono (by simp; omega))
                · intro j h hj
                  by_cases hjm : j + 1 < m + 1
                  · exact Hris.out j h hjm
                  · obtain rfl : j = m := by omega
                    rw [Hz.out]; exact hge
        · have hno := right_no_edge (n := n) k hlt (by rw [← hx, ← hy]; exact he)
          have Hx := Lib.hid hx; have Hy := Lib.hid hy; clear hx hy
          have Hno := Lib.hid hno; clear hno
          go_wp2_with fail
          all_goals
            go_ret
            exact ⟨by rw [Hno.out]; rfl, hB.alloc (by omega) _⟩
      · have hkl : k = es.length := by omega
        have hyes : rightB n es = true := by
          rw [rightB_iff]
          exact ⟨h0, h1, h2, fun j h => hok j h (by omega), fun j h => hris j h (by omega)⟩
        have Hyes := Lib.hid hyes
        clear hyes hok hris hkl
        go_wp2_with fail
        go_ret
        exact ⟨by rw [Hyes.out]; rfl, hB⟩
  · have hno := right_no hg
    rw [hno]
    go_enter Try.func37, Try.ntmps37
    go_wp2_with fail
    all_goals
      go_ret
      exact ⟨rfl, bl_alloc _ _⟩
end Go.Proofs.Ytddndhhhmlcgjaa
