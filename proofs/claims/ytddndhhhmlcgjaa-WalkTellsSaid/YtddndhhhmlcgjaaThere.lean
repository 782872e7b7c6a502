/- fretworklaw04.there. -/
import Derived.Test.YtddndhhhmlcgjaaAwake
namespace Go.Proofs.Ytddndhhhmlcgjaa
open Go Go.RowKit

def thereB (n : Int) (es : List (Int × Int)) (vs : List Int) : Bool := vs.all (inR n) && (rightB n es && decide (n ≤ 60))

set_option maxHeartbeats 1000000 in
theorem there_walk (n : Int) (a : Option Addr) (cap : Nat) (es : List (Int × Int)) (b : Option Addr) (vs : List Int) (c : Nat) (w : World) (hr : RdP w a es) (hv : RdI w b vs)
    (hcap : es.length ≤ 9223372036854775807) (hvl : vs.length ≤ 1000) :
    Calls Try.prog 23 #[.agg #[.int .i64 n, .slice a es.length cap], .slice b vs.length c] w (RetT w (thereB n es vs)) := by
  have hbx : Below w.heap.size w (w.alloc (.cells #[.int .i64 n, .slice a es.length cap] 24)) := bl_alloc _ _
  go_enter Try.func23, Try.ntmps23
  go_wp2_with fail
  go_loopg [9] vs.length (fun r i wr => ∃ k : Nat, k + r = vs.length ∧ i = .int .i64 k ∧ wr = w.alloc (.cells #[.int .i64 n, .slice a es.length cap] 24) ∧ ∀ j (h : j < vs.length), j < k → inR n vs[j] = true)
  case atStart => exact ⟨0, by omega, rfl, rfl, fun j _ h => absurd h (by omega)⟩
  case round =>
    obtain ⟨k, hk, rfl, rfl, hok⟩ := hrel
    by_cases hlt : k < vs.length
    · obtain ⟨b', o, rfl, p0⟩ := (hv.below hbx).at k hlt
      obtain ⟨x, hx⟩ : ∃ x, x = vs[k] := ⟨_, rfl⟩
      rw [← hx] at p0
      by_cases hin : 0 ≤ x ∧ x < n
      · have hend : ∀ j (h : j < vs.length), j < k + 1 → inR n vs[j] = true := by
          intro j h hj
          by_cases hjk : j < k
          · exact hok j h hjk
          · obtain rfl : j = k := by omega
            rw [inR_iff, ← hx]; exact hin
        have Hend := Lib.hid hend; clear hend hok
        have Hx := Lib.hid hx; clear hx
        obtain ⟨i1, i2⟩ := hin
        go_wp2_with fail
        go_roundg (gk - 1)
        case measure => omega
        case rel => exact ⟨k + 1, by omega, by go_num, rfl, Hend.out⟩
      · have hno : thereB n es vs = false := by
          unfold thereB
          rw [Bool.and_eq_false_iff]; left
          rw [Bool.eq_false_iff]; intro h
          have := (inR_iff _ _).1 (List.all_eq_true.1 h _ (List.getElem_mem hlt))
          exact hin (by rw [hx]; exact this)
        have Hno := Lib.hid hno; have Hx := Lib.hid hx; clear hx hok hno
        go_wp2_with fail
        all_goals
          go_ret
          exact ⟨by rw [Hno.out]; rfl, hbx⟩
    · have hyes : vs.all (inR n) = true := by
        rw [List.all_eq_true]
        intro x hx
        obtain ⟨j, hj, rfl⟩ := List.getElem_of_mem hx
        exact hok j hj (by omega)
      have hthere : thereB n es vs = (rightB n es && decide (n ≤ 60)) := by unfold thereB; rw [hyes]; rfl
      have Hthere := Lib.hid hthere; clear hok hyes hthere
      cases hright : rightB n es with
      | true =>
        have Hr := Lib.hid hright; clear hright
        go_wp2_with (go_at_call 37; refine (right_walk n a cap es _ (hr.below hbx) hcap).mono ?_; rw [Hr.out]; rintro e w1 ⟨rfl, hb1⟩; obtain ⟨c0, c1⟩ : w1.cell? ⟨w.heap.size, 0, none⟩ = some (.int .i64 n) ∧ w1.cell? ⟨w.heap.size, 1, none⟩ = some (.slice a es.length cap) := ⟨keep_cell hb1 (by simp), keep_cell hb1 (by simp)⟩)
        go_ret
        exact ⟨by rw [Hthere.out, Hr.out]; rfl, bl_trans hbx hb1⟩
      | false =>
        have Hr := Lib.hid hright; clear hright
        go_wp2_with (go_at_call 37; refine (right_walk n a cap es _ (hr.below hbx) hcap).mono ?_; rw [Hr.out]; rintro e w1 ⟨rfl, hb1⟩; obtain ⟨c0, c1⟩ : w1.cell? ⟨w.heap.size, 0, none⟩ = some (.int .i64 n) ∧ w1.cell? ⟨w.heap.size, 1, none⟩ = some (.slice a es.length cap) := ⟨keep_cell hb1 (by simp), keep_cell hb1 (by simp)⟩)
        go_ret
        exact ⟨by rw [Hthere.out, Hr.out]; rfl, bl_trans hbx hb1⟩
end Go.Proofs.Ytddndhhhmlcgjaa
