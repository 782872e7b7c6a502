/- walk.start. -/
import Derived.Test.YtddndhhhmlcgjaaBeside
namespace Go.Proofs.Ytddndhhhmlcgjaa
open Go Go.RowKit

def inR (n : Int) (v : Int) : Bool := decide (0 ≤ v) && decide (v < n)
theorem inR_iff (n v : Int) : inR n v = true ↔ 0 ≤ v ∧ v < n := by simp [inR]

/-- What start answers. -/
def RetStart (w : World) (n : Int) (es : List (Int × Int)) (vs : List Int) (e : Ending) (w' : World) : Prop :=
  Below w.heap.size w w' ∧
  ((rightB n es = false ∧ e = .returned (.tuple #[.slice none 0 0, .int .i64 20])) ∨
   (rightB n es = true ∧ vs.all (inR n) = false ∧ e = .returned (.tuple #[.slice none 0 0, .int .i64 2])) ∨
   (rightB n es = true ∧ vs.all (inR n) = true ∧ ∃ G vals, e = .returned (.tuple #[.slice (some ⟨G, 0, none⟩) n.toNat n.toNat, .int .i64 0]) ∧ w.heap.size ≤ G ∧ OwnRows w' G 27 3 n.toNat vals (rowsV (besideL n.toNat es))))

set_option maxHeartbeats 1000000 in
theorem start_walk (n : Int) (a : Option Addr) (cap : Nat) (es : List (Int × Int)) (b : Option Addr) (vs : List Int) (c : Nat) (w : World) (hr : RdP w a es) (hv : RdI w b vs)
    (hcap : es.length ≤ 9223372036854775807) (hvl : vs.length ≤ 1000) :
    Calls Try.prog 26 #[.agg #[.int .i64 n, .slice a es.length cap], .slice b vs.length c] w (RetStart w n es vs) := by
  have hbx : Below w.heap.size w (w.alloc (.cells #[.int .i64 n, .slice a es.length cap] 24)) := bl_alloc _ _
  cases hright : rightB n es with
  | false =>
    have Hright := Lib.hid hright; clear hright
    go_enter Try.func26, Try.ntmps26
    go_wp2_with (go_at_call 37; refine (right_walk n a cap es _ (hr.below (bl_alloc _ _)) hcap).mono ?_; rw [Hright.out]; rintro e w1 ⟨rfl, hb1⟩)
    go_ret2
    exact ⟨bl_trans hbx hb1, .inl ⟨Hright.out, rfl⟩⟩
  | true =>
    obtain ⟨h0, h1, h2, _, _⟩ := (rightB_iff _ _).1 hright
    obtain ⟨m, rfl⟩ : ∃ m : Nat, n = m := ⟨n.toNat, by omega⟩
    have Hright := Lib.hid hright; clear hright
    go_enter Try.func26, Try.ntmps26
    go_wp2_with (go_at_call 37; refine (right_walk m a cap es _ (hr.below (bl_alloc _ _)) (by omega)).mono ?_; rw [Hright.out]; rintro e w1 ⟨rfl, hb1⟩; obtain ⟨c0, c1⟩ : w1.cell? ⟨w.heap.size, 0, none⟩ = some (.int .i64 m) ∧ w1.cell? ⟨w.heap.size, 1, none⟩ = some (.slice a es.length cap) := ⟨keep_cell hb1 (by simp), keep_cell hb1 (by simp)⟩; have hz1 : w.heap.size < w1.heap.size := by (have := hb1.size; simp at this; omega))
    have hB1 : Below w.heap.size w w1 := bl_trans hbx hb1
    go_loopg [13] vs.length (fun r i wr => ∃ k : Nat, k + r = vs.length ∧ i = .int .i64 k ∧ wr = w1 ∧ ∀ j (h : j < vs.length), j < k → inR m vs[j] = true)
    case atStart => exact ⟨0, by omega, rfl, rfl, fun j _ h => absurd h (by omega)⟩
    case round =>
      obtain ⟨k, hk, rfl, rfl, hok⟩ := hrel
      by_cases hlt : k < vs.length
      · obtain ⟨b', o, rfl, p0⟩ := (hv.below hB1).at k hlt
        obtain ⟨x, hx⟩ : ∃ x, x = vs[k] := ⟨_, rfl⟩
        rw [← hx] at p0
        by_cases hin : 0 ≤ x ∧ x < m
        · have hend : ∀ j (h : j < vs.length), j < k + 1 → inR m vs[j] = true := by
            intro j h hj
            by_cases hjk : j < k
            · exact hok j h hjk
            · obtain rfl : j = k := by omega
              rw [inR_iff, ← hx]; exact hin
          have Hend := Lib.hid hend; clear hend hok
          have Hx := Lib.hid hx; clear hx
          obtain ⟨i1, i2⟩ := hin
          go_wp2_with fail
          go_roundg (gk - 1)
          case measure => omega
          case rel => exact ⟨k + 1, by omega, by go_num, rfl, Hend.out⟩
        · have hno : vs.all (inR m) = false := by
            rw [Bool.eq_false_iff]; intro h
            have := (inR_iff _ _).1 (List.all_eq_true.1 h _ (List.getElem_mem hlt))
            exact hin (by rw [hx]; exact this)
          have Hno := Lib.hid hno; have Hx := Lib.hid hx; clear hx hok hno
          go_wp2_with fail
          all_goals
            go_ret2
            exact ⟨hB1, .inr (.inl ⟨Hright.out, Hno.out, rfl⟩)⟩
      · have hyes : vs.all (inR m) = true := by
          rw [List.all_eq_true]
          intro x hx
          obtain ⟨j, hj, rfl⟩ := List.getElem_of_mem hx
          exact hok j hj (by omega)
        have Hyes := Lib.hid hyes; clear hok hyes
        go_wp2_with (go_at_call 40; refine (beside_walk m a cap es _ (hr.below hB1) Hright.out).mono ?_; rintro e w2 ⟨G, vals, rfl, hG, hrows, hb2⟩)
        go_ret2
        exact ⟨bl_trans hB1 hb2, .inr (.inr ⟨Hright.out, Hyes.out, G, vals, rfl, Nat.le_trans hB1.size hG, hrows⟩)⟩
end Go.Proofs.Ytddndhhhmlcgjaa
