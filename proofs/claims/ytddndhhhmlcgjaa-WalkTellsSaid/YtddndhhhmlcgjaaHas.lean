/- graph.Has: is there an edge between the two? -/
import Derived.Test.YtddndhhhmlcgjaaSearch
import Derived.Test.YtddndhhhmlcgjaaAwake
namespace Go.Proofs.Ytddndhhhmlcgjaa
open Go Go.RowKit

def hasB (n : Int) (es : List (Int × Int)) (x y : Int) : Bool := rightB n es && es.contains (min x y, max x y)

set_option maxHeartbeats 2000000 in
theorem has_walk (n : Int) (a : Option Addr) (cap : Nat) (es : List (Int × Int)) (x y : Int) (w : World) (hr : RdP w a es) (hcap : es.length ≤ 9223372036854775807) :
    Calls Try.prog 25 #[.agg #[.int .i64 n, .slice a es.length cap], .int .i64 x, .int .i64 y] w (RetT w (hasB n es x y)) := by
  go_enter Try.func25, Try.ntmps25
  go_wp2_with fail
  refine (right_walk n a cap es _ (hr.below (bl_alloc _ _)) hcap).mono ?_
  rintro e w1 ⟨rfl, hb1⟩
  have hB1 : Below w.heap.size w w1 := bl_trans (bl_alloc _ _) hb1
  have c1 : w1.cell? ⟨w.heap.size, 1, none⟩ = some (.slice a es.length cap) := keep_cell hb1 (by simp)
  cases hright : rightB n es with
  | false =>
    go_wp2_with fail
    go_ret
    exact ⟨by simp [hasB, hright], hB1⟩
  | true =>
    have Hr := Lib.hid hright; clear hright
    go_wp2_with fail
    refine (search_walk a cap es (min x y) (max x y) _ (hr.below hB1) ((rightB_iff _ _).1 Hr.out).2.2.1 ((rightB_iff _ _).1 Hr.out).2.2.2.2).mono ?_
    rintro e w2 ⟨i, rfl, hb2⟩
    go_wp2_with fail
    go_ret
    exact ⟨by simp [hasB, Hr.out], bl_trans hB1 hb2⟩
end Go.Proofs.Ytddndhhhmlcgjaa
