/- fretworklaw12.Same. -/
import Derived.Test.YtagcbnpahgfgmaaGrpM
import Derived.Test.YtagcbnpahgfgmaaVn
import Derived.BigRegion
import Derived.Laws.StructEq
namespace Go.Proofs.Ytagcbnpahgfgmaa
open Go Go.RowKit

/-- a bool is handed back; nothing turns but for draws -/
def RetQ (w : World) (b : Bool) (e : Ending) (w' : World) : Prop := e = .returned (.bool b) ∧ ∃ d, w' = w.drewN d
/-- a bool is handed back, memory has grown -/
def RetT (w : World) (b : Bool) (e : Ending) (w' : World) : Prop := e = .returned (.bool b) ∧ Below w.heap.size w w'
theorem RetQ.below {w w' : World} {b : Bool} {e : Ending} (h : RetQ w b e w') : e = .returned (.bool b) ∧ Below w.heap.size w w' := by
  obtain ⟨h1, d, rfl⟩ := h
  exact ⟨h1, below_drewN (bl_refl _) d⟩
theorem lk_eq (x y : Lk) (w : World) : (Op.equalIn 10000 25 (lkV x) (lkV y)).run Try.prog w = .ok (decide (x = y)) w := by
  have u3 := Try.underlying3
  have a3 := Try.isAgg3
  have z3 := Try.sizeOf3
  have hS : Try.prog.underlying 25 = some (.struct (Try.prog.fieldsOf 25)) := by kernel_rfl
  have hp : Try.prog.stoodInHeld 25 = false := by kernel_rfl
  unfold lkV
  obtain ⟨x1, x2, x3⟩ := x
  obtain ⟨y1, y2, y3⟩ := y
  rw [show (10000 : Nat) = 9999 + 1 from rfl, run_equalIn_agg w 9999 25 _ _ hS hp]
  simp only [Program.fieldsOf, Try.underlying25]
  go_simp
  by_cases h1 : x1 = y1 <;> by_cases h2 : x2 = y2 <;> by_cases h3 : x3 = y3 <;> simp [h1, h2, h3]

set_option maxHeartbeats 1000000 in
theorem same_walk (a b : Option Addr) (ca cb : Nat) (xs ys : List Lk) (w : World) (hx : RdL w a xs) (hy : RdL w b ys) (hxl : xs.length ≤ 9223372036854775807) (hyl : ys.length ≤ 9223372036854775807) :
    Calls Try.prog 10 #[.slice a xs.length ca, .slice b ys.length cb] w (RetQ w (decide (xs = ys))) := by
  have hgt : Try.prog.eqGuardType Try.prog.depth 25 = false := by kernel_rfl
  by_cases hl : xs.length = ys.length
  · have l0 : ((xs.length : Int) != (ys.length : Int)) = false := by simp [hl]
    have Hl := Lib.hid hl; clear hl
    go_enter Try.func10, Try.ntmps10
    go_wp2_with fail
    go_loopg [13] xs.length (fun r i wr => ∃ k : Nat, i = .int .i64 k ∧ k + r = xs.length ∧ xs.take k = ys.take k ∧ ∃ d, wr = w.drewN d)
    case atStart => exact ⟨0, rfl, by omega, rfl, 0, rfl⟩
    case round =>
      obtain ⟨k, rfl, hkr, htk, d, hwr⟩ := hrel
      by_cases h1 : k < xs.length
      · have h2 : k < ys.length := by rw [← Hl.out]; exact h1
        have hx2 : RdL wr a xs := by rw [hwr]; exact hx.below (below_drewN (bl_refl _) d)
        have hy2 : RdL wr b ys := by rw [hwr]; exact hy.below (below_drewN (bl_refl _) d)
        obtain ⟨b1, o1, rfl, p0, p1, p2⟩ := hx2.at k h1
        obtain ⟨b2, o2, rfl, q0, q1, q2⟩ := hy2.at k h2
        have hstep : xs[k] = ys[k] → xs.take (k + 1) = ys.take (k + 1) := fun e => by rw [List.take_succ_eq_append_getElem h1, List.take_succ_eq_append_getElem h2, htk, e]
        have hdiff : xs[k] ≠ ys[k] → xs ≠ ys := fun e e2 => e (by subst e2; rfl)
        obtain ⟨⟨x1, x2, x3⟩, hxe⟩ : ∃ x : Lk, xs[k] = x := ⟨_, rfl⟩
        obtain ⟨⟨y1, y2, y3⟩, hye⟩ : ∃ x : Lk, ys[k] = x := ⟨_, rfl⟩
        rw [hxe] at p0 p1 p2 hstep hdiff
        rw [hye] at q0 q1 q2 hstep hdiff
        simp only at p0 p1 p2 q0 q1 q2
        have hpe := fun w => lk_eq (x1, x2, x3) (y1, y2, y3) w
        unfold lkV at hpe
        simp only at hpe
        have i1 : (k : Int) < (xs.length : Int) := by omega
        have i2 : (k : Int) < (ys.length : Int) := by omega
        have Hwr := Lib.hid hwr; have Hkr := Lib.hid hkr
        clear hwr hkr htk hxe hye hx2 hy2
        by_cases he : ((x1, x2, x3) : Lk) = (y1, y2, y3)
        · have hs := hstep he
          rw [show decide (((x1, x2, x3) : Lk) = (y1, y2, y3)) = true by simpa using he] at hpe
          have Hs := Lib.hid hs; clear hs hstep hdiff he
          go_wp2_with fail
          go_quiet (fail)
          go_wp2_with fail
          go_roundg (gk - 1)
          case measure => have := Hkr.out; omega
          case rel => exact ⟨k + 1, by go_num, by have := Hkr.out; omega, Hs.out, d + nq, by rw [Hwr.out, World.drewN_drewN]⟩
        · have hs := hdiff he
          have hs2 : decide (xs = ys) = false := by simpa using hs
          rw [show decide (((x1, x2, x3) : Lk) = (y1, y2, y3)) = false by simpa using he] at hpe
          have Hs := Lib.hid hs2; clear hs hs2 hstep hdiff he
          go_wp2_with fail
          go_quiet (fail)
          go_wp2_with fail
          go_ret
          exact ⟨by rw [Hs.out] <;> rfl, d + nq, by rw [Hwr.out, World.drewN_drewN]⟩
      · have hk : k = xs.length := by omega
        subst hk
        have hs : decide (xs = ys) = true := by
          rw [decide_eq_true_eq]
          rw [List.take_length, Hl.out, List.take_length] at htk; exact htk
        have Hs := Lib.hid hs; have Hwr := Lib.hid hwr
        clear hs htk hwr hkr
        go_wp2_with fail
        go_ret
        exact ⟨by rw [Hs.out] <;> rfl, d, Hwr.out⟩
  · have l0 : ((xs.length : Int) != (ys.length : Int)) = true := by simp; omega
    have hs : decide (xs = ys) = false := by simp; intro e; exact hl (by rw [e])
    have Hs := Lib.hid hs; clear hs hl
    go_enter Try.func10, Try.ntmps10
    go_wp2_with fail
    go_ret
    exact ⟨by rw [Hs.out] <;> rfl, 0, rfl⟩
end Go.Proofs.Ytagcbnpahgfgmaa
