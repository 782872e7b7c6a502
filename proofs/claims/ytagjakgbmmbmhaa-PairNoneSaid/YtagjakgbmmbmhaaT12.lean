/- fretworklaw12.touch. -/
import Derived.Test.YtagjakgbmmbmhaaRL2v
import Derived.Test.YtagjakgbmmbmhaaGrpP
namespace Go.Proofs.Ytagjakgbmmbmhaa
open Go Go.RowKit

def halfB (wo : List Int) (x b1 b2 : Int) : Bool := !wo.contains x && (x == b1 || x == b2)
theorem touchB_half (wo : List Int) (a1 a2 a3 b1 b2 b3 : Int) : touchB wo (a1, a2, a3) (b1, b2, b3) = (halfB wo a1 b1 b2 || halfB wo a2 b1 b2) := rfl
theorem take_contains (wo : List Int) (i : Nat) (h : i < wo.length) (x : Int) : (wo.take (i + 1)).contains x = ((wo.take i).contains x || x == wo[i]) := by
  rw [List.take_succ_eq_append_getElem h, List.contains_append, List.contains_cons, List.contains_nil, Bool.or_false]

set_option maxRecDepth 100000 in
set_option maxHeartbeats 2000000 in
theorem touch_law12_walk (a1 a2 a3 b1 b2 b3 : Int) (g : Option Addr) (cap : Nat) (wo : List Int) (w : World) (hr : RdI w g wo) (hl : wo.length ≤ 9223372036854775807) :
    Calls Try.prog 27 #[.agg #[.int .i64 a1, .int .i64 a2, .int .i64 a3], .agg #[.int .i64 b1, .int .i64 b2, .int .i64 b3], .slice g wo.length cap] w
      fun e w' => e = .returned (.bool (touchB wo (a1, a2, a3) (b1, b2, b3))) ∧ Below w.heap.size w w' := by
  have hB := bl_trans (bl_alloc w (.cells #[.int .i64 a1, .int .i64 a2, .int .i64 a3] 29)) (bl_alloc _ (.cells #[.int .i64 b1, .int .i64 b2, .int .i64 b3] 29))
  have hrB := hr.below hB
  clear hr
  go_enter Try.func27, Try.ntmps27
  go_wp2_with fail
  have c1 : ((w.alloc (.cells #[.int .i64 a1, .int .i64 a2, .int .i64 a3] 29)).alloc (.cells #[.int .i64 b1, .int .i64 b2, .int .i64 b3] 29)).cell? ⟨w.heap.size + 1, 0, none⟩ = some (.int .i64 b1) := by simp
  have c2 : ((w.alloc (.cells #[.int .i64 a1, .int .i64 a2, .int .i64 a3] 29)).alloc (.cells #[.int .i64 b1, .int .i64 b2, .int .i64 b3] 29)).cell? ⟨w.heap.size + 1, 1, none⟩ = some (.int .i64 b2) := by simp
  generalize (w.alloc (.cells #[.int .i64 a1, .int .i64 a2, .int .i64 a3] 29)).alloc (.cells #[.int .i64 b1, .int .i64 b2, .int .i64 b3] 29) = wB at hB hrB c1 c2 ⊢
  have i0 : ∀ w, (Instr.index 62 (.agg #[.int .i64 a1, .int .i64 a2]) (.int .i64 ((0 : Nat) : Int))).run Try.prog w = .ok (.int .i64 a1) w := fun _ => by kernel_rfl
  have j0 : ∀ w, (Instr.index 62 (.agg #[.int .i64 a1, .int .i64 a2]) (.int .i64 0)).run Try.prog w = .ok (.int .i64 a1) w := fun _ => by kernel_rfl
  have j1 : ∀ w, (Instr.index 62 (.agg #[.int .i64 a1, .int .i64 a2]) (.int .i64 1)).run Try.prog w = .ok (.int .i64 a2) w := fun _ => by kernel_rfl
  have i1 : ∀ w, (Instr.index 62 (.agg #[.int .i64 a1, .int .i64 a2]) (.int .i64 ((1 : Nat) : Int))).run Try.prog w = .ok (.int .i64 a2) w := fun _ => by kernel_rfl
  go_loopg [17] 2 (fun r iv wj => ∃ k : Nat, k + r = 2 ∧ iv = .int .i64 k ∧ (1 ≤ k → halfB wo a1 b1 b2 = false) ∧ (2 ≤ k → halfB wo a2 b1 b2 = false) ∧ wB = wj)
  case atStart => exact ⟨0, rfl, rfl, fun h => absurd h (by omega), fun h => absurd h (by omega), rfl⟩
  case round =>
    obtain ⟨k, hk, rfl, h1, h2, rfl⟩ := hrel
    have Hk := Lib.hid hk; have H1 := Lib.hid h1; have H2 := Lib.hid h2
    clear h1 h2
    rcases (show k = 0 ∨ k = 1 ∨ k = 2 by omega) with rfl | rfl | rfl
    · clear hk
      -- the end is V, the round K of 2; NEXT: what is known of the ends so far
      go_wp2_with fail
      obtain ⟨gO, rfl⟩ : ∃ n : Nat, n = gk := ⟨_, rfl⟩
      go_loopg [9, 22] wo.length (fun r ov iv wj => ∃ (i : Nat) (c : Bool), i + r = wo.length ∧ iv = .int .i64 i ∧ ov = .bool c ∧ c = (wo.take i).contains a1 ∧ wB = wj)
      case atStart => exact ⟨0, false, by omega, rfl, rfl, by simp, rfl⟩
      case round =>
        obtain ⟨i, c, hi, rfl, rfl, hc, rfl⟩ := hrel
        have Hi := Lib.hid hi; have Hc := Lib.hid hc; clear hc
        by_cases hil : i < wo.length
        · clear hi
          obtain ⟨b, o, rfl, c0⟩ := hrB.at i hil
          have hst := take_contains wo i hil a1
          obtain ⟨x, hx⟩ : ∃ x, wo[i] = x := ⟨_, rfl⟩
          rw [hx] at c0 hst
          clear hx
          cases c with
          | true =>
            rw [← Hc.out, Bool.true_or] at hst
            have Hst := Lib.hid hst; clear hst
            go_wp2_with fail
            go_roundg (gk - 1)
            case measure => have := Hi.out; omega
            case rel => exact ⟨i + 1, true, by have := Hi.out; omega, by go_num, rfl, Hst.out.symm, rfl⟩
          | false =>
            rw [← Hc.out, Bool.false_or] at hst
            obtain ⟨d, hd⟩ : ∃ d, (a1 == x) = d := ⟨_, rfl⟩
            rw [hd] at hst
            have Hst := Lib.hid hst; clear hst
            go_wp2_with fail
            go_roundg (gk - 1)
            case measure => have := Hi.out; omega
            case rel => exact ⟨i + 1, d, by have := Hi.out; omega, by go_num, rfl, Hst.out.symm, rfl⟩
        · have hin : i = wo.length := by omega
          subst hin
          have hc := Hc.out
          rw [List.take_length] at hc
          clear hi
          cases c with
          | true =>
            have hh : halfB wo a1 b1 b2 = false := by unfold halfB; rw [← hc]; rfl
            have Hh := Lib.hid hh; clear hh hc
            go_wp2_with fail
            go_roundg (gO - 1)
            case measure => have := Hk.out; omega
            case rel => exact ⟨1, by have := Hk.out; omega, by go_num, fun _ => Hh.out, fun h => absurd h (by omega), rfl⟩
          | false =>
            have hh : halfB wo a1 b1 b2 = (a1 == b1 || a1 == b2) := by unfold halfB; rw [← hc]; rfl
            clear hc
            by_cases e1 : a1 = b1
            · have q1 : (a1 == b1) = true := by simpa using e1
              rw [q1, Bool.true_or] at hh
              have Hh := Lib.hid hh; clear hh e1
              go_wp2_with fail
              go_ret
              exact ⟨by rw [touchB_half, Hh.out]; simp, hB⟩
            · have q1 : (a1 == b1) = false := by simpa using e1
              rw [q1, Bool.false_or] at hh
              clear e1
              by_cases e2 : a1 = b2
              · have q2 : (a1 == b2) = true := by simpa using e2
                rw [q2] at hh
                have Hh := Lib.hid hh; clear hh e2
                go_wp2_with fail
                go_ret
                exact ⟨by rw [touchB_half, Hh.out]; simp, hB⟩
              · have q2 : (a1 == b2) = false := by simpa using e2
                rw [q2] at hh
                have Hh := Lib.hid hh; clear hh e2
                go_wp2_with fail
                go_roundg (gO - 1)
                case measure => have := Hk.out; omega
                case rel => exact ⟨1, by have := Hk.out; omega, by go_num, fun _ => Hh.out, fun h => absurd h (by omega), rfl⟩
    · clear hk
      -- the end is V, the round K of 2; NEXT: what is known of the ends so far
      go_wp2_with fail
      obtain ⟨gO, rfl⟩ : ∃ n : Nat, n = gk := ⟨_, rfl⟩
      go_loopg [9, 22] wo.length (fun r ov iv wj => ∃ (i : Nat) (c : Bool), i + r = wo.length ∧ iv = .int .i64 i ∧ ov = .bool c ∧ c = (wo.take i).contains a2 ∧ wB = wj)
      case atStart => exact ⟨0, false, by omega, rfl, rfl, by simp, rfl⟩
      case round =>
        obtain ⟨i, c, hi, rfl, rfl, hc, rfl⟩ := hrel
        have Hi := Lib.hid hi; have Hc := Lib.hid hc; clear hc
        by_cases hil : i < wo.length
        · clear hi
          obtain ⟨b, o, rfl, c0⟩ := hrB.at i hil
          have hst := take_contains wo i hil a2
          obtain ⟨x, hx⟩ : ∃ x, wo[i] = x := ⟨_, rfl⟩
          rw [hx] at c0 hst
          clear hx
          cases c with
          | true =>
            rw [← Hc.out, Bool.true_or] at hst
            have Hst := Lib.hid hst; clear hst
            go_wp2_with fail
            go_roundg (gk - 1)
            case measure => have := Hi.out; omega
            case rel => exact ⟨i + 1, true, by have := Hi.out; omega, by go_num, rfl, Hst.out.symm, rfl⟩
          | false =>
            rw [← Hc.out, Bool.false_or] at hst
            obtain ⟨d, hd⟩ : ∃ d, (a2 == x) = d := ⟨_, rfl⟩
            rw [hd] at hst
            have Hst := Lib.hid hst; clear hst
            go_wp2_with fail
            go_roundg (gk - 1)
            case measure => have := Hi.out; omega
            case rel => exact ⟨i + 1, d, by have := Hi.out; omega, by go_num, rfl, Hst.out.symm, rfl⟩
        · have hin : i = wo.length := by omega
          subst hin
          have hc := Hc.out
          rw [List.take_length] at hc
          clear hi
          cases c with
          | true =>
            have hh : halfB wo a2 b1 b2 = false := by unfold halfB; rw [← hc]; rfl
            have Hh := Lib.hid hh; clear hh hc
            go_wp2_with fail
            go_roundg (gO - 1)
            case measure => have := Hk.out; omega
            case rel => exact ⟨2, by have := Hk.out; omega, by go_num, fun _ => H1.out (by omega), fun _ => Hh.out, rfl⟩
          | false =>
            have hh : halfB wo a2 b1 b2 = (a2 == b1 || a2 == b2) := by unfold halfB; rw [← hc]; rfl
            clear hc
            by_cases e1 : a2 = b1
            · have q1 : (a2 == b1) = true := by simpa using e1
              rw [q1, Bool.true_or] at hh
              have Hh := Lib.hid hh; clear hh e1
              go_wp2_with fail
              go_ret
              exact ⟨by rw [touchB_half, Hh.out]; simp, hB⟩
            · have q1 : (a2 == b1) = false := by simpa using e1
              rw [q1, Bool.false_or] at hh
              clear e1
              by_cases e2 : a2 = b2
              · have q2 : (a2 == b2) = true := by simpa using e2
                rw [q2] at hh
                have Hh := Lib.hid hh; clear hh e2
                go_wp2_with fail
                go_ret
                exact ⟨by rw [touchB_half, Hh.out]; simp, hB⟩
              · have q2 : (a2 == b2) = false := by simpa using e2
                rw [q2] at hh
                have Hh := Lib.hid hh; clear hh e2
                go_wp2_with fail
                go_roundg (gO - 1)
                case measure => have := Hk.out; omega
                case rel => exact ⟨2, by have := Hk.out; omega, by go_num, fun _ => H1.out (by omega), fun _ => Hh.out, rfl⟩
    · clear hk
      go_wp2_with fail
      go_ret
      exact ⟨by rw [touchB_half, H1.out (by omega), H2.out (by omega)]; rfl, hB⟩
end Go.Proofs.Ytagjakgbmmbmhaa
