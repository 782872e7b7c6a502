/- fretworklaw12.sameInts. -/
import Derived.Test.YtagjakgbmmbmhaaSameL
namespace Go.Proofs.Ytagjakgbmmbmhaa
open Go Go.RowKit

set_option maxHeartbeats 1000000 in
theorem sameInts12_walk (a b : Option Addr) (ca cb : Nat) (xs ys : List Int) (w : World) (hx : RdI w a xs) (hy : RdI w b ys) (hxl : xs.length ≤ 9223372036854775807) (hyl : ys.length ≤ 9223372036854775807) :
    Calls Try.prog 20 #[.slice a xs.length ca, .slice b ys.length cb] w (RetQ w (decide (xs = ys))) := by
  by_cases hl : xs.length = ys.length
  · have l0 : ((xs.length : Int) != (ys.length : Int)) = false := by simp [hl]
    have Hl := Lib.hid hl; clear hl
    go_enter Try.func20, Try.ntmps20
    go_wp2_with fail
    go_loopg [13] xs.length (fun r i wr => ∃ k : Nat, i = .int .i64 k ∧ k + r = xs.length ∧ xs.take k = ys.take k ∧ ∃ d, wr = w.drewN d)
    case atStart => exact ⟨0, rfl, by omega, rfl, 0, rfl⟩
    case round =>
      obtain ⟨k, rfl, hkr, htk, d, hwr⟩ := hrel
      by_cases h1 : k < xs.length
      · have h2 : k < ys.length := by rw [← Hl.out]; exact h1
        have hx2 : RdI wr a xs := by rw [hwr]; exact hx.below (below_drewN (bl_refl _) d)
        have hy2 : RdI wr b ys := by rw [hwr]; exact hy.below (below_drewN (bl_refl _) d)
        obtain ⟨b1, o1, rfl, p0⟩ := hx2.at k h1
        obtain ⟨b2, o2, rfl, q0⟩ := hy2.at k h2
        have hstep : xs[k] = ys[k] → xs.take (k + 1) = ys.take (k + 1) := fun e => by rw [List.take_succ_eq_append_getElem h1, List.take_succ_eq_append_getElem h2, htk, e]
        have hdiff : xs[k] ≠ ys[k] → xs ≠ ys := fun e e2 => e (by subst e2; rfl)
        obtain ⟨x, hxe⟩ : ∃ x : Int, xs[k] = x := ⟨_, rfl⟩
        obtain ⟨y, hye⟩ : ∃ x : Int, ys[k] = x := ⟨_, rfl⟩
        rw [hxe] at p0 hstep hdiff
        rw [hye] at q0 hstep hdiff
        have i1 : (k : Int) < (xs.length : Int) := by omega
        have i2 : (k : Int) < (ys.length : Int) := by omega
        have Hwr := Lib.hid hwr; have Hkr := Lib.hid hkr
        clear hwr hkr htk hxe hye hx2 hy2
        by_cases he : x = y
        · have hs := hstep he
          have q1 : (x != y) = false := by simpa using he
          have Hs := Lib.hid hs; clear hs hstep hdiff he
          go_wp2_with fail
          go_quiet (fail)
          go_wp2_with fail
          go_roundg (gk - 1)
          case measure => have := Hkr.out; omega
          case rel => exact ⟨k + 1, by go_num, by have := Hkr.out; omega, Hs.out, d + nq, by rw [Hwr.out, World.drewN_drewN]⟩
        · have hd : decide (xs = ys) = false := by rw [decide_eq_false_iff_not]; exact hdiff he
          have q1 : (x != y) = true := by simpa using he
          have Hd := Lib.hid hd; clear hd hstep hdiff he
          go_wp2_with fail
          go_quiet (fail)
          go_wp2_with fail
          go_ret
          exact ⟨by rw [Hd.out] <;> rfl, d + nq, by rw [Hwr.out, World.drewN_drewN]⟩
      · have hk : k = xs.length := by omega
        subst hk
        have he : decide (xs = ys) = true := by
          rw [decide_eq_true_eq]
          rw [List.take_length] at htk
          rw [htk, Hl.out, List.take_length]
        have He := Lib.hid he; have Hwr := Lib.hid hwr
        clear he htk hkr hwr
        go_wp2_with fail
        go_ret
        exact ⟨by rw [He.out] <;> rfl, d, Hwr.out⟩
  · have l0 : ((xs.length : Int) != (ys.length : Int)) = true := by simp only [bne_iff_ne, ne_eq]; omega
    have l1 : (xs.length != ys.length) = true := by simp only [bne_iff_ne, ne_eq]; exact hl
    have hd : decide (xs = ys) = false := by rw [decide_eq_false_iff_not]; rintro rfl; exact hl rfl
    have Hd := Lib.hid hd; clear hd hl
    go_enter Try.func20, Try.ntmps20
    go_wp2_with fail
    go_ret
    exact ⟨by rw [Hd.out] <;> rfl, 0, rfl⟩
end Go.Proofs.Ytagjakgbmmbmhaa
