/- slices.BinarySearchFunc over rows of pairs that rise: is the pair among them? -/
import Derived.Test.YtddndhhhmlcgjaaRight
import Derived.IntWalk
namespace Go.Proofs.Ytddndhhhmlcgjaa
open Go Go.RowKit

theorem cmpP_lt (a b : Int × Int) : cmpP a b < 0 ↔ a.1 < b.1 ∨ (a.1 = b.1 ∧ a.2 < b.2) := by
  rcases Int.lt_trichotomy a.1 b.1 with h | h | h
  · simp [cmpP, orI, cmpI, h]
  · rcases Int.lt_trichotomy a.2 b.2 with k | k | k <;> simp [cmpP, orI, cmpI, h, k] <;> omega
  · simp [cmpP, orI, cmpI, h, show ¬ a.1 < b.1 by omega]; omega
theorem cmpP_trans {a b c : Int × Int} (h : cmpP a b < 0) (k : cmpP b c < 0) : cmpP a c < 0 := by
  rw [cmpP_lt] at *; omega
theorem cmpP_zero {a b : Int × Int} (h : cmpP a b = 0) : a = b := by
  rcases Int.lt_trichotomy a.1 b.1 with h1 | h1 | h1
  · simp [cmpP, orI, cmpI, h1] at h
  · rcases Int.lt_trichotomy a.2 b.2 with k | k | k
    · simp [cmpP, orI, cmpI, h1, k] at h
    · ext <;> assumption
    · simp [cmpP, orI, cmpI, h1, k, show ¬ a.2 < b.2 by omega] at h
  · simp [cmpP, orI, cmpI, h1, show ¬ a.1 < b.1 by omega] at h
theorem cmpP_refl (a : Int × Int) : cmpP a a = 0 := by simp [cmpP, orI, cmpI]

theorem rise_lt {es : List (Int × Int)} (h : ∀ k (h : k + 1 < es.length), cmpP es[k] es[k+1] < 0) : ∀ (d i : Nat) (hj : i + d + 1 < es.length), cmpP (es[i]'(by omega)) es[i+d+1] < 0 := by
  intro d
  induction d with
  | zero => intro i hj; exact h i hj
  | succ d ih => intro i hj; exact cmpP_trans (ih i (by omega)) (h (i + d + 1) hj)

theorem search_some {es : List (Int × Int)} {t : Int × Int} {i : Nat} (hlo : ∀ (k : Nat) (h : k < es.length), k < i → cmpP es[k] t < 0) (hhi : ∀ (k : Nat) (h : k < es.length), i ≤ k → 0 ≤ cmpP es[k] t) (hi : i < es.length) (hris : ∀ (d i : Nat) (hj : i + d + 1 < es.length), cmpP (es[i]'(by omega)) es[i+d+1] < 0) :
    es.contains t = (cmpP es[i] t == 0) := by
  rw [Bool.eq_iff_iff]
  simp only [List.contains_iff_mem, beq_iff_eq]
  constructor
  · intro h
    obtain ⟨k, hk, rfl⟩ := List.getElem_of_mem h
    rcases Nat.lt_trichotomy k i with h1 | h1 | h1
    · have := hlo k hk h1; rw [cmpP_refl] at this; omega
    · subst h1; exact cmpP_refl _
    · obtain ⟨d, rfl⟩ : ∃ d, k = i + d + 1 := ⟨k - i - 1, by omega⟩
      have h2 := hris d i hk
      have := hhi i hi (Nat.le_refl _)
      omega
  · intro h
    rw [← cmpP_zero h]
    exact List.getElem_mem hi
theorem search_none {es : List (Int × Int)} {t : Int × Int} (hlo : ∀ (k : Nat) (h : k < es.length), k < es.length → cmpP es[k] t < 0) : es.contains t = false := by
  rw [Bool.eq_false_iff]
  intro h
  obtain ⟨k, hk, rfl⟩ := List.getElem_of_mem (List.contains_iff_mem.1 h)
  have := hlo k hk hk; rw [cmpP_refl] at this; omega

set_option maxHeartbeats 2000000 in
theorem search_walk (a : Option Addr) (cap : Nat) (es : List (Int × Int)) (x y : Int) (w : World) (hr : RdP w a es) (hl : es.length ≤ 594)
    (hris : ∀ k (h : k + 1 < es.length), cmpP es[k] es[k+1] < 0) :
    Calls Try.prog 38 #[.slice a es.length cap, .agg #[.int .i64 x, .int .i64 y], .func (.func 39) #[] #[]] w
      fun e w' => ∃ i, e = .returned (.tuple #[.int .i64 i, .bool (es.contains (x, y))]) ∧ Below w.heap.size w w' := by
  have hris2 := rise_lt hris
  have Hris := Lib.hid hris2; clear hris hris2
  go_enter Try.func38, Try.ntmps38
  go_wp2_with fail
  go_loopg [9, 10] (es.length + 1) (fun r vi vj wr => ∃ (i j : Nat), vi = .int .i64 i ∧ vj = .int .i64 j ∧ i ≤ j ∧ j ≤ es.length ∧ j - i < r ∧ Below w.heap.size w wr ∧ wr.cell? ⟨w.heap.size, 0, none⟩ = some (.int .i64 x) ∧ wr.cell? ⟨w.heap.size, 1, none⟩ = some (.int .i64 y) ∧ w.heap.size < wr.heap.size ∧
    (∀ (k : Nat) (h : k < es.length), k < i → cmpP es[k] (x, y) < 0) ∧ (∀ (k : Nat) (h : k < es.length), j ≤ k → 0 ≤ cmpP es[k] (x, y)))
  case atStart => exact ⟨0, es.length, rfl, rfl, by omega, by omega, by omega, bl_alloc _ _, by simp, by simp, by simp, fun k _ h => absurd h (by omega), fun k h1 h2 => absurd h2 (by omega)⟩
  case round =>
    obtain ⟨i, j, rfl, rfl, hij, hj, hgk, hb, c0, c1, hsz, hlo, hhi⟩ := hrel
    have Hlo := Lib.hid hlo; have Hhi := Lib.hid hhi; clear hlo hhi
    by_cases hlt : i < j
    · obtain ⟨h, hh⟩ : ∃ h, h = (i + j) / 2 := ⟨_, rfl⟩
      have h1 : i ≤ h := by omega
      have h2 : h < j := by omega
      have h3 : h < es.length := by omega
      obtain ⟨b, o, rfl, p0, p1⟩ := (hr.below hb).at h h3
      obtain ⟨p, hp⟩ : ∃ p, p = es[h].1 := ⟨_, rfl⟩
      obtain ⟨q, hq⟩ : ∃ q, q = es[h].2 := ⟨_, rfl⟩
      rw [← hp] at p0
      rw [← hq] at p1
      have hz : es[h] = (p, q) := by ext <;> simp [hp, hq]
      have Hz := Lib.hid hz; clear hz hp hq
      go_upto_region 5 with (fail)
      have hhi2 : ((i : Int) + (j : Int)) / 2 = (h : Int) := by omega
      rw [hhi2]
      have i3 : (0 : Int) ≤ (h : Int) := by omega
      have i4 : (h : Int) < (es.length : Int) := by omega
      clear hh hhi2
      go_region_held3 (fun w' => w'.cell? ⟨b, o + h * 2, none⟩ = some (.int .i64 p) ∧ w'.cell? ⟨b, o + h * 2 + 1, none⟩ = some (.int .i64 q) ∧
        w'.cell? ⟨w.heap.size, 0, none⟩ = some (.int .i64 x) ∧ w'.cell? ⟨w.heap.size, 1, none⟩ = some (.int .i64 y)) (first | (refine ⟨?_, ?_, ?_, ?_⟩ <;> (refine keep_cell (by assumption) ?_; simp [*]; done)) | go_keep)
        (first | (go_at_call 39; refine (gcompare_any _ _ _ _ _).mono ?_; rintro e w' ⟨rfl, hbw⟩))
      go_wp2
      · have hneg : cmpP (p, q) (x, y) < 0 := by assumption
        replace hbw := bl_trans (Below.refl wr.heap.size wr).drew hbw
        have hnew : ∀ (k : Nat) (h' : k < es.length), k < h + 1 → cmpP es[k] (x, y) < 0 := fun k h' hk => by
          rcases Nat.lt_or_ge k h with hkh | hkh
          · obtain ⟨d, hd⟩ : ∃ d, h = k + d + 1 := ⟨h - k - 1, by omega⟩
            subst hd
            have := Hris.out d k h3
            rw [Hz.out] at this
            exact cmpP_trans this hneg
          · obtain rfl : k = h := by omega
            rw [Hz.out]; exact hneg
        go_roundg (gk - 1)
        case measure => omega
        case rel => exact ⟨h + 1, j, by go_num, rfl, by omega, hj, by omega, bl_trans hb hbw, keep_cell hbw c0, keep_cell hbw c1, by have := hbw.size; omega, hnew, Hhi.out⟩
      · have hneg : 0 ≤ cmpP (p, q) (x, y) := by assumption
        replace hbw := bl_trans (Below.refl wr.heap.size wr).drew hbw
        have hnew : ∀ (k : Nat) (h' : k < es.length), h ≤ k → 0 ≤ cmpP es[k] (x, y) := fun k h' hk => by
          rcases Nat.lt_or_ge h k with hkh | hkh
          · obtain ⟨d, hd⟩ : ∃ d, k = h + d + 1 := ⟨k - h - 1, by omega⟩
            subst hd
            have := Hris.out d h h'
            rw [Hz.out] at this
            rcases Int.lt_or_le (cmpP es[h + d + 1] (x, y)) 0 with hc | hc
            · have := cmpP_trans this hc; omega
            · exact hc
          · obtain rfl : k = h := by omega
            rw [Hz.out]; exact hneg
        go_roundg (gk - 1)
        case measure => omega
        case rel => exact ⟨i, h, rfl, rfl, by omega, by omega, by omega, bl_trans hb hbw, keep_cell hbw c0, keep_cell hbw c1, by have := hbw.size; omega, Hlo.out, hnew⟩
    · obtain rfl : i = j := by omega
      by_cases hin : i < es.length
      · obtain ⟨b, o, rfl, p0, p1⟩ := (hr.below hb).at i hin
        obtain ⟨p, hp⟩ : ∃ p, p = es[i].1 := ⟨_, rfl⟩
        obtain ⟨q, hq⟩ : ∃ q, q = es[i].2 := ⟨_, rfl⟩
        rw [← hp] at p0
        rw [← hq] at p1
        have hz : es[i] = (p, q) := by ext <;> simp [hp, hq]
        have Hz := Lib.hid hz; clear hz hp hq
        have i4 : (i : Int) < (es.length : Int) := by omega
        go_upto_region 8 with (fail)
        go_region_held3 (fun w' => w'.cell? ⟨b, o + i * 2, none⟩ = some (.int .i64 p) ∧ w'.cell? ⟨b, o + i * 2 + 1, none⟩ = some (.int .i64 q) ∧
          w'.cell? ⟨w.heap.size, 0, none⟩ = some (.int .i64 x) ∧ w'.cell? ⟨w.heap.size, 1, none⟩ = some (.int .i64 y)) (first | (refine ⟨?_, ?_, ?_, ?_⟩ <;> (refine keep_cell (by assumption) ?_; simp [*]; done)) | go_keep)
          (first | (go_at_call 39; refine (gcompare_any _ _ _ _ _).mono ?_; rintro e w' ⟨rfl, hbw⟩))
        go_wp2
        go_ret2
        refine ⟨i, ?_, bl_trans hb (bl_trans (Below.refl wr.heap.size wr).drew hbw)⟩
        rw [search_some Hlo.out Hhi.out hin Hris.out, Hz.out]
        rfl
      · have hi : i = es.length := by omega
        subst hi
        have g : decide ((es.length : Int) < (es.length : Int)) = false := by simp
        go_wp2_with fail
        go_quiet (fail)
        go_wp2
        go_ret2
        refine ⟨es.length, ?_, below_drewN hb _⟩
        rw [search_none Hlo.out]
        rfl
end Go.Proofs.Ytddndhhhmlcgjaa
