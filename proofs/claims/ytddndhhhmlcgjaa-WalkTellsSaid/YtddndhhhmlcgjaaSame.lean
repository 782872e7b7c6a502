/- fretworklow.SameInts, SameIntLists. -/
import Derived.Test.YtddndhhhmlcgjaaTop
namespace Go.Proofs.Ytddndhhhmlcgjaa
open Go Go.RowKit

def sameI (xs ys : List Int) : Bool := decide (xs = ys)

/-- a bool, nothing written -/
def RetB (w : World) (b : Bool) (e : Ending) (w' : World) : Prop := e = .returned (.bool b) ∧ ∃ n, w' = w.drewN n

theorem int_beq (a b : Nat) : ((a : Int) == (b : Int)) = decide (a = b) := by
  by_cases h : a = b
  · simp [h]
  · simp [h]; omega
theorem RdI.drewN {w : World} {a : Option Addr} {xs : List Int} (h : RdI w a xs) (n : Nat) : RdI (w.drewN n) a xs := h

set_option maxHeartbeats 1000000 in
theorem sameInts_walk (a b : Option Addr) (ca cb : Nat) (xs ys : List Int) (w : World) (hx : RdI w a xs) (hy : RdI w b ys) (hxl : xs.length ≤ 9223372036854775807) (hyl : ys.length ≤ 9223372036854775807) :
    Calls Try.prog 18 #[.slice a xs.length ca, .slice b ys.length cb] w (RetB w (sameI xs ys)) := by
  go_enter Try.func18, Try.ntmps18
  go_wp2_with fail
  go_loopg [5] xs.length (fun r i wr => ∃ k : Nat, i = .int .i64 k ∧ k + r = xs.length ∧ k ≤ ys.length ∧ (∀ j, j < k → xs[j]? = ys[j]?) ∧ ∃ d, wr = w.drewN d)
  case atStart => exact ⟨0, rfl, by omega, by omega, fun j h => absurd h (by omega), 0, rfl⟩
  case round =>
    obtain ⟨k, rfl, hkr, hky, hsame, d, rfl⟩ := hrel
    by_cases h1 : k < xs.length
    · by_cases h2 : k < ys.length
      · obtain ⟨b1, o1, rfl, c1⟩ := hx.at k h1
        obtain ⟨b2, o2, rfl, c2⟩ := hy.at k h2
        obtain ⟨x, hxk⟩ : ∃ x, x = xs[k] := ⟨_, rfl⟩
        obtain ⟨y, hyk⟩ : ∃ y, y = ys[k] := ⟨_, rfl⟩
        rw [← hxk] at c1
        rw [← hyk] at c2
        have d1 : decide ((k : Int) < (xs.length : Int)) = true := by simp; omega
        have d2 : decide ((k : Int) < (ys.length : Int)) = true := by simp; omega
        have i1 : (k : Int) < (xs.length : Int) := by omega
        have i2 : (k : Int) < (ys.length : Int) := by omega
        by_cases h3 : x = y
        · have h3' : (x == y) = true := by simpa using h3
          have hs2 : ∀ j, j < k + 1 → xs[j]? = ys[j]? := by
            intro j hj
            by_cases hjk : j < k
            · exact hsame j hjk
            · obtain rfl : j = k := by omega
              rw [List.getElem?_eq_getElem h1, List.getElem?_eq_getElem h2, ← hxk, ← hyk, h3]
          have Hs2 := Lib.hid hs2; have Hx := Lib.hid hxk; have Hy := Lib.hid hyk; have H3 := Lib.hid h3; clear hs2 hsame hxk hyk h3
          go_wp2_with fail
          go_quiet (fail)
          go_wp2_with fail
          go_roundg (gk - 1)
          case measure => omega
          case rel => exact ⟨k + 1, by go_num, by omega, by omega, Hs2.out, _, rfl⟩
        · have h3' : (x == y) = false := by simpa using h3
          have hne : sameI xs ys = false := by
            unfold sameI
            rw [decide_eq_false_iff_not]
            rintro rfl
            exact h3 (by rw [hxk, hyk])
          have Hne := Lib.hid hne; have Hx := Lib.hid hxk; have Hy := Lib.hid hyk; clear hne hsame hxk hyk
          go_wp2_with fail
          go_quiet (fail)
          go_wp2_with fail
          go_ret
          have d4 : decide ((k : Int) = (xs.length : Int)) = false := by simp; omega
          exact ⟨by rw [Hne.out]; simp; try omega, _, rfl⟩
      · have d1 : decide ((k : Int) < (xs.length : Int)) = true := by simp; omega
        have d2 : decide ((k : Int) < (ys.length : Int)) = false := by simp; omega
        have hne : sameI xs ys = false := by
          unfold sameI
          rw [decide_eq_false_iff_not]
          rintro rfl
          omega
        have Hne := Lib.hid hne; clear hne hsame
        go_wp2_with fail
        go_quiet (fail)
        go_wp2_with fail
        go_ret
        exact ⟨by rw [Hne.out]; simp; try omega, _, rfl⟩
    · have d1 : decide ((k : Int) < (xs.length : Int)) = false := by simp; omega
      have hk : k = xs.length := by omega
      have he : sameI xs ys = decide (xs.length = ys.length) := by
        unfold sameI
        by_cases hl : xs.length = ys.length
        · simp only [hl, decide_true, decide_eq_true_eq]
          apply List.ext_getElem?
          intro j
          by_cases hj : j < k
          · exact hsame j hj
          · rw [List.getElem?_eq_none (by omega), List.getElem?_eq_none (by omega)]
        · simp only [hl, decide_false, decide_eq_false_iff_not]
          rintro rfl
          exact hl rfl
      have He := Lib.hid he; clear he hsame
      subst hk
      clear hkr
      go_wp2_with fail
      go_quiet (fail)
      go_wp2_with fail
      go_ret
      exact ⟨by rw [He.out, ← int_beq]; rfl, _, rfl⟩

theorem RdP.drewN {w : World} {a : Option Addr} {xs : List (Int × Int)} (h : RdP w a xs) (n : Nat) : RdP (w.drewN n) a xs := h

theorem sameInts_quiet (a b : Option Addr) (ca cb : Nat) (xs ys : List Int) (w : World) (n : Nat) (t : Bool) (hx : RdI w a xs) (hy : RdI w b ys) (hxl : xs.length ≤ 9223372036854775807) (hyl : ys.length ≤ 9223372036854775807) (ht : sameI xs ys = t) :
    Calls Try.prog 18 #[.slice a xs.length ca, .slice b ys.length cb] (w.drewN n) fun e w'' => e = .returned (.bool t) ∧ ∃ m, w'' = w.drewN m := by
  refine (sameInts_walk a b ca cb xs ys (w.drewN n) (hx.drewN n) (hy.drewN n) hxl hyl).mono ?_
  rintro e w' ⟨h1, m, h2⟩
  exact ⟨by rw [h1, ht], n + m, by rw [h2, World.drewN_drewN]⟩

/-- A slice of slices of ints. -/
def RdR (w : World) (a : Option Addr) (rows : List (List Int)) : Prop :=
  ∀ (i : Nat) (r : List Int), rows[i]? = some r → ∃ b o, a = some ⟨b, o, none⟩ ∧ ∃ ai ci, w.cell? ⟨b, o + i, none⟩ = some (.slice ai r.length ci) ∧ RdI w ai r ∧ r.length ≤ 9223372036854775807
theorem RdR.drewN {w : World} {a : Option Addr} {rows : List (List Int)} (h : RdR w a rows) (n : Nat) : RdR (w.drewN n) a rows := h
theorem RdR.below {w w' : World} {a : Option Addr} {rows : List (List Int)} (h : RdR w a rows) (hb : Below w.heap.size w w') : RdR w' a rows := by
  intro i r hr
  obtain ⟨b, o, ha, ai, ci, hc, hi, hl⟩ := h i r hr
  exact ⟨b, o, ha, ai, ci, keep_cell hb hc, hi.below hb, hl⟩

def sameL (xs ys : List (List Int)) : Bool := decide (xs = ys)

set_option maxHeartbeats 1000000 in
theorem sameIntLists_walk (a b : Option Addr) (ca cb : Nat) (xs ys : List (List Int)) (w : World) (hx : RdR w a xs) (hy : RdR w b ys) (hxl : xs.length ≤ 9223372036854775807) (hyl : ys.length ≤ 9223372036854775807) :
    Calls Try.prog 19 #[.slice a xs.length ca, .slice b ys.length cb] w (RetB w (sameL xs ys)) := by
  by_cases hlen : xs.length = ys.length
  · have hl1 : ((xs.length : Int) != (ys.length : Int)) = false := by simp; omega
    have Hlen := Lib.hid hlen
    have hlen1 : xs.length ≤ ys.length := by omega
    have hlen2 : ys.length ≤ xs.length := by omega
    clear hlen
    go_enter Try.func19, Try.ntmps19
    go_wp2_with fail
    go_loopg [5] xs.length (fun r i wr => ∃ k : Nat, i = .int .i64 k ∧ k + r = xs.length ∧ (∀ j, j < k → xs[j]? = ys[j]?) ∧ ∃ d, wr = w.drewN d)
    case atStart => exact ⟨0, rfl, by omega, fun j h => absurd h (by omega), 0, rfl⟩
    case round =>
      obtain ⟨k, rfl, hkr, hsame, d, hwr⟩ := hrel
      have hx2 : RdR wr a xs := by rw [hwr]; exact hx.drewN d
      have hy2 : RdR wr b ys := by rw [hwr]; exact hy.drewN d
      have Hwr := Lib.hid hwr; clear hwr
      by_cases h1 : k < xs.length
      · have h2 : k < ys.length := by omega
        obtain ⟨x, hxk⟩ : ∃ x, xs[k]? = some x := ⟨xs[k], by simp⟩
        obtain ⟨y, hyk⟩ : ∃ y, ys[k]? = some y := ⟨ys[k], by simp⟩
        obtain ⟨b1, o1, rfl, a1, k1, c1, r1, l1⟩ := hx2 k x hxk
        obtain ⟨b2, o2, rfl, a2, k2, c2, r2, l2⟩ := hy2 k y hyk
        have i1 : (k : Int) < (xs.length : Int) := by omega
        have i2 : (k : Int) < (ys.length : Int) := by omega
        cases h3 : sameI x y with
        | true =>
          have h3' : x = y := by simpa [sameI] using h3
          have hs2 : ∀ j, j < k + 1 → xs[j]? = ys[j]? := by
            intro j hj
            by_cases hjk : j < k
            · exact hsame j hjk
            · obtain rfl : j = k := by omega
              rw [hxk, hyk, h3']
          have Hs2 := Lib.hid hs2; have Hx := Lib.hid hxk; have Hy := Lib.hid hyk; have H3 := Lib.hid h3; clear hs2 hsame hxk hyk h3 h3'
          go_wp2_with fail
          go_quiet ((go_at_call 18; exact sameInts_quiet _ _ _ _ x y _ _ _ r1 r2 l1 l2 H3.out))
          go_wp2_with fail
          go_roundg (gk - 1)
          case measure => omega
          case rel => exact ⟨k + 1, by go_num, by omega, Hs2.out, d + nq, by rw [Hwr.out, World.drewN_drewN]⟩
        | false =>
          have hne : sameL xs ys = false := by
            unfold sameL
            rw [decide_eq_false_iff_not]
            rintro rfl
            rw [hxk] at hyk
            cases hyk
            simp [sameI] at h3
          have Hne := Lib.hid hne; have H3 := Lib.hid h3; clear hne hsame h3 hxk hyk
          go_wp2_with fail
          go_quiet ((go_at_call 18; exact sameInts_quiet _ _ _ _ x y _ _ _ r1 r2 l1 l2 H3.out))
          go_wp2_with fail
          go_ret
          exact ⟨by rw [Hne.out]; rfl, d + nq, by rw [Hwr.out, World.drewN_drewN]⟩
      · have he : sameL xs ys = true := by
          unfold sameL
          rw [decide_eq_true_eq]
          apply List.ext_getElem?
          intro j
          by_cases hj : j < k
          · exact hsame j hj
          · rw [List.getElem?_eq_none (by omega), List.getElem?_eq_none (by omega)]
        have He := Lib.hid he; clear he hsame
        go_wp2_with fail
        go_ret
        exact ⟨by rw [He.out]; rfl, d, Hwr.out⟩
  · have hl1 : ((xs.length : Int) != (ys.length : Int)) = true := by simp; omega
    have hne : sameL xs ys = false := by
      unfold sameL
      rw [decide_eq_false_iff_not]
      rintro rfl
      exact hlen rfl
    have Hne := Lib.hid hne; clear hne
    go_enter Try.func19, Try.ntmps19
    go_wp2_with fail
    go_ret
    exact ⟨by rw [Hne.out]; rfl, 0, rfl⟩
end Go.Proofs.Ytddndhhhmlcgjaa
