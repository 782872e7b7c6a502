/- fretworkref02.Right, Has; fretworkref04.has, asked, next. -/
import Derived.Test.YtddndhhhmlcgjaaSame
import Derived.Test.YtddndhhhmlcgjaaAwake
import Derived.Test.YtddndhhhmlcgjaaHas
import Derived.BigRegion
namespace Go.Proofs.Ytddndhhhmlcgjaa
open Go Go.RowKit

/-- what was told of the pair ahead -/
def LastOf (es : List (Int × Int)) (i : Nat) (z : Int) : Prop := (i = 0 → z = -1) ∧ (∀ p : Int × Int, 0 < i → es[i-1]? = some p → z = p.1 * 200 + p.2) ∧ -1 ≤ z ∧ z ≤ 40000

set_option maxHeartbeats 4000000 in
theorem refRight_walk (n : Int) (a : Option Addr) (cap : Nat) (es : List (Int × Int)) (w : World) (hr : RdP w a es) (hcap : es.length ≤ 9223372036854775807) :
    Calls Try.prog 34 #[.agg #[.int .i64 n, .slice a es.length cap]] w (RetT w (rightB n es)) := by
  have hbx : Below w.heap.size w (w.alloc (.cells #[.int .i64 n, .slice a es.length cap] 24)) := bl_alloc _ _
  by_cases h0 : n < 0
  · have hno := right_no (n := n) (es := es) (by omega)
    have Hno := Lib.hid hno; clear hno
    have g0 : decide (n < 0) = true := by simpa using h0
    go_enter Try.func34, Try.ntmps34
    go_wp2_with fail
    go_ret
    exact ⟨by rw [Hno.out] <;> rfl, hbx⟩
  by_cases h1 : 200 < n
  · have hno := right_no (n := n) (es := es) (by omega)
    have Hno := Lib.hid hno; clear hno
    have g0 : decide (n < 0) = false := by simpa using h0
    have g1 : decide (200 < n) = true := by simpa using h1
    go_enter Try.func34, Try.ntmps34
    go_wp2_with fail
    go_ret
    exact ⟨by rw [Hno.out] <;> rfl, hbx⟩
  have g0 : decide (n < 0) = false := by simpa using h0
  have g1 : decide (200 < n) = false := by simpa using h1
  by_cases h2 : 594 < es.length
  · have hno := right_no (n := n) (es := es) (by omega)
    have Hno := Lib.hid hno; clear hno
    have g2 : decide ((594 : Int) < (es.length : Int)) = true := by simp; omega
    go_enter Try.func34, Try.ntmps34
    go_wp2_with fail
    go_ret
    exact ⟨by rw [Hno.out] <;> rfl, hbx⟩
  have g2 : decide ((594 : Int) < (es.length : Int)) = false := by simp; omega
  go_enter Try.func34, Try.ntmps34
  go_wp2_with fail
  obtain ⟨W1, hW1⟩ : ∃ W1, W1 = w.alloc (.cells #[.int .i64 n, .slice a es.length cap] 24) := ⟨_, rfl⟩
  rw [← hW1] at hbx ⊢
  have C0 : W1.cell? ⟨w.heap.size, 0, none⟩ = some (.int .i64 n) := by rw [hW1]; simp
  have C1 : W1.cell? ⟨w.heap.size, 1, none⟩ = some (.slice a es.length cap) := by rw [hW1]; simp
  clear hW1
  go_loopg [3, 4] es.length (fun r l i wr => ∃ (k : Nat) (z : Int), i = .int .i64 k ∧ l = .int .i64 z ∧ k + r = es.length ∧ LastOf es k z ∧ (∀ j (h : j < es.length), j < k → 0 ≤ es[j].1 ∧ es[j].1 < es[j].2 ∧ es[j].2 < n) ∧ (∀ j (h : j + 1 < es.length), j + 1 < k → cmpP es[j] es[j+1] < 0) ∧ Below W1.heap.size W1 wr)
  case atStart => exact ⟨0, -1, rfl, rfl, by omega, ⟨fun _ => rfl, fun p h => by omega, by omega, by omega⟩, fun j _ h => by omega, fun j _ h => by omega, bl_refl _⟩
  case round =>
    obtain ⟨k, z, rfl, rfl, hkr, hlast, hok, hris, hb⟩ := hrel
    have c0 := keep_cell hb C0; have c1 := keep_cell hb C1
    by_cases hlt : k < es.length
    · obtain ⟨bb, oo, rfl, p0, p1⟩ := (hr.below (bl_trans hbx hb)).at k hlt
      obtain ⟨x, hx⟩ : ∃ x, es[k].1 = x := ⟨_, rfl⟩
      obtain ⟨y, hy⟩ : ∃ y, es[k].2 = y := ⟨_, rfl⟩
      rw [hx] at p0; rw [hy] at p1
      have hek : es[k] = (x, y) := by ext <;> simp [hx, hy]
      have i1 : (k : Int) < (es.length : Int) := by omega
      have Hlast := Lib.hid hlast; have Hok := Lib.hid hok; have Hris := Lib.hid hris; have Hkr := Lib.hid hkr; have Hek := Lib.hid hek
      clear hlast hok hris hkr hek hx hy C0 C1
      have hbadE : ¬ (0 ≤ x ∧ x < y ∧ y < n) → rightB n es = false := fun h => right_no_edge k hlt (by rw [Hek.out]; exact h)
      by_cases b1 : x < 0
      · have Hno := Lib.hid (hbadE (by omega)); clear hbadE
        have f1 : decide (x < 0) = true := by simpa using b1
        go_wp2_with fail
        go_quiet (fail)
        go_wp2_with fail
        go_ret
        exact ⟨by rw [Hno.out] <;> rfl, bl_trans hbx (below_drewN hb _)⟩
      have f1 : decide (x < 0) = false := by simpa using b1
      by_cases b2 : y < 0
      · have Hno := Lib.hid (hbadE (by omega)); clear hbadE
        have f2 : decide (y < 0) = true := by simpa using b2
        go_wp2_with fail
        go_quiet (fail)
        go_wp2_with fail
        go_ret
        exact ⟨by rw [Hno.out] <;> rfl, bl_trans hbx (below_drewN hb _)⟩
      have f2 : decide (y < 0) = false := by simpa using b2
      by_cases b3 : n ≤ x
      · have Hno := Lib.hid (hbadE (by omega)); clear hbadE
        have f3 : decide (n ≤ x) = true := by simpa using b3
        go_wp2_with fail
        go_quiet (fail)
        go_wp2_with fail
        go_ret
        exact ⟨by rw [Hno.out] <;> rfl, bl_trans hbx (below_drewN hb _)⟩
      have f3 : decide (n ≤ x) = false := by simpa using b3
      by_cases b4 : n ≤ y
      · have Hno := Lib.hid (hbadE (by omega)); clear hbadE
        have f4 : decide (n ≤ y) = true := by simpa using b4
        go_wp2_with fail
        go_quiet (fail)
        go_wp2_with fail
        go_ret
        exact ⟨by rw [Hno.out] <;> rfl, bl_trans hbx (below_drewN hb _)⟩
      have f4 : decide (n ≤ y) = false := by simpa using b4
      by_cases b5 : y ≤ x
      · have Hno := Lib.hid (hbadE (by omega)); clear hbadE
        have f5 : decide (y ≤ x) = true := by simpa using b5
        go_wp2_with fail
        go_quiet (fail)
        go_wp2_with fail
        go_ret
        exact ⟨by rw [Hno.out] <;> rfl, bl_trans hbx (below_drewN hb _)⟩
      have f5 : decide (y ≤ x) = false := by simpa using b5
      clear hbadE
      have hz1 := Hlast.out.2.2.1
      have hz2 := Hlast.out.2.2.2
      by_cases b6 : x * 200 + y ≤ z
      · have hno : rightB n es = false := by
          have hk0 : 0 < k := by
            rcases Nat.eq_zero_or_pos k with h | h
            · have := Hlast.out.1 h; omega
            · exact h
          have h1 := Hlast.out.2.1 es[k-1] hk0 (by rw [List.getElem?_eq_getElem (by omega)])
          have h2 := Hok.out (k - 1) (by omega) (by omega)
          refine right_no_ris (k - 1) (by omega) ?_
          rw [cmpP_neg]
          have e : es[k - 1 + 1]'(by omega) = (x, y) := by rw [← Hek.out]; congr 1; omega
          rw [e]
          unfold lessP
          simp only
          omega
        have Hno := Lib.hid hno; clear hno
        have f6 : decide (x * 200 + y ≤ z) = true := by simpa using b6
        go_wp2_with fail
        go_quiet (fail)
        go_wp2_with fail
        go_ret
        exact ⟨by rw [Hno.out] <;> rfl, bl_trans hbx (below_drewN hb _)⟩
      have f6 : decide (x * 200 + y ≤ z) = false := by simpa using b6
      go_wp2_with fail
      go_quiet (fail)
      go_wp2_with fail
      go_roundg (gk - 1)
      case measure => have := Hkr.out; omega
      case rel =>
        refine ⟨k + 1, x * 200 + y, by go_num, rfl, by have := Hkr.out; omega, ⟨fun h => by omega, fun p _ hp => ?_, by omega, by omega⟩, fun j h hj => ?_, fun j h hj => ?_, below_drewN hb _⟩
        · rw [show k + 1 - 1 = k by omega, List.getElem?_eq_getElem hlt, Hek.out] at hp
          cases hp; rfl
        · by_cases hjk : j < k
          · exact Hok.out j h hjk
          · obtain rfl : j = k := by omega
            rw [Hek.out]; simp only; omega
        · by_cases hjk : j + 1 < k
          · exact Hris.out j h hjk
          · obtain rfl : k = j + 1 := by omega
            have h1 := Hlast.out.2.1 es[j] (by omega) (by rw [show j + 1 - 1 = j by omega, List.getElem?_eq_getElem (by omega)])
            have h2 := Hok.out j (by omega) (by omega)
            rw [cmpP_neg, Hek.out]
            unfold lessP
            simp only
            omega
    · have hyes : rightB n es = true := (rightB_iff _ _).2 ⟨by omega, by omega, by omega, fun j h => hok j h (by omega), fun j h => hris j h (by omega)⟩
      have Hy := Lib.hid hyes
      clear hyes hok hris hlast
      go_wp2_with fail
      go_ret
      exact ⟨by rw [Hy.out] <;> rfl, bl_trans hbx hb⟩

/-- has: is a number in a list? -/
theorem refHas0_walk (a : Option Addr) (ca : Nat) (xs : List Int) (x : Int) (w : World) (hx : RdI w a xs) (hxl : xs.length ≤ 9223372036854775807) :
    Calls Try.prog 35 #[.slice a xs.length ca, .int .i64 x] w fun e w' => e = .returned (.bool (xs.contains x)) ∧ w' = w := by
  go_enter Try.func35, Try.ntmps35
  go_wp2_with fail
  go_loopg [5] xs.length (fun r i wr => ∃ k : Nat, i = .int .i64 k ∧ k + r = xs.length ∧ (∀ j (h : j < xs.length), j < k → xs[j] ≠ x) ∧ wr = w)
  case atStart => exact ⟨0, rfl, by omega, fun j _ h => absurd h (by omega), rfl⟩
  case round =>
    obtain ⟨k, rfl, hkr, hno, rfl⟩ := hrel
    by_cases h1 : k < xs.length
    · obtain ⟨b1, o1, rfl, c1⟩ := hx.at k h1
      obtain ⟨y, hy⟩ : ∃ y, xs[k] = y := ⟨_, rfl⟩
      rw [hy] at c1
      have i1 : (k : Int) < (xs.length : Int) := by omega
      by_cases h2 : y = x
      · have hyes : xs.contains x = true := by
          rw [List.contains_iff_mem, ← h2, ← hy]; exact List.getElem_mem h1
        have g1 : (y == x) = true := by simpa using h2
        have Hyes := Lib.hid hyes; clear hyes hno hkr hy h2
        go_wp2_with fail
        go_ret
        exact ⟨by rw [Hyes.out] <;> rfl, rfl⟩
      · have g1 : (y == x) = false := by simpa using h2
        have hno2 : ∀ j (h : j < xs.length), j < k + 1 → xs[j] ≠ x := by
          intro j h hj
          by_cases hjk : j < k
          · exact hno j h hjk
          · obtain rfl : j = k := by omega
            rw [hy]; exact h2
        have Hno := Lib.hid hno2; have Hkr := Lib.hid hkr
        clear hno hno2 hkr hy h2
        go_wp2_with fail
        go_roundg (gk - 1)
        case measure => have := Hkr.out; omega
        case rel => exact ⟨k + 1, by go_num, by have := Hkr.out; omega, Hno.out, rfl⟩
    · have hf : xs.contains x = false := by
        rw [Bool.eq_false_iff]
        intro h
        rw [List.contains_iff_mem] at h
        obtain ⟨j, hj, e⟩ := List.getElem_of_mem h
        exact hno j hj (by omega) e
      have Hf := Lib.hid hf; clear hf hno
      go_wp2_with fail
      go_ret
      exact ⟨by rw [Hf.out] <;> rfl, rfl⟩

theorem hasB_found {n : Int} {es : List (Int × Int)} {x y : Int} (k : Nat) (hk : k < es.length) (h : es[k] = (x, y) ∨ es[k] = (y, x)) : hasB n es x y = rightB n es := by
  unfold hasB
  cases hr : rightB n es with
  | false => rfl
  | true =>
    have h3 := ((rightB_iff _ _).1 hr).2.2.2.1 k hk
    rw [Bool.true_and, List.contains_iff_mem]
    have hm := List.getElem_mem hk
    rcases h with h | h
    · rw [h] at h3 hm
      simp only at h3
      have e : (min x y, max x y) = (x, y) := by ext <;> simp <;> omega
      rw [e]; exact hm
    · rw [h] at h3 hm
      simp only at h3
      have e : (min x y, max x y) = (y, x) := by ext <;> simp <;> omega
      rw [e]; exact hm
theorem hasB_none {n : Int} {es : List (Int × Int)} {x y : Int} (h : ∀ k (hk : k < es.length), es[k] ≠ (x, y) ∧ es[k] ≠ (y, x)) : hasB n es x y = false := by
  unfold hasB
  rw [Bool.and_eq_false_iff]; right
  rw [Bool.eq_false_iff]
  intro hc
  rw [List.contains_iff_mem] at hc
  obtain ⟨k, hk, he⟩ := List.getElem_of_mem hc
  rcases Int.le_total x y with hxy | hxy
  · exact (h k hk).1 (by rw [he]; ext <;> simp <;> omega)
  · exact (h k hk).2 (by rw [he]; ext <;> simp <;> omega)

set_option maxHeartbeats 4000000 in
theorem refHas_walk (n : Int) (a : Option Addr) (cap : Nat) (es : List (Int × Int)) (x y : Int) (w : World) (hr : RdP w a es) (hcap : es.length ≤ 9223372036854775807) :
    Calls Try.prog 31 #[.agg #[.int .i64 n, .slice a es.length cap], .int .i64 x, .int .i64 y] w (RetT w (hasB n es x y)) := by
  have hbx : Below w.heap.size w (w.alloc (.cells #[.int .i64 n, .slice a es.length cap] 24)) := bl_alloc _ _
  go_enter Try.func31, Try.ntmps31
  go_wp2_with fail
  obtain ⟨W1, hW1⟩ : ∃ W1, W1 = w.alloc (.cells #[.int .i64 n, .slice a es.length cap] 24) := ⟨_, rfl⟩
  rw [← hW1] at hbx ⊢
  have C0 : W1.cell? ⟨w.heap.size, 0, none⟩ = some (.int .i64 n) := by rw [hW1]; simp
  have C1 : W1.cell? ⟨w.heap.size, 1, none⟩ = some (.slice a es.length cap) := by rw [hW1]; simp
  clear hW1
  go_loopg [7] es.length (fun r i wr => ∃ (k : Nat), i = .int .i64 k ∧ k + r = es.length ∧ (∀ j (h : j < es.length), j < k → es[j] ≠ (x, y) ∧ es[j] ≠ (y, x)) ∧ Below W1.heap.size W1 wr)
  case atStart => exact ⟨0, rfl, by omega, fun j _ h => by omega, bl_refl _⟩
  case round =>
    obtain ⟨k, rfl, hkr, hno, hb⟩ := hrel
    have c0 := keep_cell hb C0; have c1 := keep_cell hb C1
    by_cases hlt : k < es.length
    · have hrr := hr.below (bl_trans hbx hb)
      obtain ⟨bb, oo, rfl, p0, p1⟩ := hrr.at k hlt
      obtain ⟨u, hx⟩ : ∃ u, es[k].1 = u := ⟨_, rfl⟩
      obtain ⟨v, hy⟩ : ∃ v, es[k].2 = v := ⟨_, rfl⟩
      rw [hx] at p0; rw [hy] at p1
      have hek : es[k] = (u, v) := by ext <;> simp [hx, hy]
      have i1 : (k : Int) < (es.length : Int) := by omega
      have szw := World.block_lt_of_cell? _ _ c0
      clear C0 C1
      by_cases h1 : u = x ∧ v = y
      · obtain ⟨rfl, rfl⟩ := h1
        have g1 : (u == u) = true := by simp
        have g2 : (v == v) = true := by simp
        have Hyes := Lib.hid (hasB_found (n := n) k hlt (Or.inl hek))
        clear hno hkr hek hx hy
        go_wp2_with (go_at_call 34; refine (refRight_walk n _ cap es _ (hrr.below (bl_alloc _ _)) hcap).mono ?_; rintro e w6 ⟨rfl, hb6⟩)
        go_ret
        exact ⟨by rw [Hyes.out] <;> rfl, bl_trans hbx (bl_trans hb (bl_trans (bl_alloc _ _) hb6))⟩
      · by_cases h2 : u = y ∧ v = x
        · obtain ⟨rfl, rfl⟩ := h2
          have g1 : (u == u) = true := by simp
          have g2 : (v == v) = true := by simp
          have g3 : (u == v) = false := by rw [beq_eq_false_iff_ne]; intro e; exact h1 ⟨e, e.symm⟩
          have Hyes := Lib.hid (hasB_found (n := n) k hlt (Or.inr hek))
          clear hno hkr hek hx hy
          go_wp2_with (go_at_call 34; refine (refRight_walk n _ cap es _ (hrr.below (bl_alloc _ _)) hcap).mono ?_; rintro e w6 ⟨rfl, hb6⟩)
          go_ret
          exact ⟨by rw [Hyes.out] <;> rfl, bl_trans hbx (bl_trans hb (bl_trans (bl_alloc _ _) hb6))⟩
        · by_cases e1 : u = x
          · have g1 : (u == x) = true := by simpa using e1
            have g2 : (v == y) = false := by rw [beq_eq_false_iff_ne]; intro e; exact h1 ⟨e1, e⟩
            by_cases e2 : u = y
            · have g3 : (u == y) = true := by simpa using e2
              have g4 : (v == x) = false := by rw [beq_eq_false_iff_ne]; intro e; exact h2 ⟨e2, e⟩
              have hno2 : ∀ j (h : j < es.length), j < k + 1 → es[j] ≠ (x, y) ∧ es[j] ≠ (y, x) := by
                intro j h hj
                by_cases hjk : j < k
                · exact hno j h hjk
                · obtain rfl : j = k := by omega
                  rw [hek]; exact ⟨fun e => by have e1 := congrArg Prod.fst e; have e2 := congrArg Prod.snd e; simp only at e1 e2; omega, fun e => by have e1 := congrArg Prod.fst e; have e2 := congrArg Prod.snd e; simp only at e1 e2; omega⟩
              have Hno := Lib.hid hno2; have Hkr := Lib.hid hkr
              clear hno hno2 hkr hek hx hy h1 h2
              (try clear e1); (try clear e2)
              go_wp2_with fail
              go_roundg (gk - 1)
              case measure => have := Hkr.out; omega
              case rel => exact ⟨k + 1, by go_num, by have := Hkr.out; omega, Hno.out, bl_trans hb (bl_alloc _ _)⟩
            · have g3 : (u == y) = false := by simpa using e2
              have hno2 : ∀ j (h : j < es.length), j < k + 1 → es[j] ≠ (x, y) ∧ es[j] ≠ (y, x) := by
                intro j h hj
                by_cases hjk : j < k
                · exact hno j h hjk
                · obtain rfl : j = k := by omega
                  rw [hek]; exact ⟨fun e => by have e1 := congrArg Prod.fst e; have e2 := congrArg Prod.snd e; simp only at e1 e2; omega, fun e => by have e1 := congrArg Prod.fst e; have e2 := congrArg Prod.snd e; simp only at e1 e2; omega⟩
              have Hno := Lib.hid hno2; have Hkr := Lib.hid hkr
              clear hno hno2 hkr hek hx hy h1 h2
              (try clear e1); (try clear e2)
              go_wp2_with fail
              go_roundg (gk - 1)
              case measure => have := Hkr.out; omega
              case rel => exact ⟨k + 1, by go_num, by have := Hkr.out; omega, Hno.out, bl_trans hb (bl_alloc _ _)⟩
          · have g1 : (u == x) = false := by simpa using e1
            by_cases e2 : u = y
            · have g3 : (u == y) = true := by simpa using e2
              have g4 : (v == x) = false := by rw [beq_eq_false_iff_ne]; intro e; exact h2 ⟨e2, e⟩
              have hno2 : ∀ j (h : j < es.length), j < k + 1 → es[j] ≠ (x, y) ∧ es[j] ≠ (y, x) := by
                intro j h hj
                by_cases hjk : j < k
                · exact hno j h hjk
                · obtain rfl : j = k := by omega
                  rw [hek]; exact ⟨fun e => by have e1 := congrArg Prod.fst e; have e2 := congrArg Prod.snd e; simp only at e1 e2; omega, fun e => by have e1 := congrArg Prod.fst e; have e2 := congrArg Prod.snd e; simp only at e1 e2; omega⟩
              have Hno := Lib.hid hno2; have Hkr := Lib.hid hkr
              clear hno hno2 hkr hek hx hy h1 h2
              (try clear e1); (try clear e2)
              go_wp2_with fail
              go_roundg (gk - 1)
              case measure => have := Hkr.out; omega
              case rel => exact ⟨k + 1, by go_num, by have := Hkr.out; omega, Hno.out, bl_trans hb (bl_alloc _ _)⟩
            · have g3 : (u == y) = false := by simpa using e2
              have hno2 : ∀ j (h : j < es.length), j < k + 1 → es[j] ≠ (x, y) ∧ es[j] ≠ (y, x) := by
                intro j h hj
                by_cases hjk : j < k
                · exact hno j h hjk
                · obtain rfl : j = k := by omega
                  rw [hek]; exact ⟨fun e => by have e1 := congrArg Prod.fst e; have e2 := congrArg Prod.snd e; simp only at e1 e2; omega, fun e => by have e1 := congrArg Prod.fst e; have e2 := congrArg Prod.snd e; simp only at e1 e2; omega⟩
              have Hno := Lib.hid hno2; have Hkr := Lib.hid hkr
              clear hno hno2 hkr hek hx hy h1 h2
              (try clear e1); (try clear e2)
              go_wp2_with fail
              go_roundg (gk - 1)
              case measure => have := Hkr.out; omega
              case rel => exact ⟨k + 1, by go_num, by have := Hkr.out; omega, Hno.out, bl_trans hb (bl_alloc _ _)⟩
    · have hf := hasB_none (n := n) (fun j hj => hno j hj (by omega))
      have Hf := Lib.hid hf; clear hf hno
      go_wp2_with fail
      go_ret
      exact ⟨by rw [Hf.out] <;> rfl, bl_trans hbx hb⟩

/-- asked: the error of asking for a vertex -/
def askE (n : Int) (es : List (Int × Int)) (v : Int) : Int := if rightB n es then (if inR n v then 0 else 2) else 20
def RetI (w : World) (x : Int) (e : Ending) (w' : World) : Prop := e = .returned (.int .i64 x) ∧ Below w.heap.size w w'
theorem asked_walk (n : Int) (a : Option Addr) (cap : Nat) (es : List (Int × Int)) (v : Int) (w : World) (hr : RdP w a es) (hcap : es.length ≤ 9223372036854775807) :
    Calls Try.prog 28 #[.agg #[.int .i64 n, .slice a es.length cap], .int .i64 v] w (RetI w (askE n es v)) := by
  have hbx : Below w.heap.size w (w.alloc (.cells #[.int .i64 n, .slice a es.length cap] 24)) := bl_alloc _ _
  cases hright : rightB n es with
  | false =>
    have hE : askE n es v = 20 := by simp [askE, hright]
    have HE := Lib.hid hE; have Hr := Lib.hid hright; clear hE hright
    go_enter Try.func28, Try.ntmps28
    go_wp2_with (go_at_call 34; refine (refRight_walk n a cap es _ (hr.below hbx) hcap).mono ?_; rw [Hr.out]; rintro e w1 ⟨rfl, hb1⟩)
    go_ret
    exact ⟨by rw [HE.out] <;> rfl, bl_trans hbx hb1⟩
  | true =>
    have Hr := Lib.hid hright
    by_cases h0 : v < 0
    · have hE : askE n es v = 2 := by
        have : inR n v = false := by rw [Bool.eq_false_iff]; intro h; have := (inR_iff _ _).1 h; omega
        simp [askE, hright, this]
      have HE := Lib.hid hE; clear hE hright
      have g0 : decide (v < 0) = true := by simpa using h0
      go_enter Try.func28, Try.ntmps28
      go_wp2_with (go_at_call 34; refine (refRight_walk n a cap es _ (hr.below hbx) hcap).mono ?_; rw [Hr.out]; rintro e w1 ⟨rfl, hb1⟩)
      go_ret
      exact ⟨by rw [HE.out] <;> rfl, bl_trans hbx hb1⟩
    · have g0 : decide (v < 0) = false := by simpa using h0
      by_cases h1 : n ≤ v
      · have hE : askE n es v = 2 := by
          have : inR n v = false := by rw [Bool.eq_false_iff]; intro h; have := (inR_iff _ _).1 h; omega
          simp [askE, hright, this]
        have HE := Lib.hid hE; clear hE hright
        have g1 : decide (n ≤ v) = true := by simpa using h1
        go_enter Try.func28, Try.ntmps28
        go_wp2_with (go_at_call 34; refine (refRight_walk n a cap es _ (hr.below hbx) hcap).mono ?_; rw [Hr.out]; rintro e w1 ⟨rfl, hb1⟩; obtain ⟨q0⟩ : PLift (w1.cell? ⟨w.heap.size, 0, none⟩ = some (.int .i64 n)) := ⟨keep_cell hb1 (by simp)⟩)
        go_ret
        exact ⟨by rw [HE.out] <;> rfl, bl_trans hbx hb1⟩
      · have g1 : decide (n ≤ v) = false := by simpa using h1
        have hE : askE n es v = 0 := by
          have : inR n v = true := (inR_iff _ _).2 ⟨by omega, by omega⟩
          simp [askE, hright, this]
        have HE := Lib.hid hE; clear hE hright
        go_enter Try.func28, Try.ntmps28
        go_wp2_with (go_at_call 34; refine (refRight_walk n a cap es _ (hr.below hbx) hcap).mono ?_; rw [Hr.out]; rintro e w1 ⟨rfl, hb1⟩; obtain ⟨q0⟩ : PLift (w1.cell? ⟨w.heap.size, 0, none⟩ = some (.int .i64 n)) := ⟨keep_cell hb1 (by simp)⟩)
        go_ret
        exact ⟨by rw [HE.out] <;> rfl, bl_trans hbx hb1⟩

/-- next: the least one beside v that is not in a list; -1: there is none -/
def nextF (n : Nat) (es : List (Int × Int)) (v : Int) (met : List Int) : Option Nat := (List.range n).find? fun u => hasB n es v u && !met.contains (u : Int)
def nextI (n : Nat) (es : List (Int × Int)) (v : Int) (met : List Int) : Int := match nextF n es v met with | some u => u | none => -1
theorem next_at {n : Nat} {es : List (Int × Int)} {v : Int} {met : List Int} {k : Nat} (hk : k < n) (hno : ∀ j, j < k → (hasB n es v j && !met.contains (j : Int)) = false) (hy : (hasB n es v k && !met.contains (k : Int)) = true) : nextI n es v met = k := by
  have : nextF n es v met = some k := by
    unfold nextF
    rw [List.find?_eq_some_iff_getElem]
    exact ⟨hy, k, by simpa using hk, by simp, fun j hj => by have := hno j hj; simp only [List.getElem_range]; rw [this]; rfl⟩
  simp [nextI, this]
theorem next_none {n : Nat} {es : List (Int × Int)} {v : Int} {met : List Int} (hno : ∀ j, j < n → (hasB n es v j && !met.contains (j : Int)) = false) : nextI n es v met = -1 := by
  have : nextF n es v met = none := by
    unfold nextF
    rw [List.find?_eq_none]
    intro j hj
    rw [List.mem_range] at hj
    simp only [hno j hj]; simp
  simp [nextI, this]

set_option maxHeartbeats 4000000 in
theorem next_walk (n : Nat) (a : Option Addr) (cap : Nat) (es : List (Int × Int)) (v : Int) (am : Option Addr) (cm : Nat) (met : List Int) (w : World) (hr : RdP w a es) (hm : RdI w am met) (hcap : es.length ≤ 9223372036854775807) (hn : n ≤ 200) (hml : met.length ≤ 1000) :
    Calls Try.prog 29 #[.agg #[.int .i64 n, .slice a es.length cap], .int .i64 v, .slice am met.length cm] w (RetI w (nextI n es v met)) := by
  have hbx : Below w.heap.size w (w.alloc (.cells #[.int .i64 n, .slice a es.length cap] 24)) := bl_alloc _ _
  go_enter Try.func29, Try.ntmps29
  go_wp2_with fail
  obtain ⟨W1, hW1⟩ : ∃ W1, W1 = w.alloc (.cells #[.int .i64 n, .slice a es.length cap] 24) := ⟨_, rfl⟩
  rw [← hW1] at hbx ⊢
  have C0 : W1.cell? ⟨w.heap.size, 0, none⟩ = some (.int .i64 n) := by rw [hW1]; simp
  have C1 : W1.cell? ⟨w.heap.size, 1, none⟩ = some (.slice a es.length cap) := by rw [hW1]; simp
  clear hW1
  go_loopg [7] n (fun r i wr => ∃ (k : Nat), i = .int .i64 k ∧ k + r = n ∧ (∀ j : Nat, j < k → (hasB n es v j && !met.contains (j : Int)) = false) ∧ Below W1.heap.size W1 wr)
  case atStart => exact ⟨0, rfl, by omega, fun j h => by omega, bl_refl _⟩
  case round =>
    obtain ⟨k, rfl, hkr, hno, hb⟩ := hrel
    have c0 := keep_cell hb C0; have c1 := keep_cell hb C1
    have szw := World.block_lt_of_cell? _ _ c0
    by_cases hlt : k < n
    · have hrr := hr.below (bl_trans hbx hb)
      have hmm := hm.below (bl_trans hbx hb)
      clear C0 C1
      cases hh : hasB n es v k with
      | false =>
        have e1 : (false && !met.contains (k : Int)) = false := rfl
        have hno2 : ∀ j, j < k + 1 → (hasB n es v j && !met.contains (j : Int)) = false := by
          intro j hj
          by_cases hjk : j < k
          · exact hno j hjk
          · obtain rfl : j = k := by omega
            (rw [hh]; exact e1)
        have Hno := Lib.hid hno2; have Hkr := Lib.hid hkr
        clear hno hno2 hkr
        have Hh := Lib.hid hh; clear hh e1
        go_wp2_with (go_at_call 31; refine (refHas_walk n a cap es v k _ hrr hcap).mono ?_; rw [Hh.out]; rintro e w1 ⟨rfl, hb1⟩)
        go_roundg (gk - 1)
        case measure => have := Hkr.out; omega
        case rel => exact ⟨k + 1, by go_num, by have := Hkr.out; omega, Hno.out, bl_trans hb hb1⟩
      | true =>
        cases hc : met.contains (k : Int) with
        | true =>
          have hno2 : ∀ j, j < k + 1 → (hasB n es v j && !met.contains (j : Int)) = false := by
            intro j hj
            by_cases hjk : j < k
            · exact hno j hjk
            · obtain rfl : j = k := by omega
              rw [hh,hc] <;> rfl
          have Hno := Lib.hid hno2; have Hkr := Lib.hid hkr
          clear hno hno2 hkr
          have Hh := Lib.hid hh; have Hc := Lib.hid hc; clear hh hc
          go_wp2_with (first
            | (go_at_call 31; refine (refHas_walk n a cap es v k _ hrr hcap).mono ?_; rw [Hh.out]; rintro e w1 ⟨rfl, hb1⟩; have hm1 := hmm.below hb1)
            | (go_at_call 35; refine (refHas0_walk am cm met k _ hm1 (by omega)).mono ?_; rw [Hc.out]; rintro e w2 ⟨rfl, rfl⟩))
          go_roundg (gk - 1)
          case measure => have := Hkr.out; omega
          case rel => exact ⟨k + 1, by go_num, by have := Hkr.out; omega, Hno.out, bl_trans hb hb1⟩
        | false =>
          have hres := next_at hlt hno (by rw [hh, hc]; rfl)
          have Hres := Lib.hid hres; have Hh := Lib.hid hh; have Hc := Lib.hid hc; clear hh hc hres hno hkr
          go_wp2_with (first
            | (go_at_call 31; refine (refHas_walk n a cap es v k _ hrr hcap).mono ?_; rw [Hh.out]; rintro e w1 ⟨rfl, hb1⟩; have hm1 := hmm.below hb1)
            | (go_at_call 35; refine (refHas0_walk am cm met k _ hm1 (by omega)).mono ?_; rw [Hc.out]; rintro e w2 ⟨rfl, rfl⟩))
          go_ret
          exact ⟨by rw [Hres.out] <;> rfl, bl_trans hbx (bl_trans hb hb1)⟩
    · have hres := next_none (n := n) (es := es) (v := v) (met := met) (fun j hj => hno j (by omega))
      have Hres := Lib.hid hres; clear hres hno
      go_wp2_with fail
      go_ret
      exact ⟨by rw [Hres.out] <;> rfl, bl_trans hbx hb⟩
end Go.Proofs.Ytddndhhhmlcgjaa
