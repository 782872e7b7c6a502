/- Slices of links as they read; links.compare; links.Right. -/
import Derived.Test.YtagcbnpahgfgmaaChecked
import Derived.Test.YtagcbnpahgfgmaaLib
import Derived.Test.YtagcbnpahgfgmaaMem
import Derived.Test.YtagcbnpahgfgmaaLkP
import Derived.BigQuiet
import Derived.Deep.QuietTactic
import Derived.Deep.RegionHeld3
import Derived.Deep.DeepCutAuto
import Derived.Deep.LoopGhost
import Derived.Sort.Grow
namespace Go.Proofs.Ytagcbnpahgfgmaa
open Go Go.RowKit Go.Sort

def lkCells (ls : List Lk) : List Value := ls.flatMap fun k => [.int .i64 k.1, .int .i64 k.2.1, .int .i64 k.2.2]
def lkV (k : Lk) : Value := .agg #[.int .i64 k.1, .int .i64 k.2.1, .int .i64 k.2.2]
/-- a slice of links, wherever it lies -/
def RdL (w : World) (a : Option Addr) (ls : List Lk) : Prop := CellsAt w a (lkCells ls)
theorem lkCells_length (ls : List Lk) : (lkCells ls).length = ls.length * 3 := by
  induction ls with
  | nil => rfl
  | cons e ls ih => simp only [lkCells, List.flatMap_cons, List.length_append, List.length_cons, List.length_nil] at ih ⊢; omega
theorem lkCells_append (a b : List Lk) : lkCells (a ++ b) = lkCells a ++ lkCells b := by simp [lkCells]
theorem lkCells_get (ls : List Lk) (i : Nat) (h : i < ls.length) :
    (lkCells ls)[i * 3]? = some (.int .i64 ls[i].1) ∧ (lkCells ls)[i * 3 + 1]? = some (.int .i64 ls[i].2.1) ∧ (lkCells ls)[i * 3 + 2]? = some (.int .i64 ls[i].2.2) := by
  induction ls generalizing i with
  | nil => simp at h
  | cons e ls ih =>
    cases i with
    | zero => simp [lkCells]
    | succ i =>
      have := ih i (by simpa using h)
      have e1 : (i + 1) * 3 = i * 3 + 1 + 1 + 1 := by omega
      simp only [lkCells, List.flatMap_cons, List.cons_append, List.nil_append, List.getElem_cons_succ] at this ⊢
      rw [e1]
      simpa using this
theorem RdL.at {w : World} {a : Option Addr} {ls : List Lk} (h : RdL w a ls) (i : Nat) (hi : i < ls.length) :
    ∃ b o, a = some ⟨b, o, none⟩ ∧ w.cell? ⟨b, o + i * 3, none⟩ = some (.int .i64 ls[i].1) ∧ w.cell? ⟨b, o + i * 3 + 1, none⟩ = some (.int .i64 ls[i].2.1) ∧ w.cell? ⟨b, o + i * 3 + 2, none⟩ = some (.int .i64 ls[i].2.2) := by
  obtain ⟨h1, h2, h3⟩ := lkCells_get ls i hi
  obtain ⟨b, o, ha, hc⟩ := h _ _ h1
  obtain ⟨b', o', ha', hc'⟩ := h _ _ h2
  obtain ⟨b'', o'', ha'', hc''⟩ := h _ _ h3
  rw [ha] at ha' ha''
  simp only [Option.some.injEq, Addr.mk.injEq, and_true] at ha' ha''
  obtain ⟨rfl, rfl⟩ := ha'
  obtain ⟨rfl, rfl⟩ := ha''
  exact ⟨b, o, ha, hc, by simpa [Nat.add_assoc] using hc', by simpa [Nat.add_assoc] using hc''⟩
theorem RdL.below {w w' : World} {a : Option Addr} {ls : List Lk} (h : RdL w a ls) (hb : Below w.heap.size w w') : RdL w' a ls := CellsAt.below h hb
theorem rdL_nil (w : World) (a : Option Addr) : RdL w a [] := by intro i u hu; simp [lkCells] at hu

theorem below_grow (w : World) (q : Nat) (os : Array Obj) : Below w.heap.size w (grow (w.drewN q) os) := by
  refine Below.trans (below_drewN (Below.refl _ _) q) ?_
  refine ⟨rfl, rfl, rfl, by simp [grow], fun k hk => ?_⟩
  exact heap_grow_old _ _ (by simpa using hk)

theorem compare_any (a b : Int) (w : World) :
    Calls Try.prog 36 #[.int .i64 a, .int .i64 b] w fun e w' => e = .returned (.int .i64 (cmpI a b)) ∧ w = w' := by
  go_enter Try.func36, Try.ntmps36
  go_wp2
  · have h : a < b := by assumption
    go_ret
    exact ⟨by simp [cmpI, h], rfl⟩
  · have h : b < a := by assumption
    go_ret
    exact ⟨by simp [cmpI, h, show ¬ a < b by omega], rfl⟩
  · have h : a ≤ b := by assumption
    have h : b ≤ a := by assumption
    go_ret
    exact ⟨by simp [cmpI, show ¬ a < b by omega, show ¬ b < a by omega], rfl⟩

theorem lcompare_grow (x y : Lk) (w : World) :
    Calls Try.prog 20 #[lkV x, lkV y] w
      fun e w' => e = .returned (.int .i64 (cmpL x y)) ∧ ∃ q os, w' = grow (w.drewN q) os := by
  obtain ⟨a1, a2, a3⟩ := x
  obtain ⟨b1, b2, b3⟩ := y
  unfold lkV
  dsimp only
  have e1 : cmpL (a1, a2, a3) (b1, b2, b3) = orI (cmpI a1 b1) (orI (cmpI a2 b2) (cmpI a3 b3)) := rfl
  rw [e1]; clear e1
  have c1 := fun w => compare_any a1 b1 w
  have c2 := fun w => compare_any a2 b2 w
  have c3 := fun w => compare_any a3 b3 w
  generalize cmpI a1 b1 = u1 at c1 ⊢
  generalize cmpI a2 b2 = u2 at c2 ⊢
  generalize cmpI a3 b3 = u3 at c3 ⊢
  by_cases h1 : u1 = 0
  · subst h1
    by_cases h2 : u2 = 0
    · subst h2
      go_enter Try.func20, Try.ntmps20
      go_wp2_with fail
      refine (c1 _).mono ?_; rintro e w' ⟨rfl, rfl⟩
      go_wp2_with fail
      refine (c2 _).mono ?_; rintro e w' ⟨rfl, rfl⟩
      go_wp2_with fail
      refine (c3 _).mono ?_; rintro e w' ⟨rfl, rfl⟩
      go_wp2_with fail
      go_ret
      exact ⟨rfl, 0, _, by rw [alloc_eq_grow, alloc_eq_grow, grow_grow]; rfl⟩
    · have g2 : (u2 != 0) = true := by simpa using h2
      go_enter Try.func20, Try.ntmps20
      go_wp2_with fail
      refine (c1 _).mono ?_; rintro e w' ⟨rfl, rfl⟩
      go_wp2_with fail
      refine (c2 _).mono ?_; rintro e w' ⟨rfl, rfl⟩
      go_wp2_with fail
      go_ret
      exact ⟨by simp [orI, h2], 0, _, by rw [alloc_eq_grow, alloc_eq_grow, grow_grow]; rfl⟩
  · have g1 : (u1 != 0) = true := by simpa using h1
    go_enter Try.func20, Try.ntmps20
    go_wp2_with fail
    refine (c1 _).mono ?_; rintro e w' ⟨rfl, rfl⟩
    go_wp2_with fail
    go_ret
    exact ⟨by simp [orI, h1], 0, _, by rw [alloc_eq_grow, alloc_eq_grow, grow_grow]; rfl⟩
theorem lcompare_any (a1 a2 a3 b1 b2 b3 : Int) (w : World) :
    Calls Try.prog 20 #[.agg #[.int .i64 a1, .int .i64 a2, .int .i64 a3], .agg #[.int .i64 b1, .int .i64 b2, .int .i64 b3]] w
      fun e w' => e = .returned (.int .i64 (cmpL (a1, a2, a3) (b1, b2, b3))) ∧ Below w.heap.size w w' :=
  (lcompare_grow (a1, a2, a3) (b1, b2, b3) w).mono fun _ _ ⟨he, q, os, hw⟩ => ⟨he, by rw [hw]; exact below_grow _ _ _⟩

set_option maxHeartbeats 1000000 in
theorem lright_walk (a : Option Addr) (cap : Nat) (ls : List Lk) (w : World) (hr : RdL w a ls) (hcap : ls.length ≤ 9223372036854775807) :
    Calls Try.prog 11 #[.slice a ls.length cap] w
      fun e w' => e = .returned (.bool (rightL ls)) ∧ Below w.heap.size w w' := by
  by_cases hg : ls.length ≤ 1000
  · go_enter Try.func11, Try.ntmps11
    go_wp2_with fail
    go_loopg [10] ls.length (fun r i wr => ∃ k : Nat, k + r = ls.length ∧ i = .int .i64 k ∧ Below w.heap.size w wr ∧
      (∀ j (h : j < ls.length), j < k → OkL ls[j]) ∧ (∀ j (h : j + 1 < ls.length), j + 1 < k → LtL ls[j] ls[j+1]))
    case atStart => exact ⟨0, by omega, rfl, Below.refl _ _, fun j _ h => absurd h (by omega), fun j _ h => absurd h (by omega)⟩
    case round =>
      obtain ⟨k, hk, rfl, hB, hok, hris⟩ := hrel
      by_cases hlt : k < ls.length
      · obtain ⟨b, o, rfl, c0, c1, c2⟩ := (hr.below hB).at k hlt
        obtain ⟨⟨x, y, z⟩, hx⟩ : ∃ x : Lk, ls[k] = x := ⟨_, rfl⟩
        rw [hx] at c0 c1 c2
        simp only at c0 c1 c2
        by_cases he : OkL (x, y, z)
        · obtain ⟨e0, e1, e2, e3, e4⟩ := he
          simp only at e0 e1 e2 e3 e4
          have hend : ∀ j (h : j < ls.length), j < k + 1 → OkL ls[j] := by
            intro j h hj
            by_cases hjk : j < k
            · exact hok j h hjk
            · obtain rfl : j = k := by omega
              rw [hx]; exact ⟨e0, e1, e2, e3, e4⟩
          by_cases hk0 : k = 0
          · subst hk0
            simp only [Nat.zero_mul, Nat.add_zero] at c0 c1 c2
            have Hx := Lib.hid hx; clear hx
            have Hend := Lib.hid hend; have Hok := Lib.hid hok; have Hris := Lib.hid hris
            clear hend hok hris
            go_wp2_with fail
            go_quiet (fail)
            go_wp2
            go_roundg (gk - 1)
            case measure => omega
            case rel => exact ⟨0 + 1, by omega, rfl, below_drewN (hB.alloc (by have := hB.size; omega) _) _, Hend.out, fun j _ h => absurd h (by omega)⟩
          · obtain ⟨m, rfl⟩ : ∃ m, k = m + 1 := ⟨k - 1, by omega⟩
            obtain ⟨b', o', hbo, p0, p1, p2⟩ := (hr.below hB).at m (by omega)
            simp only [Option.some.injEq, Addr.mk.injEq, and_true] at hbo
            obtain ⟨rfl, rfl⟩ := hbo
            obtain ⟨⟨p, q, s⟩, hp⟩ : ∃ x : Lk, ls[m]'(by omega) = x := ⟨_, rfl⟩
            rw [hp] at p0 p1 p2
            simp only at p0 p1 p2
            have hmr : m + 1 < ls.length := hlt
            have Hx := Lib.hid hx; have Hp := Lib.hid hp; clear hx hp
            have Hend := Lib.hid hend; have Hok := Lib.hid hok; have Hris := Lib.hid hris
            clear hend hok hris
            go_wp2_with fail
            have i1 : IntKind.i64.wrap ((m : Int) + 1 - 1) = (m : Int) := by rw [show ((m : Int) + 1 - 1) = m by omega]; exact IntWalk.i64_in _ (by omega)
            have i2 : IntKind.i64.wrap (m : Int) = (m : Int) := IntWalk.i64_in _ (by omega)
            have i3 : (0 : Int) ≤ (m : Int) := by omega
            have i4 : (m : Int) < (ls.length : Int) := by omega
            have i5 : m < ls.length := by omega
            go_region_held3 (fun w' => w'.cell? ⟨b, o + m * 3, none⟩ = some (.int .i64 p) ∧ w'.cell? ⟨b, o + m * 3 + 1, none⟩ = some (.int .i64 q) ∧ w'.cell? ⟨b, o + m * 3 + 2, none⟩ = some (.int .i64 s) ∧
              w'.cell? ⟨wr.heap.size, 0, none⟩ = some (.int .i64 x) ∧ w'.cell? ⟨wr.heap.size, 1, none⟩ = some (.int .i64 y) ∧ w'.cell? ⟨wr.heap.size, 2, none⟩ = some (.int .i64 z)) (first | (refine ⟨?_, ?_, ?_, ?_, ?_, ?_⟩ <;> (refine keep_cell (by assumption) ?_; simp [*]; done)) | go_keep)
              (first | (go_at_call 20; refine (lcompare_any _ _ _ _ _ _ _).mono ?_; rintro e w' ⟨rfl, hbw⟩))
            go_wp2
            · have hge : 0 ≤ cmpL (p, q, s) (x, y, z) := by assumption
              go_ret
              refine ⟨?_, bl_trans ((hB.alloc (by have := hB.size; omega) _).drew) hbw⟩
              rw [rightL_false]; rfl
              intro h
              have h1 := ((rightL_at _).1 ((rightL_iff _).2 h)).2.2 m hmr
              rw [Hx.out, Hp.out, ← cmpL_neg] at h1
              omega
            · have hge : cmpL (p, q, s) (x, y, z) < 0 := by assumption
              go_roundg (gk - 1)
              case measure => omega
              case rel =>
                refine ⟨m + 1 + 1, by omega, by go_num, bl_trans ((hB.alloc (by have := hB.size; omega) _).drew) hbw, Hend.out, ?_⟩
                intro j h hj
                by_cases hjm : j + 1 < m + 1
                · exact Hris.out j h hjm
                · obtain rfl : j = m := by omega
                  rw [Hx.out, Hp.out, ← cmpL_neg]; exact hge
        · have hno : rightL ls = false := rightL_false fun h => he (by rw [← hx]; exact h.2.1 _ (List.getElem_mem hlt))
          have Hx := Lib.hid hx; clear hx
          have Hno := Lib.hid hno; clear hno hok hris
          unfold OkL at he
          simp only at he
          go_wp2_with fail
          all_goals
            go_ret
            exact ⟨by rw [Hno.out]; rfl, hB.alloc (by have := hB.size; omega) _⟩
      · have hkl : k = ls.length := by omega
        have hyes : rightL ls = true := by
          rw [rightL_at]
          exact ⟨hg, fun j h => hok j h (by omega), fun j h => hris j h (by omega)⟩
        have Hyes := Lib.hid hyes
        clear hyes hok hris hkl
        go_wp2_with fail
        go_ret
        exact ⟨by rw [Hyes.out]; rfl, hB⟩
  · have hno : rightL ls = false := rightL_false fun h => hg h.1
    rw [hno]
    go_enter Try.func11, Try.ntmps11
    go_wp2_with fail
    all_goals
      go_ret
      exact ⟨rfl, bl_refl _⟩
end Go.Proofs.Ytagcbnpahgfgmaa
