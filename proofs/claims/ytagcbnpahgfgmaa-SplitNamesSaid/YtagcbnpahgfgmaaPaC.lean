/- pair.Classes and Parts; the document's may, Classes, Parts. -/
import Derived.Test.YtagcbnpahgfgmaaPaQ
import Derived.Test.YtagcbnpahgfgmaaTwo
namespace Go.Proofs.Ytagcbnpahgfgmaa
open Go Go.RowKit

/-- What 'Classes' hands back. -/
def RetC (w : World) (r : List (List Lk) × Int) (e : Ending) (w' : World) : Prop :=
  ∃ vo vals, e = .returned (.tuple #[vo, .int .i64 r.2]) ∧ LRows w' w.heap.size vo vals r.1 ∧ Below w.heap.size w w'
/-- What 'Parts' hands back. -/
def RetP (w : World) (r : Bool × Int) (e : Ending) (w' : World) : Prop :=
  e = .returned (.tuple #[.bool r.1, .int .i64 r.2]) ∧ Below w.heap.size w w'
/-- What 'First' hands back. -/
def RetF (w : World) (r : Int × Int × Bool × Int) (e : Ending) (w' : World) : Prop :=
  e = .returned (.tuple #[.int .i64 r.1, .int .i64 r.2.1, .bool r.2.2.1, .int .i64 r.2.2.2]) ∧ Below w.heap.size w w'
theorem getD_at {l : List Int} {j : Nat} (h : j < l.length) : l.getD j 0 = l[j] := by simp [List.getD, h]

theorem two_cells (w : World) (x y : Value) (t : TypeId) {g : Nat} (hg : g = w.heap.size) : (w.alloc (.cells #[x, y] t)).cell? ⟨g, 0, none⟩ = some x ∧ (w.alloc (.cells #[x, y] t)).cell? ⟨g, 1, none⟩ = some y := by
  subst hg; simp
set_option maxRecDepth 100000 in
set_option maxHeartbeats 4000000 in
theorem classes_walk (a : Option Addr) (cap : Nat) (ls : List Lk) (p q : Int) (w : World) (hr : RdL w a ls) (hcap : ls.length ≤ 9223372036854775807) (hp : WfZ p) (hq : WfZ q) :
    Calls Try.prog 31 #[.slice a ls.length cap, .int .i64 p, .int .i64 q] w (RetC w (classesL ls p q)) := by
  cases h2 : twoL ls with
  | false =>
    have hc : classesL ls p q = ([], 130) := by unfold classesL mayB; rw [h2]; simp
    have H2 := Lib.hid h2; have Hc := Lib.hid hc; clear h2 hc hp hq
    go_enter Try.func31, Try.ntmps31
    go_wp2_with fail
    refine (two_walk a cap ls _ hr hcap).mono ?_
    rw [H2.out]
    rintro e w1 ⟨rfl, hb1⟩
    go_wp2_with fail
    go_ret2
    rw [Hc.out]
    exact ⟨_, [], rfl, LRows.start _ _, hb1⟩
  | true =>
    by_cases hpq : p = q
    · have hc : classesL ls p q = ([], 130) := by unfold classesL mayB; rw [hpq]; simp
      have e1 : (p == q) = true := by simpa using hpq
      have H2 := Lib.hid h2; have Hc := Lib.hid hc; clear h2 hc hp hq hpq
      go_enter Try.func31, Try.ntmps31
      go_wp2_with fail
      refine (two_walk a cap ls _ hr hcap).mono ?_
      rw [H2.out]
      rintro e w1 ⟨rfl, hb1⟩
      go_wp2_with fail
      go_ret2
      rw [Hc.out]
      exact ⟨_, [], rfl, LRows.start _ _, hb1⟩
    · have e1 : (p == q) = false := by simpa using hpq
      obtain ⟨vs, hvs⟩ : ∃ vs, vs = vertsL ls := ⟨_, rfl⟩
      have hvl : vs.length ≤ 2000 := by rw [hvs]; have := vertsL_length ls; have := (two_right h2).1; omega
      have hv0 : 0 < vs.length := by rw [hvs]; have := two_verts h2; omega
      have hn := (two_right h2).1
      have hso : vs.Pairwise (· ≤ ·) := by rw [hvs]; exact (vertsL_sorted ls).imp fun h => by omega
      have hcl : classesL ls p q = if vs.contains p && vs.contains q then (groupsL ls [p, q], 0) else ([], 130) := by unfold classesL mayB; rw [h2, e1, ← hvs]; simp
      have Hvs := Lib.hid hvs; have Hso := Lib.hid hso; have Hcl := Lib.hid hcl; have H2 := Lib.hid h2; have Hp := Lib.hid hp; have Hq := Lib.hid hq
      clear hvs hso hcl h2 hp hq hpq
      have i0 : ∀ w, (Instr.index 70 (.agg #[.int .i64 p, .int .i64 q]) (.int .i64 ((0 : Nat) : Int))).run Try.prog w = .ok (.int .i64 p) w := fun _ => by kernel_rfl
      have j0 : ∀ w, (Instr.index 70 (.agg #[.int .i64 p, .int .i64 q]) (.int .i64 0)).run Try.prog w = .ok (.int .i64 p) w := fun _ => by kernel_rfl
      have j1 : ∀ w, (Instr.index 70 (.agg #[.int .i64 p, .int .i64 q]) (.int .i64 1)).run Try.prog w = .ok (.int .i64 q) w := fun _ => by kernel_rfl
      have i1 : ∀ w, (Instr.index 70 (.agg #[.int .i64 p, .int .i64 q]) (.int .i64 ((1 : Nat) : Int))).run Try.prog w = .ok (.int .i64 q) w := fun _ => by kernel_rfl
      go_enter Try.func31, Try.ntmps31
      go_wp2_with fail
      refine (two_walk a cap ls _ hr hcap).mono ?_
      rw [H2.out]
      rintro e w1 ⟨rfl, hb1⟩
      go_wp2_with fail
      refine (verts_walk a cap ls _ (hr.below hb1) (by omega)).mono ?_
      rw [← Hvs.out]
      rintro e w2 ⟨av, cv, rfl, hrv, _, hvc, hvm, hb2⟩
      obtain ⟨b0, o0, rfl, _⟩ := hrv.at 0 hv0
      have hB2 := bl_trans hb1 hb2
      have hr2 := hr.below hB2
      clear hb1 hb2 hr
      go_wp2_with fail
      go_loopg [26] 2 (fun r iv wj => ∃ k : Nat, k + r = 2 ∧ iv = .int .i64 k ∧ (1 ≤ k → vs.contains p = true) ∧ (2 ≤ k → vs.contains q = true) ∧ ∃ d, wj = w2.drewN d)
      case atStart => exact ⟨0, rfl, rfl, fun h => absurd h (by omega), fun h => absurd h (by omega), 0, rfl⟩
      case round =>
        obtain ⟨k, hk, rfl, h1, h2, d, rfl⟩ := hrel
        have Hk := Lib.hid hk; have H1 := Lib.hid h1; have H2' := Lib.hid h2
        clear h1 h2
        rcases (show k = 0 ∨ k = 1 ∨ k = 2 by omega) with rfl | rfl | rfl
        · clear hk
          -- is V one of them?
          go_wp2_with fail
          refine (Try.slices_BinarySearch_int b0 o0 vs.length cv vs p _ (Nat.le_refl _) (by omega) ?_ ?_).mono ?_
          · intro j hj
            obtain ⟨b', o', e', c'⟩ := hrv.at j hj
            cases e'
            rw [getD_at hj]
            exact c'
          · rw [List.take_length]; exact Hso.out
          rintro e w' ⟨rfl, d', rfl⟩
          rw [List.take_length]
          cases hc : vs.contains p with
          | false =>
            have hcl : classesL ls p q = ([], 130) := by rw [Hcl.out, hc]; simp
            have Hcl2 := Lib.hid hcl
            clear hcl hc
            go_wp2_with fail
            go_ret2
            rw [Hcl2.out]
            exact ⟨_, [], rfl, LRows.start _ _, below_drewN hB2 _⟩
          | true =>
            have Hc := Lib.hid hc
            clear hc
            go_wp2_with fail
            go_roundg (gk - 1)
            case measure => have := Hk.out; omega
            case rel => exact ⟨1, by have := Hk.out; omega, by go_num, fun _ => Hc.out, fun h => absurd h (by omega), _, rfl⟩
        · clear hk
          -- is V one of them?
          go_wp2_with fail
          refine (Try.slices_BinarySearch_int b0 o0 vs.length cv vs q _ (Nat.le_refl _) (by omega) ?_ ?_).mono ?_
          · intro j hj
            obtain ⟨b', o', e', c'⟩ := hrv.at j hj
            cases e'
            rw [getD_at hj]
            exact c'
          · rw [List.take_length]; exact Hso.out
          rintro e w' ⟨rfl, d', rfl⟩
          rw [List.take_length]
          cases hc : vs.contains q with
          | false =>
            have hcl : classesL ls p q = ([], 130) := by rw [Hcl.out, hc]; simp
            have Hcl2 := Lib.hid hcl
            clear hcl hc
            go_wp2_with fail
            go_ret2
            rw [Hcl2.out]
            exact ⟨_, [], rfl, LRows.start _ _, below_drewN hB2 _⟩
          | true =>
            have Hc := Lib.hid hc
            clear hc
            go_wp2_with fail
            go_roundg (gk - 1)
            case measure => have := Hk.out; omega
            case rel => exact ⟨2, by have := Hk.out; omega, by go_num, fun _ => H1.out (by omega), fun _ => Hc.out, _, rfl⟩
        · clear hk
          have hcl2 : classesL ls p q = (groupsL ls [p, q], 0) := by rw [Hcl.out, H1.out (by omega), H2'.out (by omega)]; rfl
          have Hcl2 := Lib.hid hcl2; clear hcl2 i0 i1 j0 j1
          have hbA := bl_trans (below_drewN (bl_refl w2) d) (bl_alloc (w2.drewN d) (.cells #[.int .i64 p, .int .i64 q] 3))
          have hpq2 : RdI ((w2.drewN d).alloc (.cells #[.int .i64 p, .int .i64 q] 3)) (some ⟨w2.heap.size, 0, none⟩) [p, q] := by
            intro j v hj
            refine ⟨w2.heap.size, 0, rfl, ?_⟩
            have hsz : (w2.drewN d).heap.size = w2.heap.size := by simp
            match j with
            | 0 => simp at hj; subst hj; exact (two_cells _ _ _ _ hsz.symm).1
            | 1 => simp at hj; subst hj; exact (two_cells _ _ _ _ hsz.symm).2
            | j + 2 => simp at hj
          have hr3 := hr2.below hbA
          have hwo : ∀ z ∈ [p, q], WfZ z := fun z hz => by
            simp at hz
            rcases hz with rfl | rfl
            · exact Hp.out
            · exact Hq.out
          have Hwo := Lib.hid hwo; clear hwo
          have hB3 := bl_trans hB2 hbA
          go_wp2_with fail
          refine (groups_walk a cap ls _ _ [p, q] _ hr3 hcap hpq2 (by simp) Hwo.out).mono ?_
          rintro e w3 ⟨vo, vals, rfl, hL, hb3⟩
          have hB4 := bl_trans hB3 hb3
          have hszB := hB3.size
          go_wp2_with fail
          go_ret2
          rw [Hcl2.out]
          exact ⟨vo, vals, rfl, { hL with lo := fun g hg => by have := hL.lo g hg; omega, rlo := fun i u g hu hg => by have h1 := hL.rlo i u g hu hg; exact ⟨by omega, h1.2⟩ }, hB4⟩
end Go.Proofs.Ytagcbnpahgfgmaa
