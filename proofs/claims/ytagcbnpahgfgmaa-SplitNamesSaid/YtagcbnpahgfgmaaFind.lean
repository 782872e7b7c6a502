/- The closure of links.Groups that goes up to the head. -/
import Derived.Test.YtagcbnpahgfgmaaMapZ
import Derived.Test.YtagcbnpahgfgmaaVn
import Derived.Deep.LoopGhost
namespace Go.Proofs.Ytagcbnpahgfgmaa
open Go Go.RowKit

/-- what the heads say: 'root x' is where one comes to from x -/
structure Heads (F : Int → Option Int) (root : Int → Int) : Prop where
  none_ : ∀ x, F x = none → root x = x
  some_ : ∀ x h, F x = some h → 0 ≤ h ∧ h ≤ x ∧ root h = root x ∧ (h = x → root x = x)
  le : ∀ x, root x ≤ x
  nn : ∀ x, 0 ≤ x → 0 ≤ root x
  idem : ∀ x, root (root x) = root x
theorem Heads.start : Heads (fun _ => none) (fun x => x) := ⟨fun _ _ => rfl, (fun x h e => by cases e), fun _ => Int.le_refl _, fun _ h => h, fun _ => rfl⟩

def unite (root : Int → Int) (a b : Int) : Int → Int := fun x => if root x = a ∨ root x = b then min a b else root x
/-- three entries are laid -/
theorem Heads.step {F : Int → Option Int} {root : Int → Int} (h : Heads F root) {x y : Int} (hx : 0 ≤ x) (hy : 0 ≤ y) :
    Heads (updF (updF (updF F (max (root x) (root y)) (min (root x) (root y))) y (min (root x) (root y))) x (min (root x) (root y))) (unite root (root x) (root y)) := by
  have lx := h.le x; have ly := h.le y; have nx := h.nn x hx; have ny := h.nn y hy
  have ix := h.idem x; have iy := h.idem y
  obtain ⟨m, hm⟩ : ∃ m, m = min (root x) (root y) := ⟨_, rfl⟩
  obtain ⟨M, hM⟩ : ∃ M, M = max (root x) (root y) := ⟨_, rfl⟩
  have hmM : (m = root x ∧ M = root y) ∨ (m = root y ∧ M = root x) := by omega
  rw [← hm, ← hM]
  have um : unite root (root x) (root y) m = m := by
    unfold unite
    rw [← hm]
    rw [if_pos]
    rcases hmM with ⟨h1, h2⟩ | ⟨h1, h2⟩
    · left; rw [h1, ix]
    · right; rw [h1, iy]
  have hin : ∀ z, root z = root x ∨ root z = root y → unite root (root x) (root y) z = m := fun z hz => by unfold unite; rw [if_pos hz, hm]
  have hout : ∀ z, ¬ (root z = root x ∨ root z = root y) → unite root (root x) (root y) z = root z := fun z hz => by unfold unite; rw [if_neg hz]
  have hMin : root M = root x ∨ root M = root y := by
    rcases hmM with ⟨h1, h2⟩ | ⟨h1, h2⟩
    · right; rw [h2, iy]
    · left; rw [h2, ix]
  have hcase : ∀ z, (z = M ∨ z = x ∨ z = y) → (unite root (root x) (root y) z = m ∧ m ≤ z) := by
    intro z hz
    rcases hz with rfl | rfl | rfl
    · exact ⟨hin _ hMin, by omega⟩
    · exact ⟨hin _ (.inl rfl), by omega⟩
    · exact ⟨hin _ (.inr rfl), by omega⟩
  have hF : ∀ z, ¬ (z = M ∨ z = x ∨ z = y) → updF (updF (updF F M m) y m) x m z = F z := fun z hz => by
    rw [updF_ne _ _ (fun e => hz (.inr (.inl e))), updF_ne _ _ (fun e => hz (.inr (.inr e))), updF_ne _ _ (fun e => hz (.inl e))]
  have hF2 : ∀ z, (z = M ∨ z = x ∨ z = y) → updF (updF (updF F M m) y m) x m z = some m := fun z hz => by
    unfold updF
    by_cases e1 : z = x
    · rw [if_pos e1]
    · rw [if_neg e1]
      by_cases e2 : z = y
      · rw [if_pos e2]
      · rw [if_neg e2, if_pos (hz.resolve_right (fun h => h.elim e1 e2))]
  have hm0 : 0 ≤ m := by omega
  refine ⟨fun z hz => ?_, fun z q hz => ?_, fun z => ?_, fun z hz => ?_, fun z => ?_⟩
  · by_cases hc : z = M ∨ z = x ∨ z = y
    · rw [hF2 z hc] at hz; cases hz
    · rw [hF z hc] at hz
      have hr := h.none_ z hz
      by_cases hi : root z = root x ∨ root z = root y
      · rw [hin z hi]
        rw [hr] at hi
        have : z ≠ M := fun e => hc (.inl e)
        omega
      · rw [hout z hi, hr]
  · by_cases hc : z = M ∨ z = x ∨ z = y
    · rw [hF2 z hc] at hz; cases hz
      obtain ⟨h1, h2⟩ := hcase z hc
      exact ⟨hm0, h2, by rw [um, h1], fun e => by rw [h1, e]⟩
    · rw [hF z hc] at hz
      obtain ⟨h0, h1, h2, h3⟩ := h.some_ z q hz
      refine ⟨h0, h1, ?_, fun e => ?_⟩
      · by_cases hi : root z = root x ∨ root z = root y
        · rw [hin z hi, hin q (by rw [h2]; exact hi)]
        · rw [hout z hi, hout q (by rw [h2]; exact hi), h2]
      · have hr := h3 e
        by_cases hi : root z = root x ∨ root z = root y
        · rw [hin z hi]
          rw [hr] at hi
          have : z ≠ M := fun e => hc (.inl e)
          omega
        · rw [hout z hi, hr]
  · by_cases hi : root z = root x ∨ root z = root y
    · rw [hin z hi]; have := h.le z; omega
    · rw [hout z hi]; exact h.le z
  · by_cases hi : root z = root x ∨ root z = root y
    · rw [hin z hi]; exact hm0
    · rw [hout z hi]; exact h.nn z hz
  · by_cases hi : root z = root x ∨ root z = root y
    · rw [hin z hi, um]
    · rw [hout z hi]
      rw [hout (root z) (by rw [h.idem]; exact hi), h.idem]

theorem find_walk (hb B c : Nat) (F : Int → Option Int) (root : Int → Int) (v : Int) (w : World) (hc : w.cell? ⟨hb, 0, none⟩ = some (.map (some B))) (hm : MZ w B c F) (hh : Heads F root) (h0 : 0 ≤ v) (h1 : v ≤ 1048576) :
    Calls Try.prog 62 #[.int .i64 v, .pointer (some ⟨hb, 0, none⟩)] w fun e w' => e = .returned (.int .i64 (root v)) ∧ w = w' := by
  have Hh := Lib.hid hh; clear hh
  have l0 := hm.lookOk (v := v) (wfZ_of (by omega))
  go_enter Try.func62, Try.ntmps62
  go_wp2_with fail
  clear l0
  go_loopg [0, 4, 5] v.toNat (fun r vv hv ok wr => ∃ x : Int, vv = .int .i64 x ∧ hv = .int .i64 ((F x).getD 0) ∧ ok = .bool (F x).isSome ∧ root x = root v ∧ 0 ≤ x ∧ x ≤ v ∧ x.toNat ≤ r ∧ w = wr)
  case atStart => exact ⟨v, rfl, rfl, rfl, rfl, h0, Int.le_refl _, Nat.le_refl _, rfl⟩
  case round =>
    obtain ⟨x, rfl, rfl, rfl, hr, hx0, hx1, hq, rfl⟩ := hrel
    cases hF : F x with
    | none =>
      have e := Hh.out.none_ x hF
      have E := Lib.hid e; have Hr := Lib.hid hr
      clear e hr hF
      go_wp2_with fail
      go_ret
      exact ⟨by rw [← Hr.out, E.out] <;> rfl, rfl⟩
    | some h =>
      obtain ⟨k0, k1, k2, k3⟩ := Hh.out.some_ x h hF
      by_cases e : h = x
      · have e2 := k3 e
        subst e
        have E := Lib.hid e2; have Hr := Lib.hid hr
        clear e2 hr hF k2 k3
        go_wp2_with fail
        go_ret
        exact ⟨by rw [← Hr.out, E.out] <;> rfl, rfl⟩
      · have l1 := hm.lookOk (v := h) (wfZ_of (by omega))
        have g1 : (h != x) = true := by simpa using e
        have Hr := Lib.hid hr; have K2 := Lib.hid k2
        clear hr hF k2 k3
        go_wp2_with fail
        go_roundg (gk - 1)
        case measure => omega
        case rel => exact ⟨h, rfl, rfl, rfl, by rw [K2.out, Hr.out], k0, by omega, by omega, rfl⟩
end Go.Proofs.Ytagcbnpahgfgmaa
