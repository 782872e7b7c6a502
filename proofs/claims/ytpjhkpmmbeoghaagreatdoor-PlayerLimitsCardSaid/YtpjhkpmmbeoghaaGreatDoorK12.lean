/- Part 12 of a verified evaluator, and what it reckons of the player. -/
import Derived.Test.YtpjhkpmmbeoghaaGreatDoorK11
set_option linter.unusedVariables false
set_option linter.unusedSimpArgs false
set_option linter.unusedSectionVars false
set_option linter.unusedVariables false
namespace Go.Proofs.YtpjhkpmmbeoghaaGreatDoor.Ev
open Go Go.Proofs Go.Proofs.YtpjhkpmmbeoghaaGreatDoor
open Go.ChangeShapes Go.WideShapes Go.ChangeAt Go.WideMaps Go.WideElems Go.RowKit
set_option maxRecDepth 100000 in
theorem lifted (os : Os) (started : os.Started) (H : Type) (enc : TypeId × Value → H) :
    ReturnsInHanded {} Tryz.checked os 4 .any (fun w args => (Rows.playerLimitsSpec.pre enc Tryz.prog Tryz.f4 [] false w args ∧ laidMetH Tryz.prog Rows.playerLimitsRow.laid w) ∧ sizedMet enc Tryz.prog Tryz.f4 (OpenSpec.ofChange Rows.playerLimitsSpec) false w args)
      (Rows.playerLimitsSpec.post enc Tryz.prog Tryz.f4 false true false false) := by
  refine returnsInHanded_of_change_and (C := Tryz.checked) (X := fun w _ => laidMetH Tryz.prog Rows.playerLimitsRow.laid w) (fun _ _ _ hh h => h.of_heap hh) own started (by kernel_rfl) Tryz.func4
    (ChangeSpec.witness_shaped (enc := enc) (C := Tryz.checked) (os := os) (X := fun w _ => laidMetH Tryz.prog Rows.playerLimitsRow.laid w) false (wit os) #[.int .u8 0] 8 rfl (World.shaped_of_RefB (by kernel_rfl) (by kernel_rfl)) (by kernel_rfl) (by kernel_rfl) (by kernel_rfl) (wit_met os)) ?_
  intro W base args ds gs before hval0 hW _ _ hL _
  have hval : ∀ (j : Nat) t v, Tryz.f4.params[j]? = some t → args[j]? = some v → Value.okWide Tryz.prog W .any base t v := hval0
  have hW' := hW
  obtain ⟨p, q, hA0, hV, rfl, hfz, hnd⟩ := hW
  have hA : DataW.TrodAll enc Tryz.prog W 0 (fun _ => true) true Tryz.f4.params.toList args.toList ds p := hA0
  rw [Tryz.params4] at hA hval
  obtain ⟨v0, d0, rfl, rfl, h0⟩ := trodAll_one hA
  obtain ⟨rfl, rfl⟩ := trodVars_none hV
  obtain ⟨x0, rfl, rfl, rfl, wn0⟩ := open_int Tryz.underlying5 (hval 0 5 v0 rfl rfl) h0
  have htab := of_laid hL
  have hh0 : 0 < W.heap.size := by
    have h := Lib.TabIs.cell htab powG 0 (by decide)
    rcases Nat.eq_zero_or_pos W.heap.size with h0 | h0
    · have : W.heap[0]? = none := Array.getElem?_eq_none (by omega)
      simp [World.cell?, this] at h
    · exact h0
  have hx0 : 0 ≤ x0 ∧ x0 < 256 := by
    have h : 0 ≤ x0 ∧ x0 ≤ 255 := Go.bounds_u8 wn0
    omega
  obtain ⟨d, rfl⟩ : ∃ d : Nat, x0 = d := ⟨x0.toNat, by omega⟩
  clear hA0 hval0
  refine (law_walk d (by omega) W htab hh0).mono fun e W' ⟨he, bel⟩ => ?_
  subst he
  exact ⟨_, rfl, _, _, _, [], _, [], hW', trodAll_mk1 (shut_bool Tryz.underlying4 _), trodAll_mk1 (shut_int Tryz.underlying5 wn0), rfl, bel.frame _, fun h => by cases h⟩
end Go.Proofs.YtpjhkpmmbeoghaaGreatDoor.Ev
