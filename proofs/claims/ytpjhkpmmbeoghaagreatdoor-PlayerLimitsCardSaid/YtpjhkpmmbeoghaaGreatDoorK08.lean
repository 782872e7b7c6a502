/- Part 8 of a verified evaluator, and what it reckons of the player. -/
import Derived.Test.YtpjhkpmmbeoghaaGreatDoorK07
set_option linter.unusedVariables false
set_option linter.unusedSimpArgs false
set_option linter.unusedSectionVars false
set_option maxRecDepth 100000
set_option linter.unusedVariables false
namespace Go.Proofs.YtpjhkpmmbeoghaaGreatDoor.Ev
open Go Go.RowKit Go.Proofs
noncomputable def strChk (n y : Nat) : KF := fun w _ _ I _ => iff (tg w 12) (iff (Nat.beq (tN w) n) (iff (Nat.beq (strAt I (tQ w) (tN w)) y) .ok (.bad 0 0)) (.bad 0 1)) (.bad 0 2)
noncomputable def evQ : CallT := evF Tryz.prog 243 50
theorem evQ_snd : CallSnd Tryz.prog evQ := evF_sound noNG back1 follows1 50
theorem nameRun0 : isOk (evQ 8 [295147905179352825861] 0 0 0 0 (strChk 2 (beVal (nm 0)))) = true := by kernel_rfl
theorem nameRun1 : isOk (evQ 8 [295147905179352825893] 0 0 0 0 (strChk 2 (beVal (nm 1)))) = true := by kernel_rfl
theorem nameRun2 : isOk (evQ 8 [295147905179352825925] 0 0 0 0 (strChk 2 (beVal (nm 2)))) = true := by kernel_rfl
theorem nameRun3 : isOk (evQ 8 [295147905179352825957] 0 0 0 0 (strChk 2 (beVal (nm 3)))) = true := by kernel_rfl
theorem nameRun4 : isOk (evQ 8 [295147905179352825989] 0 0 0 0 (strChk 2 (beVal (nm 4)))) = true := by kernel_rfl
theorem nameRun5 : isOk (evQ 8 [295147905179352826021] 0 0 0 0 (strChk 2 (beVal (nm 5)))) = true := by kernel_rfl
theorem nameRun6 : isOk (evQ 8 [295147905179352826053] 0 0 0 0 (strChk 2 (beVal (nm 6)))) = true := by kernel_rfl
theorem nameRun7 : isOk (evQ 8 [295147905179352826085] 0 0 0 0 (strChk 2 (beVal (nm 7)))) = true := by kernel_rfl
theorem nameRun8 : isOk (evQ 8 [295147905179352826117] 0 0 0 0 (strChk 2 (beVal (nm 8)))) = true := by kernel_rfl
theorem nameRun9 : isOk (evQ 8 [295147905179352826149] 0 0 0 0 (strChk 2 (beVal (nm 9)))) = true := by kernel_rfl
theorem nameRun10 : isOk (evQ 8 [295147905179352826181] 0 0 0 0 (strChk 2 (beVal (nm 10)))) = true := by kernel_rfl
theorem nameRun11 : isOk (evQ 8 [295147905179352826213] 0 0 0 0 (strChk 2 (beVal (nm 11)))) = true := by kernel_rfl
theorem nameRun12 : isOk (evQ 8 [295147905179352826245] 0 0 0 0 (strChk 2 (beVal (nm 12)))) = true := by kernel_rfl
theorem nameRun13 : isOk (evQ 8 [295147905179352826277] 0 0 0 0 (strChk 2 (beVal (nm 13)))) = true := by kernel_rfl
theorem nameRun14 : isOk (evQ 8 [295147905179352826309] 0 0 0 0 (strChk 2 (beVal (nm 14)))) = true := by kernel_rfl
theorem nameRun15 : isOk (evQ 8 [295147905179352826341] 0 0 0 0 (strChk 2 (beVal (nm 15)))) = true := by kernel_rfl
theorem nameRun16 : isOk (evQ 8 [295147905179352826373] 0 0 0 0 (strChk 2 (beVal (nm 16)))) = true := by kernel_rfl
theorem nameRun17 : isOk (evQ 8 [295147905179352826405] 0 0 0 0 (strChk 2 (beVal (nm 17)))) = true := by kernel_rfl
theorem nameRun18 : isOk (evQ 8 [295147905179352826437] 0 0 0 0 (strChk 2 (beVal (nm 18)))) = true := by kernel_rfl
theorem nameRun19 : isOk (evQ 8 [295147905179352826469] 0 0 0 0 (strChk 2 (beVal (nm 19)))) = true := by kernel_rfl
theorem nameRun20 : isOk (evQ 8 [295147905179352826501] 0 0 0 0 (strChk 2 (beVal (nm 20)))) = true := by kernel_rfl
theorem nameRun21 : isOk (evQ 8 [295147905179352826533] 0 0 0 0 (strChk 2 (beVal (nm 21)))) = true := by kernel_rfl
theorem nameRun22 : isOk (evQ 8 [295147905179352826565] 0 0 0 0 (strChk 2 (beVal (nm 22)))) = true := by kernel_rfl
theorem nameRun23 : isOk (evQ 8 [295147905179352826597] 0 0 0 0 (strChk 2 (beVal (nm 23)))) = true := by kernel_rfl
theorem nameRun24 : isOk (evQ 8 [295147905179352826629] 0 0 0 0 (strChk 2 (beVal (nm 24)))) = true := by kernel_rfl
theorem nameRun25 : isOk (evQ 8 [295147905179352826661] 0 0 0 0 (strChk 2 (beVal (nm 25)))) = true := by kernel_rfl
theorem nameRun26 : isOk (evQ 8 [295147905179352826693] 0 0 0 0 (strChk 2 (beVal (nm 26)))) = true := by kernel_rfl
theorem nameRun27 : isOk (evQ 8 [295147905179352826725] 0 0 0 0 (strChk 2 (beVal (nm 27)))) = true := by kernel_rfl
theorem nameRun28 : isOk (evQ 8 [295147905179352826757] 0 0 0 0 (strChk 2 (beVal (nm 28)))) = true := by kernel_rfl
theorem nameRun29 : isOk (evQ 8 [295147905179352826789] 0 0 0 0 (strChk 2 (beVal (nm 29)))) = true := by kernel_rfl
theorem nameRun : ∀ k, k < 30 → isOk (evQ 8 [295147905179352825861 + 32 * k] 0 0 0 0 (strChk 2 (beVal (nm k)))) = true
  | 0, _ => nameRun0
  | 1, _ => nameRun1
  | 2, _ => nameRun2
  | 3, _ => nameRun3
  | 4, _ => nameRun4
  | 5, _ => nameRun5
  | 6, _ => nameRun6
  | 7, _ => nameRun7
  | 8, _ => nameRun8
  | 9, _ => nameRun9
  | 10, _ => nameRun10
  | 11, _ => nameRun11
  | 12, _ => nameRun12
  | 13, _ => nameRun13
  | 14, _ => nameRun14
  | 15, _ => nameRun15
  | 16, _ => nameRun16
  | 17, _ => nameRun17
  | 18, _ => nameRun18
  | 19, _ => nameRun19
  | 20, _ => nameRun20
  | 21, _ => nameRun21
  | 22, _ => nameRun22
  | 23, _ => nameRun23
  | 24, _ => nameRun24
  | 25, _ => nameRun25
  | 26, _ => nameRun26
  | 27, _ => nameRun27
  | 28, _ => nameRun28
  | 29, _ => nameRun29
  | n + 30, h => absurd h (by omega)
theorem name_walk (i : Nat) (hi : i < 30) (w : World) : Calls Tryz.prog 8 #[.int .i64 i] w fun e w' => e = .returned (.string (bs (nm i))) ∧ Below w.heap.size w w' := by
  have hw : WR (fun _ => Option.none) 0 0 (295147905179352825861 + 32 * i) (.int .i64 (i : Nat)) := by
    have h := ctW_wr (f := fun _ => Option.none) (I := 0) (ni := 0) (k := i) (by omega)
    have e : 5 + 32 * (i + 9223372036854775808) = 295147905179352825861 + 32 * i := by rw [Nat.mul_add, Nat.add_comm (32 * i), ← Nat.add_assoc]
    rw [e] at h; exact h
  refine (run_nil evQ_snd (isOk_ok (nameRun i hi)) rfl (args := #[.int .i64 (i : Nat)]) (fun j h1 h2 => ?_) w).mono ?_
  · have : j = 0 := by simp at h1; omega
    subst this; exact hw
  · rintro e w' ⟨word, v, c, rfl, rfl, h1, h2, h3, h4, h5, h6⟩
    obtain ⟨t1, h1⟩ := iff_bad h1
    obtain ⟨t2, h1⟩ := iff_bad h1
    obtain ⟨t3, -⟩ := iff_bad h1
    have hv := str_is h4 t1 (l := nm i) (Nat.eq_of_beq_eq_true t2) (Nat.eq_of_beq_eq_true t3)
    exact ⟨by rw [hv], h5⟩
end Go.Proofs.YtpjhkpmmbeoghaaGreatDoor.Ev
