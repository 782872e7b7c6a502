/- Part 10 of a verified evaluator, and what it reckons of the player. -/
import Derived.Test.YtpjhkpmmbeoghaaGreatDoorK09
set_option linter.unusedVariables false
set_option linter.unusedSimpArgs false
set_option linter.unusedSectionVars false
set_option linter.unusedVariables false
namespace Go.Proofs.YtpjhkpmmbeoghaaGreatDoor.Ev
open Go Go.RowKit Go.Proofs
theorem run_neq_nil_pl (w : World) (A : Addr) : (binOp .neq 26 (.pointer none) (.pointer (some A))).run Tryz.prog w = .ok (.bool true) w := by
  have hp : Tryz.prog.underlying 26 = some (.pointer (Tryz.prog.pointee 26)) := by kernel_rfl
  have h : ∀ d : Nat, (Op.equalIn (d + 1) 26 (.pointer none) (.pointer (some A))).run Tryz.prog w = .ok false w := fun d => by
    simp [Op.equalIn, run_underlying hp]
  simp only [binOp]
  simp [Op.equal, Op.maxDepth, h 9999]
set_option maxRecDepth 100000 in
theorem playNil_walk (l : ByteArray) (w : World) : Calls Tryz.prog 9 #[.pointer none, .string l] w fun e w' => e = .returned (.tuple #[.string ⟨#[]⟩, .int .i64 1]) ∧ w' = w := by
  go_enter Tryz.func9, Tryz.ntmps9
  go_wp2_with fail
  go_ret2
  exact ⟨rfl, rfl⟩
set_option maxRecDepth 100000 in
theorem playZero_walk (b : Nat) (l : ByteArray) (w : World) (hc : w.cell? ⟨b, 0, none⟩ = some (.pointer none)) :
    Calls Tryz.prog 9 #[.pointer (some ⟨b, 0, none⟩), .string l] w fun e w' => e = .returned (.tuple #[.string ⟨#[]⟩, .int .i64 1]) ∧ w' = w := by
  have hq := run_neq_nil_pl w ⟨b, 0, none⟩
  go_enter Tryz.func9, Tryz.ntmps9
  go_wp2_with fail
  go_ret2
  exact ⟨rfl, rfl⟩
set_option maxRecDepth 100000 in
theorem scriptLong_walk (t : ByteArray) (w : World) (h : 65536 < t.size) : Calls Tryz.prog 12 #[.string t] w fun e w' => e = .returned (.tuple #[.string ⟨#[]⟩, .int .i64 3]) ∧ w' = w := by
  have q1 : decide ((65536 : Int) < (t.size : Int)) = true := by simp; omega
  have q2 : decide (65536 < t.size) = true := by simp; omega
  go_enter Tryz.func12, Tryz.ntmps12
  go_wp2_with fail
  go_ret2
  exact ⟨rfl, rfl⟩
def PR (S : Nat → Value → Cf → Prop) (pv : Value) (w0 : World) (j : Nat) (w : World) : Prop :=
  ∃ c, c.w = w ∧ S j pv c ∧ (∀ k, k < w0.heap.size → Far c k) ∧ Below w0.heap.size w0 w
section
variable {n : Nat} {L told : Nat → List UInt8} {err : Nat → Nat} {S : Nat → Value → Cf → Prop} {pv : Value} {w0 w w' : World} {j : Nat}
theorem PR.below (hL : Lines Tryz.prog 9 n L told err S) (h : PR S pv w0 j w) (hb : Below w.heap.size w w') : PR S pv w0 j w' := by
  obtain ⟨c, rfl, hS, h3, h5⟩ := h
  have hr := hL.hr hS
  exact ⟨{ c with w := w' }, rfl, hL.foreign hS (hr.foreign hb.size fun k hk _ => hb.block k hk), h3, h5.trans (hb.mono h5.size)⟩
theorem PR.play (hL : Lines Tryz.prog 9 n L told err S) (h : PR S pv w0 j w) (hj : j < n) :
    Calls Tryz.prog 9 #[pv, .string (bs (L j))] w fun e w' => e = .returned (.tuple #[.string (bs (told j)), .int .i64 (err j : Nat)]) ∧ PR S pv w0 (j + 1) w' := by
  obtain ⟨c, rfl, hS, h3, h5⟩ := h
  refine (hL.step hj hS).mono ?_
  rintro e w' ⟨rfl, c', rfl, hS', hk⟩
  exact ⟨rfl, c', rfl, hS', fun k hk' => hk.far k (Nat.lt_of_lt_of_le hk' h5.size) (h3 k hk'),
    ⟨hk.tape.2.1.trans h5.os, hk.tape.1.trans h5.tape, hk.tape.2.2.trans h5.output, Nat.le_trans h5.size hk.size, fun k hk' => (hk.frame k (Nat.lt_of_lt_of_le hk' h5.size) (h3 k hk')).trans (h5.block k hk')⟩⟩
theorem PR.bel (h : PR S pv w0 j w) : Below w0.heap.size w0 w := by obtain ⟨c, rfl, hS, h3, h5⟩ := h; exact h5
end
def longT (j : Nat) : List UInt8 := List.replicate (65536 - j) 10
theorem itoa260 : Lib.itoa ((260 : Nat) : Int) = [50, 54, 48] := by
  have : Lib.itoa ((260 : Nat) : Int) = Lib.decDigits 260 := by unfold Lib.itoa; rw [if_neg (by omega)]; rfl
  rw [this, Lib.decDigits, dif_neg (by decide), Lib.decDigits, dif_neg (by decide), Lib.decDigits, dif_pos (by decide)]; rfl
theorem itoa261 : Lib.itoa ((261 : Nat) : Int) = [50, 54, 49] := by
  have : Lib.itoa ((261 : Nat) : Int) = Lib.decDigits 261 := by unfold Lib.itoa; rw [if_neg (by omega)]; rfl
  rw [this, Lib.decDigits, dif_neg (by decide), Lib.decDigits, dif_neg (by decide), Lib.decDigits, dif_pos (by decide)]; rfl
theorem itoa2 : Lib.itoa ((2 : Nat) : Int) = [50] := by
  have : Lib.itoa ((2 : Nat) : Int) = Lib.decDigits 2 := by unfold Lib.itoa; rw [if_neg (by omega)]; rfl
  rw [this, Lib.decDigits, dif_pos (by decide)]; rfl
theorem longOut : ∀ j, (outL (fun _ => []) (fun _ => 260) j).length = 6 * j
  | 0 => rfl
  | j + 1 => by
    have ih := longOut j
    have e : ansL [] 260 = [33, 32, 50, 54, 48] := by unfold ansL; rw [if_neg (by decide), itoa260]
    simp only [outL, List.length_append, ih, e, List.length_cons, List.length_nil]; omega
theorem long_walk (w0 : World) (htab : Lib.TabIs Tryz.prog w0 "internal/strconv.uint64pow10" .u64 Lib.pow10Tab) (h0 : 0 < w0.heap.size) :
    Calls Tryz.prog 12 #[.string (bs (List.replicate 65536 10))] w0 fun e w' => ∃ s : ByteArray, e = .returned (.tuple #[.string s, .int .i64 0]) ∧ s.size = 393216 ∧ Below w0.heap.size w0 w' := by
  have hL := lines_const evP_snd (isOk_ok runE) (mkPL_is ([], [], 260)) 65536
  refine (script_walk (T := longT) hL (fun j hj => ?_) rfl (fun j => by unfold longT; simp) (fun _ => by decide) (fun j hj => by rw [longOut]; omega) (fun w => new_const evP_snd (isOk_ok runN) w) w0 htab h0).mono ?_
  · have e : longT j = 10 :: longT (j + 1) := by
      unfold longT
      rw [show 65536 - j = (65536 - (j + 1)) + 1 by omega, List.replicate_succ]
    exact ⟨by rw [e]; simp, by simp, .inl (by rw [e]; rfl)⟩
  · rintro e w' ⟨rfl, hb⟩
    refine ⟨_, rfl, ?_, hb⟩
    have := longOut 65536
    simpa [bs, ByteArray.size] using this
end Go.Proofs.YtpjhkpmmbeoghaaGreatDoor.Ev
set_option linter.unusedVariables false
namespace Go.Proofs.YtpjhkpmmbeoghaaGreatDoor.Ev
open Go Go.RowKit Go.Proofs
def awkL : List (List UInt8) := awakeL.map (·.1)
def awkX : List ByteArray := awkL.map bs
theorem awk_at (j : Nat) : (ltAt awakeL j).1 = awkL.getD j [] := by
  unfold ltAt awkL
  rw [List.getD_eq_getElem?_getD, List.getD_eq_getElem?_getD, List.getElem?_map]
  cases awakeL[j]? <;> rfl
theorem awkScript (w0 : World) (htab : Lib.TabIs Tryz.prog w0 "internal/strconv.uint64pow10" .u64 Lib.pow10Tab) (h0 : 0 < w0.heap.size) :
    Calls Tryz.prog 12 #[.string (bs (txt awkL 0))] w0 fun e w' => e = .returned (.tuple #[.string (bs (outL (fun j => (ltAt awakeL j).2.1) (fun j => (ltAt awakeL j).2.2) 18)), .int .i64 0]) ∧ Below w0.heap.size w0 w' := by
  have hL := lines_of evP_snd awakeL
  have herr : ∀ j, (ltAt awakeL j).2.2 < 1000 := by
    intro j
    by_cases hj : j < 18
    · exact (by decide : ∀ j, j < 18 → (ltAt awakeL j).2.2 < 1000) j hj
    · have : ltAt awakeL j = ([], [], 0) := by unfold ltAt; rw [List.getD_eq_getElem?_getD, List.getElem?_eq_none (by show 18 ≤ j; omega)]; rfl
      rw [this]; decide
  have htold : ∀ j, (ltAt awakeL j).2.1.length ≤ 100 := by
    intro j
    by_cases hj : j < 18
    · exact (by decide : ∀ j, j < 18 → (ltAt awakeL j).2.1.length ≤ 100) j hj
    · have : ltAt awakeL j = ([], [], 0) := by unfold ltAt; rw [List.getD_eq_getElem?_getD, List.getElem?_eq_none (by show 18 ≤ j; omega)]; rfl
      rw [this]; decide
  refine script_walk (n := 18) (T := txt awkL) hL (fun j hj => ?_) rfl (fun j => Nat.le_trans (txt_len awkL j) (by decide)) herr (fun j hj => Nat.le_trans (out_len htold herr j) (by omega)) (fun w => new_chain evP_snd (isOk_ok runA) w) w0 htab h0
  rw [awk_at]
  exact txt_cuts (by decide) hj
def wantL : List UInt8 := [51, 32, 50, 10, 51, 32, 50, 10, 121, 101, 115, 10, 49, 10, 48, 10, 50, 10, 48, 32, 50, 32, 47, 32, 49, 10, 49, 32, 110, 101, 119, 10, 49, 32, 111, 108, 100, 10, 50, 32, 51, 32, 50, 10, 54, 32, 52, 10, 48, 32, 49, 32, 50, 32, 47, 32, 51, 32, 52, 32, 53, 10, 112, 108, 97, 110, 101, 32, 50, 10, 51, 32, 49, 10, 33, 32, 50, 10, 49, 10, 33, 32, 50, 54, 48, 10, 33, 32, 50, 54, 49, 10]
theorem awkOut : outL (fun j => (ltAt awakeL j).2.1) (fun j => (ltAt awakeL j).2.2) 18 = wantL := by
  have e0 : ∀ t, ansL t 0 = t := fun t => rfl
  have e1 : ∀ t, ansL t 260 = [33, 32, 50, 54, 48] := fun t => by unfold ansL; rw [if_neg (by decide), itoa260]
  have e2 : ∀ t, ansL t 261 = [33, 32, 50, 54, 49] := fun t => by unfold ansL; rw [if_neg (by decide), itoa261]
  have e3 : ∀ t, ansL t 2 = [33, 32, 50] := fun t => by unfold ansL; rw [if_neg (by decide), itoa2]
  simp only [outL, ltAt, awakeL, List.getD_cons_zero, List.getD_cons_succ, e0, e1, e2, e3, wantL]
  rfl
set_option maxRecDepth 100000 in
theorem awake_walk (w : World) (htab : Lib.TabIs Tryz.prog w "internal/strconv.uint64pow10" .u64 Lib.pow10Tab) (h0 : 0 < w.heap.size) :
    Calls Tryz.prog 13 #[] w fun e w' => e = .returned (.bool true) ∧ Below w.heap.size w w' := by
  have hcs : ∀ (j : Nat) x, awkX[j]? = some x → (w.alloc (.cells (awkX.map Value.string).toArray 9)).cell? ⟨w.heap.size, 0 + j, none⟩ = some (.string x) := fun j x hx => by
    rw [Nat.zero_add, Lib.cell_of_heap (heap_alloc_new w _)]
    simp [hx]
  have hj : Calls Tryz.prog 34 #[.slice (some ⟨w.heap.size, 0, none⟩) 18 18, .string ⟨#[10]⟩] (w.alloc (.cells (awkX.map Value.string).toArray 9)) fun e w' => e = .returned (.string (bs (txt awkL 0))) ∧ Below (w.alloc (.cells (awkX.map Value.string).toArray 9)).heap.size (w.alloc (.cells (awkX.map Value.string).toArray 9)) w' := by
    have hm : awkX.map (·.data.toList) = awkL := by unfold awkX; rw [List.map_map]; exact List.map_id _
    have hlen : (Lib.join (awkX.map (·.data.toList)) (ByteArray.mk #[10]).data.toList).length ≤ 140737488355328 := by
      rw [hm]
      exact Nat.le_trans (txt_len awkL 0) (by decide)
    refine (Tryz.strings_Join w.heap.size 0 18 awkX ⟨#[10]⟩ _ hcs (by simp) (by decide) (by decide) hlen).mono ?_
    rintro e w' ⟨rfl, hb⟩
    rw [hm]
    exact ⟨rfl, hb⟩
  have ew : (awkX.map Value.string).toArray = #[.string ⟨#[108, 101, 116, 32, 97, 32, 51, 32, 48, 45, 49, 32, 49, 45, 50]⟩, .string ⟨#[99, 97, 108, 108, 32, 98, 32, 97, 32, 49, 32, 48, 32, 50]⟩, .string ⟨#[115, 97, 109, 101, 32, 97, 32, 98]⟩, .string ⟨#[99, 117, 116, 115, 32, 97]⟩, .string ⟨#[99, 117, 116, 115, 32, 98]⟩, .string ⟨#[109, 97, 112, 115, 32, 97]⟩, .string ⟨#[111, 114, 98, 105, 116, 115, 32, 97]⟩, .string ⟨#[112, 117, 116, 32, 97]⟩, .string ⟨#[112, 117, 116, 32, 98]⟩, .string ⟨#[115, 101, 101, 110, 32, 49]⟩, .string ⟨#[106, 111, 105, 110, 32, 99, 32, 97, 32, 98]⟩, .string ⟨#[112, 97, 114, 116, 115, 32, 99]⟩, .string ⟨#[112, 108, 97, 110, 101, 32, 99]⟩, .string ⟨#[108, 101, 115, 115, 32, 100, 32, 97, 32, 48, 45, 49]⟩, .string ⟨#[108, 101, 115, 115, 32, 100, 32, 97, 32, 48, 45, 50]⟩, .string ⟨#[97, 103, 97, 105, 110]⟩, .string ⟨#[104, 101, 108, 108, 111]⟩, .string ⟨#[112, 97, 114, 116, 115, 32, 120]⟩] := rfl
  rw [ew] at hj
  have hb0 : Below w.heap.size w (w.alloc (.cells #[.string ⟨#[108, 101, 116, 32, 97, 32, 51, 32, 48, 45, 49, 32, 49, 45, 50]⟩, .string ⟨#[99, 97, 108, 108, 32, 98, 32, 97, 32, 49, 32, 48, 32, 50]⟩, .string ⟨#[115, 97, 109, 101, 32, 97, 32, 98]⟩, .string ⟨#[99, 117, 116, 115, 32, 97]⟩, .string ⟨#[99, 117, 116, 115, 32, 98]⟩, .string ⟨#[109, 97, 112, 115, 32, 97]⟩, .string ⟨#[111, 114, 98, 105, 116, 115, 32, 97]⟩, .string ⟨#[112, 117, 116, 32, 97]⟩, .string ⟨#[112, 117, 116, 32, 98]⟩, .string ⟨#[115, 101, 101, 110, 32, 49]⟩, .string ⟨#[106, 111, 105, 110, 32, 99, 32, 97, 32, 98]⟩, .string ⟨#[112, 97, 114, 116, 115, 32, 99]⟩, .string ⟨#[112, 108, 97, 110, 101, 32, 99]⟩, .string ⟨#[108, 101, 115, 115, 32, 100, 32, 97, 32, 48, 45, 49]⟩, .string ⟨#[108, 101, 115, 115, 32, 100, 32, 97, 32, 48, 45, 50]⟩, .string ⟨#[97, 103, 97, 105, 110]⟩, .string ⟨#[104, 101, 108, 108, 111]⟩, .string ⟨#[112, 97, 114, 116, 115, 32, 120]⟩] 9)) := (Below.refl _ w).alloc (Nat.le_refl _) _
  have hsc := fun w1 (hb : Below (w.alloc (.cells #[.string ⟨#[108, 101, 116, 32, 97, 32, 51, 32, 48, 45, 49, 32, 49, 45, 50]⟩, .string ⟨#[99, 97, 108, 108, 32, 98, 32, 97, 32, 49, 32, 48, 32, 50]⟩, .string ⟨#[115, 97, 109, 101, 32, 97, 32, 98]⟩, .string ⟨#[99, 117, 116, 115, 32, 97]⟩, .string ⟨#[99, 117, 116, 115, 32, 98]⟩, .string ⟨#[109, 97, 112, 115, 32, 97]⟩, .string ⟨#[111, 114, 98, 105, 116, 115, 32, 97]⟩, .string ⟨#[112, 117, 116, 32, 97]⟩, .string ⟨#[112, 117, 116, 32, 98]⟩, .string ⟨#[115, 101, 101, 110, 32, 49]⟩, .string ⟨#[106, 111, 105, 110, 32, 99, 32, 97, 32, 98]⟩, .string ⟨#[112, 97, 114, 116, 115, 32, 99]⟩, .string ⟨#[112, 108, 97, 110, 101, 32, 99]⟩, .string ⟨#[108, 101, 115, 115, 32, 100, 32, 97, 32, 48, 45, 49]⟩, .string ⟨#[108, 101, 115, 115, 32, 100, 32, 97, 32, 48, 45, 50]⟩, .string ⟨#[97, 103, 97, 105, 110]⟩, .string ⟨#[104, 101, 108, 108, 111]⟩, .string ⟨#[112, 97, 114, 116, 115, 32, 120]⟩] 9)).heap.size (w.alloc (.cells #[.string ⟨#[108, 101, 116, 32, 97, 32, 51, 32, 48, 45, 49, 32, 49, 45, 50]⟩, .string ⟨#[99, 97, 108, 108, 32, 98, 32, 97, 32, 49, 32, 48, 32, 50]⟩, .string ⟨#[115, 97, 109, 101, 32, 97, 32, 98]⟩, .string ⟨#[99, 117, 116, 115, 32, 97]⟩, .string ⟨#[99, 117, 116, 115, 32, 98]⟩, .string ⟨#[109, 97, 112, 115, 32, 97]⟩, .string ⟨#[111, 114, 98, 105, 116, 115, 32, 97]⟩, .string ⟨#[112, 117, 116, 32, 97]⟩, .string ⟨#[112, 117, 116, 32, 98]⟩, .string ⟨#[115, 101, 101, 110, 32, 49]⟩, .string ⟨#[106, 111, 105, 110, 32, 99, 32, 97, 32, 98]⟩, .string ⟨#[112, 97, 114, 116, 115, 32, 99]⟩, .string ⟨#[112, 108, 97, 110, 101, 32, 99]⟩, .string ⟨#[108, 101, 115, 115, 32, 100, 32, 97, 32, 48, 45, 49]⟩, .string ⟨#[108, 101, 115, 115, 32, 100, 32, 97, 32, 48, 45, 50]⟩, .string ⟨#[97, 103, 97, 105, 110]⟩, .string ⟨#[104, 101, 108, 108, 111]⟩, .string ⟨#[112, 97, 114, 116, 115, 32, 120]⟩] 9)) w1) => awkScript w1 (tab_below (hb0.trans (hb.mono (by simp))) h0 htab) (Nat.lt_of_lt_of_le h0 (Nat.le_trans hb0.size hb.size))
  rw [awkOut] at hsc
  obtain ⟨T0, hT0⟩ : ∃ T0, T0 = bs (txt awkL 0) := ⟨_, rfl⟩
  rw [← hT0] at hj hsc
  have hw : bs wantL = ⟨#[51, 32, 50, 10, 51, 32, 50, 10, 121, 101, 115, 10, 49, 10, 48, 10, 50, 10, 48, 32, 50, 32, 47, 32, 49, 10, 49, 32, 110, 101, 119, 10, 49, 32, 111, 108, 100, 10, 50, 32, 51, 32, 50, 10, 54, 32, 52, 10, 48, 32, 49, 32, 50, 32, 47, 32, 51, 32, 52, 32, 53, 10, 112, 108, 97, 110, 101, 32, 50, 10, 51, 32, 49, 10, 33, 32, 50, 10, 49, 10, 33, 32, 50, 54, 48, 10, 33, 32, 50, 54, 49, 10]⟩ := rfl
  rw [hw] at hsc
  clear hT0 hcs ew hw
  go_enter Tryz.func13, Tryz.ntmps13
  go_wp2_with (first
    | (go_at_call 34; refine hj.mono ?_; rintro e w1 ⟨rfl, hb1⟩)
    | (go_at_call 12; refine (hsc w1 hb1).mono ?_; rintro e w2 ⟨rfl, hb2⟩))
  go_ret
  exact ⟨rfl, hb0.trans ((hb1.mono (by simp)).trans (hb2.mono (Nat.le_trans hb0.size hb1.size)))⟩
end Go.Proofs.YtpjhkpmmbeoghaaGreatDoor.Ev
set_option linter.unusedVariables false
namespace Go.Proofs.YtpjhkpmmbeoghaaGreatDoor.Ev
open Go Go.RowKit Go.Proofs
theorem dg_dec {i : Nat} (h : i < 100) : Lib.decDigits i = dg i := by
  unfold dg
  by_cases h1 : i < 10
  · rw [if_pos h1, Lib.decDigits_one h1]
  · rw [if_neg h1, Lib.decDigits_two h1 h]
theorem law_let {k j : Nat} (h : j < 30) : ltAt (lawL k) j = letL j := by
  unfold ltAt lawL
  rw [List.getD_eq_getElem?_getD, List.getElem?_append_left (by simpa using h)]
  simp [h]
theorem law_30 (k : Nat) : ltAt (lawL k) 30 = ([108, 101, 116, 32, 122, 122, 32, 49], [], 5) := rfl
theorem law_31 (k : Nat) : ltAt (lawL k) 31 = ([108, 101, 116, 32] ++ nm k ++ [32, 50, 32, 48, 45, 49], [50, 32, 49], 0) := rfl
theorem law_32 (k : Nat) : ltAt (lawL k) 32 = ([108, 101, 116, 32, 122, 122, 32, 49, 32, 48, 45, 48], [], 5) := rfl
theorem rep_long (w : World) : ∃ LS : ByteArray, LS = bs (List.replicate 65536 10) ∧ LS.size = 65536 ∧
    Calls Tryz.prog 11 #[.string ⟨#[10]⟩, .int .i64 65536] w fun e w' => e = .returned (.string LS) ∧ Below w.heap.size w w' := by
  refine ⟨bs (List.replicate 65536 10), rfl, ?_, ?_⟩
  · show (List.replicate 65536 (10 : UInt8)).toArray.size = 65536
    rw [List.size_toArray, List.length_replicate]
  · have h := Tryz.strings_Repeat ⟨#[10]⟩ 65536 w (by decide) (by decide)
    have e : Lib.repeatL (ByteArray.mk #[10]).data.toList 65536 = List.replicate 65536 10 := by
      have := Lib.repeatL_replicate 10 1 65536
      rw [Nat.mul_one] at this
      exact this
    rw [e] at h
    exact h
set_option maxRecDepth 100000 in
theorem law_walk (d : Nat) (hd : d < 256) (w : World) (htab : Lib.TabIs Tryz.prog w "internal/strconv.uint64pow10" .u64 Lib.pow10Tab) (h0 : 0 < w.heap.size) :
    Calls Tryz.prog 4 #[.int .u8 d] w fun e w' => e = .returned (.bool true) ∧ Below w.heap.size w w' := by
  obtain ⟨k, hk⟩ : ∃ k, k = d % 30 := ⟨_, rfl⟩
  have hk30 : k < 30 := by omega
  have hL := lines_of evP_snd (lawL k)
  have hn : (lawL k).length = 33 := by simp [lawL]
  rw [hn] at hL
  have hNew := fun w => new_chain evP_snd (isOk_ok (runL k hk30)) w
  have HTab := Lib.hid htab
  have HK := Lib.hid hk
  clear htab hk hn
  go_enter Tryz.func4, Tryz.ntmps4
  go_wp2_with (go_at_call 7; refine (hNew _).mono ?_; rintro e w1 ⟨pv, c, rfl, rfl, hS, hb1, hf1⟩)
  have HP := Lib.hid (show PR (StL evP (lawL k)) pv w 0 c.w from ⟨c, rfl, hS, hf1, hb1⟩)
  clear hS hb1 hf1 hNew
  go_loopg [25] 30 (fun r iv wr => ∃ i : Nat, i + r = 30 ∧ iv = .int .i64 (i : Nat) ∧ PR (StL evP (lawL k)) pv w i wr)
  case atStart => exact ⟨0, by omega, rfl, HP.out⟩
  case round =>
    obtain ⟨i, hi, rfl, hpr⟩ := hrel
    have Hi := Lib.hid hi
    have HPR := Lib.hid hpr
    clear hi hpr HP
    by_cases hi30 : i < 30
    · obtain ⟨N, hN⟩ : ∃ N, N = bs (nm i) := ⟨_, rfl⟩
      obtain ⟨D, hD⟩ : ∃ D, D = bs (dg i) := ⟨_, rfl⟩
      have hna := fun w => name_walk i hi30 w
      have hit := fun w => Tryz.strconv_Itoa_small i (by omega : i < 100) w
      rw [dg_dec (by omega)] at hit
      have hpl := fun w1 (h : PR (StL evP (lawL k)) pv w i w1) => h.play hL (by omega : i < 33)
      rw [law_let hi30] at hpl
      have c1 : (⟨#[108, 101, 116, 32]⟩ : ByteArray) ++ bs (nm i) ++ ⟨#[32]⟩ ++ bs (dg i) = bs (letL i).1 := by
        show bs [108, 101, 116, 32] ++ bs (nm i) ++ bs [32] ++ bs (dg i) = _
        rw [bs_cat, bs_cat, bs_cat]; rfl
      have c2 : bs (dg i) ++ (⟨#[32, 48]⟩ : ByteArray) = bs (letL i).2.1 := by
        show bs (dg i) ++ bs [32, 48] = _
        rw [bs_cat]; rfl
      have e0 : (letL i).2.2 = 0 := rfl
      have zN : (bs (nm i)).size = 2 := rfl
      have zD : (bs (dg i)).size ≤ 2 := by unfold dg; split <;> simp [bs, ByteArray.size]
      obtain ⟨A, hA⟩ : ∃ A, A = bs (letL i).1 := ⟨_, rfl⟩
      obtain ⟨R, hR⟩ : ∃ R, R = bs (letL i).2.1 := ⟨_, rfl⟩
      have hdd : (⟨(dg i).toArray⟩ : ByteArray) = D := by rw [hD]; rfl
      rw [hdd] at hit
      rw [← hN] at hna c1 zN
      rw [← hD] at c1 c2 zD
      rw [← hA] at c1 hpl
      rw [← hR] at c2 hpl
      rw [e0] at hpl
      have q1 : decide ((i : Int) < 30) = true := by simp; omega
      have q2 : decide (i < 30) = true := by simp; omega
      clear hN hD hA hR hdd e0
      have HB0 := HPR.out
      go_wp2_with (first
        | (go_at_call 8; refine (hna _).mono ?_; rintro e w2 ⟨rfl, hb2⟩; have H2 := Lib.hid (HPR.out.below hL hb2); clear hb2)
        | (go_at_call 9; refine (hpl _ H2.out).mono ?_; rintro e w3 ⟨rfl, hp3⟩; have H3 := Lib.hid hp3; clear hp3)
        | (go_at_call 10; refine (hit _).mono ?_; rintro e w4 ⟨rfl, rfl⟩))
      go_roundg (gk - 1)
      case measure => have := Hi.out; omega
      case rel => exact ⟨i + 1, by have := Hi.out; omega, by go_num, H3.out⟩
    · obtain rfl : i = 30 := by have := Hi.out; omega
      have h30 : ∀ w1, PR (StL evP (lawL k)) pv w 30 w1 → Calls Tryz.prog 9 #[pv, .string ⟨#[108, 101, 116, 32, 122, 122, 32, 49]⟩] w1 fun e w' => e = .returned (.tuple #[.string ⟨#[]⟩, .int .i64 5]) ∧ PR (StL evP (lawL k)) pv w 31 w' := fun w1 h => by
        have h2 := h.play hL (by omega : 30 < 33)
        rw [law_30] at h2; exact h2
      have h32 : ∀ w1, PR (StL evP (lawL k)) pv w 32 w1 → Calls Tryz.prog 9 #[pv, .string ⟨#[108, 101, 116, 32, 122, 122, 32, 49, 32, 48, 45, 48]⟩] w1 fun e w' => e = .returned (.tuple #[.string ⟨#[]⟩, .int .i64 5]) ∧ PR (StL evP (lawL k)) pv w 33 w' := fun w1 h => by
        have h2 := h.play hL (by omega : 32 < 33)
        rw [law_32] at h2; exact h2
      have hna := fun w => name_walk k hk30 w
      obtain ⟨N, hN⟩ : ∃ N, N = bs (nm k) := ⟨_, rfl⟩
      have h31 : ∀ w1, PR (StL evP (lawL k)) pv w 31 w1 → Calls Tryz.prog 9 #[pv, .string ((⟨#[108, 101, 116, 32]⟩ : ByteArray) ++ N ++ ⟨#[32, 50, 32, 48, 45, 49]⟩)] w1 fun e w' => e = .returned (.tuple #[.string ⟨#[50, 32, 49]⟩, .int .i64 0]) ∧ PR (StL evP (lawL k)) pv w 32 w' := fun w1 h => by
        have h2 := h.play hL (by omega : 31 < 33)
        rw [law_31] at h2
        have e : (⟨#[108, 101, 116, 32]⟩ : ByteArray) ++ N ++ ⟨#[32, 50, 32, 48, 45, 49]⟩ = bs ([108, 101, 116, 32] ++ nm k ++ [32, 50, 32, 48, 45, 49]) := by
          rw [hN]; show bs [108, 101, 116, 32] ++ bs (nm k) ++ bs [32, 50, 32, 48, 45, 49] = _
          rw [bs_cat, bs_cat]
        rw [e]; exact h2
      have zN : N.size = 2 := by rw [hN]; rfl
      rw [← hN] at hna
      have hrem : Int.tmod (d : Int) 30 = ((k : Nat) : Int) := by rw [HK.out]; exact (Int.ofNat_tmod d 30).symm
      clear hN
      go_wp2_with fail
      refine (h30 _ HPR.out).mono ?_
      rintro e w2 ⟨rfl, hp2⟩
      have H2 := Lib.hid hp2; clear hp2
      go_wp2_with fail
      refine (hna _).mono ?_
      rintro e w3 ⟨rfl, hb3⟩
      have H3 := Lib.hid (H2.out.below hL hb3); clear hb3
      go_wp2_with fail
      refine (h31 _ H3.out).mono ?_
      rintro e w4 ⟨rfl, hp4⟩
      have H4 := Lib.hid hp4; clear hp4
      go_wp2_with fail
      refine (h32 _ H4.out).mono ?_
      rintro e w5 ⟨rfl, hp5⟩
      have H5 := Lib.hid hp5; clear hp5
      go_wp2_with fail
      refine (playNil_walk _ _).mono ?_
      rintro e w6 ⟨rfl, rfl⟩
      go_wp2_with fail
      obtain ⟨wz, hwz⟩ : ∃ wz, wz = w6.alloc (.cells #[.pointer none, .map none, .pointer none] 36) := ⟨_, rfl⟩
      have hbz : Below w.heap.size w wz := by rw [hwz]; exact H5.out.bel.alloc H5.out.bel.size _
      have hcz : wz.cell? ⟨w6.heap.size, 0, none⟩ = some (.pointer none) := by rw [hwz, Lib.cell_of_heap (heap_alloc_new w6 _)]; rfl
      rw [← hwz]
      clear hwz
      refine (playZero_walk _ _ _ hcz).mono ?_
      rintro e w7 ⟨rfl, rfl⟩
      clear hcz
      go_wp2_with fail
      obtain ⟨LS, hLS, zLS, hrep⟩ := rep_long w7
      refine hrep.mono ?_
      rintro e w8 ⟨rfl, hb8⟩
      have B8 := hbz.trans (hb8.mono hbz.size)
      have hlong := long_walk w8 (tab_below B8 h0 HTab.out) (Nat.lt_of_lt_of_le h0 B8.size)
      rw [← hLS] at hlong
      clear hLS hrep hb8 hbz
      go_wp2_with fail
      refine hlong.mono ?_
      rintro e w9 ⟨S1, rfl, zS1, hb9⟩
      have B9 := B8.trans (hb9.mono B8.size)
      clear hlong hb9 B8
      have zcat : (LS ++ (⟨#[10]⟩ : ByteArray)).size = 65537 := by rw [ByteArray.size_append, zLS]; rfl
      go_wp2_with fail
      refine (scriptLong_walk _ _ (by rw [zcat]; decide)).mono ?_
      rintro e w10 ⟨rfl, rfl⟩
      have haw := awake_walk w10 (tab_below B9 h0 HTab.out) (Nat.lt_of_lt_of_le h0 B9.size)
      go_wp2_with (go_at_call 13; refine haw.mono ?_; rintro e w11 ⟨rfl, hb11⟩)
      go_ret
      exact ⟨rfl, B9.trans (hb11.mono B9.size)⟩
end Go.Proofs.YtpjhkpmmbeoghaaGreatDoor.Ev
