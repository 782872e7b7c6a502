/- slices.IndexFunc, ContainsFunc, Grow and Concat over links; the closure of split.Join. -/
import Derived.Test.YtagcbnpahgfgmaaSpT
import Derived.Test.YtagcbnpahgfgmaaSameK
import Derived.Lib.AppendZeros
import Derived.Laws.AppendOwnNone
namespace Go.Proofs.Ytagcbnpahgfgmaa
open Go Go.RowKit

theorem numbered_walk (k : Lk) (cb : Nat) (v : Int) (t : Bool) (w : World) (hb : w.cell? ⟨cb, 0, none⟩ = some (.int .i64 v)) (ht : (k.2.2 == v) = t) :
    Calls Try.prog 21 #[.agg #[.int .i64 k.1, .int .i64 k.2.1, .int .i64 k.2.2], .pointer (some ⟨cb, 0, none⟩)] w fun e w' => e = .returned (.bool t) ∧ Below w.heap.size w w' := by
  obtain ⟨k1, k2, k3⟩ := k
  simp only at ht ⊢
  have hA := bl_alloc w (.cells #[.int .i64 k1, .int .i64 k2, .int .i64 k3] 25)
  have hb2 := keep_cell hA hb
  cases t with
  | true =>
    go_enter Try.func21, Try.ntmps21
    go_wp2_with fail
    go_ret
    exact ⟨rfl, hA⟩
  | false =>
    go_enter Try.func21, Try.ntmps21
    go_wp2_with fail
    go_ret
    exact ⟨rfl, hA⟩

def idxL (p : Lk → Bool) (ls : List Lk) : Int := match ls.findIdx? p with
  | some i => (i : Int)
  | none => -1
theorem idxL_bd (p : Lk → Bool) (ls : List Lk) : -1 ≤ idxL p ls ∧ idxL p ls < ls.length ∨ idxL p ls = -1 := by
  unfold idxL
  cases h : ls.findIdx? p with
  | none => right; rfl
  | some i => rw [List.findIdx?_eq_some_iff_getElem] at h; obtain ⟨h, _⟩ := h; left; simp only; omega
theorem idxL_neg {p : Lk → Bool} {ls : List Lk} : idxL p ls = -1 ↔ ∀ k ∈ ls, p k = false := by
  unfold idxL
  cases h : ls.findIdx? p with
  | none => rw [List.findIdx?_eq_none_iff] at h; simpa using h
  | some i =>
    rw [List.findIdx?_eq_some_iff_getElem] at h
    obtain ⟨h1, h2, _⟩ := h
    simp only
    constructor
    · intro h; omega
    · intro h; rw [h _ (List.getElem_mem h1)] at h2; cases h2
def RetIdx (w : World) (z : Int) (e : Ending) (w' : World) : Prop := e = .returned (.int .i64 z) ∧ Below w.heap.size w w'
set_option maxHeartbeats 1000000 in
theorem index_walkP (cb : Nat) (p : Lk → Bool) (a : Option Addr) (cap : Nat) (ls : List Lk) (w : World) (hr : RdL w a ls) (hl : ls.length ≤ 100000)
    (hF : ∀ k ∈ ls, ∀ w1, Below w.heap.size w w1 → Calls Try.prog 21 #[.agg #[.int .i64 k.1, .int .i64 k.2.1, .int .i64 k.2.2], .pointer (some ⟨cb, 0, none⟩)] w1 fun e w' => e = .returned (.bool (p k)) ∧ Below w1.heap.size w1 w') :
    Calls Try.prog 22 #[.slice a ls.length cap, .func (.func 21) #[] #[.pointer (some ⟨cb, 0, none⟩)]] w (RetIdx w (idxL p ls)) := by
  have HF := Lib.hid hF; clear hF
  go_enter Try.func22, Try.ntmps22
  go_wp2_with fail
  go_loopg [8] ls.length (fun r iv wj => ∃ i : Nat, i + r = ls.length ∧ iv = .int .i64 i ∧ (∀ j (h : j < ls.length), j < i → p ls[j] = false) ∧ Below w.heap.size w wj)
  case atStart => exact ⟨0, by omega, rfl, fun j h hj => absurd hj (by omega), bl_refl _⟩
  case round =>
    obtain ⟨i, hi, rfl, hall, hb⟩ := hrel
    have Hi := Lib.hid hi; have Hall := Lib.hid hall
    clear hall
    by_cases hil : i < ls.length
    · clear hi
      obtain ⟨b, o, rfl, c0, c1, c2⟩ := (hr.below hb).at i hil
      have hcw := HF.out ls[i] (List.getElem_mem hil) wr hb
      obtain ⟨t, ht⟩ : ∃ t, p ls[i] = t := ⟨_, rfl⟩
      rw [ht] at hcw
      obtain ⟨⟨x, y, z⟩, hx⟩ : ∃ x : Lk, ls[i] = x := ⟨_, rfl⟩
      rw [hx] at c0 c1 c2 hcw
      simp only at c0 c1 c2 hcw
      have Hcw := Lib.hid hcw; have Ht := Lib.hid ht
      clear hx hcw ht
      go_wp2_with fail
      refine Hcw.out.mono ?_
      rintro e w' ⟨rfl, hb2⟩
      have hB := bl_trans hb hb2
      clear hb2
      cases t with
      | true =>
        have hfin : idxL p ls = (i : Int) := by
          unfold idxL
          have : ls.findIdx? p = some i := List.findIdx?_eq_some_iff_getElem.2 ⟨hil, Ht.out, fun j hj => by rw [Hall.out j (by omega) hj]; simp⟩
          rw [this]
        have Hfin := Lib.hid hfin; clear hfin
        go_wp2_with fail
        go_ret
        exact ⟨by rw [Hfin.out] <;> rfl, hB⟩
      | false =>
        have hnx : ∀ j (h : j < ls.length), j < i + 1 → p ls[j] = false := fun j h hj => by
          by_cases e : j < i
          · exact Hall.out j h e
          · obtain rfl : j = i := by omega
            exact Ht.out
        have Hnx := Lib.hid hnx; clear hnx
        go_wp2_with fail
        go_roundg (gk - 1)
        case measure => have := Hi.out; omega
        case rel => exact ⟨i + 1, by have := Hi.out; omega, by go_num, Hnx.out, hB⟩
    · have hin : i = ls.length := by omega
      subst hin
      have hfin : idxL p ls = -1 := idxL_neg.2 fun r hr => by
          obtain ⟨j, hj, rfl⟩ := List.getElem_of_mem hr
          exact Hall.out j hj hj
      have Hfin := Lib.hid hfin; clear hfin hi
      go_wp2_with fail
      go_ret
      exact ⟨by rw [Hfin.out] <;> rfl, hb⟩
theorem contains_walkP (cb : Nat) (p : Lk → Bool) (a : Option Addr) (cap : Nat) (ls : List Lk) (w : World) (hr : RdL w a ls) (hl : ls.length ≤ 100000)
    (hF : ∀ k ∈ ls, ∀ w1, Below w.heap.size w w1 → Calls Try.prog 21 #[.agg #[.int .i64 k.1, .int .i64 k.2.1, .int .i64 k.2.2], .pointer (some ⟨cb, 0, none⟩)] w1 fun e w' => e = .returned (.bool (p k)) ∧ Below w1.heap.size w1 w') :
    Calls Try.prog 23 #[.slice a ls.length cap, .func (.func 21) #[] #[.pointer (some ⟨cb, 0, none⟩)]] w (RetT w (ls.any p)) := by
  have HF := Lib.hid hF; clear hF
  obtain ⟨z, hz⟩ : ∃ z, z = idxL p ls := ⟨_, rfl⟩
  have hzt : decide (0 ≤ z) = ls.any p := by
    rw [hz]
    cases h : ls.any p with
    | false =>
      have : idxL p ls = -1 := idxL_neg.2 fun k hk => by
        have := List.any_eq_false.1 h k hk
        simpa using this
      rw [this]; decide
    | true =>
      have h1 : ¬ idxL p ls = -1 := fun h2 => by
        obtain ⟨k, hk, h3⟩ := List.any_eq_true.1 h
        rw [idxL_neg.1 h2 k hk] at h3; cases h3
      have := idxL_bd p ls
      simp; omega
  obtain ⟨t, ht⟩ : ∃ t, t = ls.any p := ⟨_, rfl⟩
  rw [← ht] at hzt ⊢
  have Hz := Lib.hid hz; clear hz ht
  go_enter Try.func23, Try.ntmps23
  go_wp2_with fail
  refine (index_walkP cb p a cap ls _ hr hl HF.out).mono ?_
  rw [← Hz.out]
  rintro e w1 ⟨rfl, hb1⟩
  go_wp2_with fail
  go_ret
  exact ⟨rfl, hb1⟩
end Go.Proofs.Ytagcbnpahgfgmaa
