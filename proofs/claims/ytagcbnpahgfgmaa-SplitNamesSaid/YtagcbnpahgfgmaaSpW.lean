/- split.sides: the chosen class, or the first two, on the one side. -/
import Derived.Test.YtagcbnpahgfgmaaSpQ
import Derived.Test.YtagcbnpahgfgmaaPaC
import Derived.Test.YtagcbnpahgfgmaaLkT
namespace Go.Proofs.Ytagcbnpahgfgmaa
open Go Go.RowKit

set_option maxHeartbeats 1000000 in
theorem chosen_walk (ac : Option Addr) (cc cb n cl : Nat) (al : Option Addr) (c : List Lk) (t : Bool) (w : World) (hb : w.cell? ⟨cb, 0, none⟩ = some (.slice al n cl)) (hn : n ≤ 100000) (hcl : c.length ≤ 100000) (ht : chosenB n c = t) :
    Calls Try.prog 32 #[.slice ac c.length cc, .pointer (some ⟨cb, 0, none⟩)] w fun e w' => e = .returned (.bool t) ∧ w = w' := by
  unfold chosenB at ht
  have i1 : IntKind.i64.wrap ((n : Int) - (c.length : Int)) = (n : Int) - (c.length : Int) := IntWalk.i64_in _ (by omega)
  by_cases h1 : 1 < c.length
  · have q1 : decide ((1 : Int) < (c.length : Int)) = true := by simp; omega
    rw [decide_eq_true h1, Bool.true_and] at ht
    have q1' : decide (1 < c.length) = true := by simpa using h1
    clear h1
    cases t with
    | true =>
      go_enter Try.func32, Try.ntmps32
      go_wp2_with fail
      go_ret
      exact ⟨rfl, rfl⟩
    | false =>
      go_enter Try.func32, Try.ntmps32
      go_wp2_with fail
      go_ret
      exact ⟨rfl, rfl⟩
  · have q1 : decide ((1 : Int) < (c.length : Int)) = false := by simp; omega
    rw [decide_eq_false h1, Bool.false_and] at ht
    have q1' : decide (1 < c.length) = false := by simpa using h1
    clear h1
    subst ht
    go_enter Try.func32, Try.ntmps32
    go_wp2_with fail
    go_ret
    exact ⟨rfl, rfl⟩

def idxZ (n : Nat) (G : List (List Lk)) : Int := match G.findIdx? (chosenB n) with
  | some i => (i : Int)
  | none => -1
set_option maxHeartbeats 1000000 in
theorem indexG_walk (a al : Option Addr) (cap cb n cl : Nat) (G : List (List Lk)) (w : World) (hr : RdLs w a G) (hb : w.cell? ⟨cb, 0, none⟩ = some (.slice al n cl)) (hn : n ≤ 100000) (hl : G.length ≤ 100000) (hG : ∀ r ∈ G, r.length ≤ 100000) :
    Calls Try.prog 33 #[.slice a G.length cap, .func (.func 32) #[] #[.pointer (some ⟨cb, 0, none⟩)]] w fun e w' => e = .returned (.int .i64 (idxZ n G)) ∧ w = w' := by
  have HG := Lib.hid hG; clear hG
  go_enter Try.func33, Try.ntmps33
  go_wp2_with fail
  go_loopg [8] G.length (fun r iv wj => ∃ i : Nat, i + r = G.length ∧ iv = .int .i64 i ∧ (∀ j (h : j < G.length), j < i → chosenB n G[j] = false) ∧ w = wj)
  case atStart => exact ⟨0, by omega, rfl, fun j h hj => absurd hj (by omega), rfl⟩
  case round =>
    obtain ⟨i, hi, rfl, hall, rfl⟩ := hrel
    have Hi := Lib.hid hi; have Hall := Lib.hid hall
    clear hall
    by_cases hil : i < G.length
    · clear hi
      obtain ⟨R, hR⟩ : ∃ R, G[i] = R := ⟨_, rfl⟩
      have hRi : G[i]? = some R := by rw [List.getElem?_eq_getElem hil, hR]
      obtain ⟨bo, oo, au, cu, rfl, p0, _, _, _⟩ := hr i R hRi
      have hRl := HG.out R (by rw [← hR]; exact List.getElem_mem _)
      obtain ⟨t, ht⟩ : ∃ t, chosenB n R = t := ⟨_, rfl⟩
      have hcw := chosen_walk au cu cb n cl al R t w hb hn hRl ht
      have Hcw := Lib.hid hcw; have HR := Lib.hid hR; have Ht := Lib.hid ht
      clear hRi hR hcw ht
      go_wp2_with fail
      refine Hcw.out.mono ?_
      rintro e w' ⟨rfl, rfl⟩
      cases t with
      | true =>
        have hfin : idxZ n G = (i : Int) := by
          unfold idxZ
          have : G.findIdx? (chosenB n) = some i := List.findIdx?_eq_some_iff_getElem.2 ⟨hil, by rw [HR.out]; exact Ht.out, fun j hj => by rw [Hall.out j (by omega) hj]; simp⟩
          rw [this]
        have Hfin := Lib.hid hfin; clear hfin
        go_wp2_with fail
        go_ret
        exact ⟨by rw [Hfin.out] <;> rfl, rfl⟩
      | false =>
        have hnx : ∀ j (h : j < G.length), j < i + 1 → chosenB n G[j] = false := fun j h hj => by
          by_cases e : j < i
          · exact Hall.out j h e
          · obtain rfl : j = i := by omega
            rw [HR.out]; exact Ht.out
        have Hnx := Lib.hid hnx; clear hnx
        go_wp2_with fail
        go_roundg (gk - 1)
        case measure => have := Hi.out; omega
        case rel => exact ⟨i + 1, by have := Hi.out; omega, by go_num, Hnx.out, rfl⟩
    · have hin : i = G.length := by omega
      subst hin
      have hfin : idxZ n G = -1 := by
        unfold idxZ
        have : G.findIdx? (chosenB n) = none := List.findIdx?_eq_none_iff.2 fun r hr => by
          obtain ⟨j, hj, rfl⟩ := List.getElem_of_mem hr
          exact Hall.out j hj hj
        rw [this]
      have Hfin := Lib.hid hfin; clear hfin hi
      go_wp2_with fail
      go_ret
      exact ⟨by rw [Hfin.out] <;> rfl, rfl⟩

/-- What 'sides' hands back. -/
def RetSides (w : World) (s : List Lk × List Lk) (e : Ending) (w' : World) : Prop :=
  ∃ v1 v2, e = .returned (.tuple #[v1, v2]) ∧ OwnL w' v1 s.1 ∧ OwnL w' v2 s.2 ∧ (∀ g, v1.ownBlock = some g → w.heap.size ≤ g) ∧ (∀ g, v2.ownBlock = some g → w.heap.size ≤ g) ∧ Below w.heap.size w w'
end Go.Proofs.Ytagcbnpahgfgmaa
