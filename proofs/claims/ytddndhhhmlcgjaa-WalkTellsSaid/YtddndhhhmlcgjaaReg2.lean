/- Regions that draw their order: two operations that may come up. -/
import Derived.Test.YtddndhhhmlcgjaaReg
namespace Go.Proofs.Ytddndhhhmlcgjaa
open Go
section
variable {P : Program} {md : Region.Mode} {l : List Oper} {Q : Exit → Act → World → Prop} {S : World → Prop} {N : Nat}

/-- A move: one of two operations may come up. -/
theorem twoT {i i' : Nat} {oi oi' : Oper} {fuel : Nat} {listed : Array Bool} {a : Act} {w : World} (hi : l[i]? = some oi) (hi' : l[i']? = some oi') (hr : (Region.ready md l.toArray listed == [i, i']) = true)
    (h : ∀ K : Act → World → Prop, (∀ a w, (i < N → S w) → anyT P md l.toArray Q S N fuel (listed.setIfInBounds i true) a w → K a w) →
      if Region.wanted oi (yielded l.toArray a.tmps) = true then Oper.wp P oi a w K Q else K (a.put oi.dst undef) w)
    (h' : ∀ K : Act → World → Prop, (∀ a w, (i' < N → S w) → anyT P md l.toArray Q S N fuel (listed.setIfInBounds i' true) a w → K a w) →
      if Region.wanted oi' (yielded l.toArray a.tmps) = true then Oper.wp P oi' a w K Q else K (a.put oi'.dst undef) w) : anyT P md l.toArray Q S N (fuel + 1) listed a w := by
  have hr' := beq_iff_eq.1 hr
  refine ⟨fun h0 => absurd (hr' ▸ h0) (by simp), fun j hj => ?_⟩
  rw [hr'] at hj
  rcases List.mem_cons.1 hj with rfl | hj
  · exact wpOp_step (by simpa using hi) fun K hK => h K fun a w hS hW => hK a w ⟨hS, hW⟩
  · obtain rfl : j = i' := by simpa using hj
    exact wpOp_step (by simpa using hi') fun K hK => h' K fun a w hS hW => hK a w ⟨hS, hW⟩
end
end Go.Proofs.Ytddndhhhmlcgjaa
