/- A region that draws its order and ends in a store (or several): what the world must meet is asked until the tail alone. -/
import Derived.OrdersHeld
import Derived.RegionTactic
import Derived.Tactics
import Derived.WalkKit
namespace Go.Proofs.Ytagcbnpahgfgmaa
open Go

section
variable {P : Program} {md : Region.Mode} {ops : Array Oper} {Q : Exit → Act → World → Prop} {S : World → Prop} {N : Nat}

/-- Whatever order is picked from here on; S holds behind every operation ahead of the tail (numbers from N on). -/
def anyT (P : Program) (md : Region.Mode) (ops : Array Oper) (Q : Exit → Act → World → Prop) (S : World → Prop) (N : Nat) : Nat → Array Bool → Act → World → Prop
  | 0, listed, a, w => Region.ready md ops listed = [] ∧ Q .normal a w
  | fuel + 1, listed, a, w => (Region.ready md ops listed = [] → Q .normal a w) ∧
      ∀ i ∈ Region.ready md ops listed, wpOp P ops Q i (fun a' w' => (i < N → S w') ∧ anyT P md ops Q S N fuel (listed.setIfInBounds i true) a' w') a w

theorem any_of_anyT : ∀ (fuel : Nat) (listed : Array Bool) (a : Act) (w : World), anyT P md ops Q S N fuel listed a w → wpAny P md ops Q fuel listed a w
  | 0, _, _, _, h => h
  | fuel + 1, _, _, _, h => ⟨h.1, fun i hi => wpOp_mono (fun _ _ h' => any_of_anyT fuel _ _ _ h'.2) (h.2 i hi)⟩

/-- Whoever is listed, all that it waits for is. -/
def closedT (md : Region.Mode) (ops : Array Oper) (listed : Array Bool) : Prop :=
  ∀ (j : Nat) (o : Oper), ops[j]? = some o → listed.getD j false = true → ∀ e ∈ o.after, Region.binds md e = true → listed.getD e.on false = true

/-- j waits for i, through at most f others. -/
def waitsB (md : Region.Mode) (ops : Array Oper) (i : Nat) : Nat → Nat → Bool
  | 0, _ => false
  | f + 1, j => match ops[j]? with
    | some o => o.after.any fun e => Region.binds md e && (e.on == i || waitsB md ops i f e.on)
    | none => false

theorem waits_spec {listed : Array Bool} (hc : closedT md ops listed) {i : Nat} : ∀ (f j : Nat), waitsB md ops i f j = true →
    (∀ (o : Oper), ops[j]? = some o → ∀ e ∈ o.after, Region.binds md e = true → listed.getD e.on false = true) → listed.getD i false = true := by
  intro f
  induction f with
  | zero => intro j h; simp [waitsB] at h
  | succ f ih =>
    intro j h hall
    unfold waitsB at h
    split at h
    · rename_i o ho
      obtain ⟨e, he, h2⟩ := Array.any_eq_true'.1 h
      simp only [Bool.and_eq_true, Bool.or_eq_true, beq_iff_eq] at h2
      obtain ⟨hb, h3⟩ := h2
      have hl := hall o ho e he hb
      rcases h3 with h3 | h3
      · rw [← h3]; exact hl
      · exact ih e.on h3 fun o' ho' e' he' hb' => hc e.on o' ho' hl e' he' hb'
    · cases h

/-- Every operation of the tail waits for every one ahead of it. -/
def tailB (md : Region.Mode) (ops : Array Oper) (N : Nat) : Bool :=
  (List.range ops.size).all fun j => decide (j < N) || (List.range N).all fun i => waitsB md ops i ops.size j

theorem tail_late {listed : Array Bool} (ht : tailB md ops N = true) (hc : closedT md ops listed) {j : Nat} (hj : j ∈ Region.ready md ops listed) (hN : N ≤ j) {i : Nat} (hi : i < N) :
    listed.getD i false = true := by
  obtain ⟨h0, o, ho, hall⟩ := mem_ready.1 hj
  have hjs : j < ops.size := (Array.getElem?_eq_some_iff.1 ho).1
  have h1 := List.all_eq_true.1 ht j (List.mem_range.2 hjs)
  simp only [Bool.or_eq_true, decide_eq_true_eq] at h1
  have h2 := List.all_eq_true.1 (h1.resolve_left (by omega)) i (List.mem_range.2 hi)
  refine waits_spec hc _ _ h2 fun o' ho' => ?_
  rw [ho] at ho'
  cases ho'
  exact hall

theorem closed_set {listed : Array Bool} (hc : closedT md ops listed) {j : Nat} (hj : j ∈ Region.ready md ops listed) : closedT md ops (listed.setIfInBounds j true) := by
  intro k o ho hk e he hb
  obtain ⟨h0, oj, hoj, hall⟩ := mem_ready.1 hj
  by_cases hjk : j = k
  · subst hjk
    rw [hoj] at ho; cases ho
    exact getD_set_true (hall e he hb)
  · rw [getD_set_ne false hjk] at hk
    exact getD_set_true (hc k o ho hk e he hb)

theorem getD_clash {listed : Array Bool} {i : Nat} (h1 : listed.getD i true = false) (h2 : listed.getD i false = true) : False := by
  rcases Nat.lt_or_ge i listed.size with h' | h'
  · simp [h'] at h1 h2; rw [h1] at h2; cases h2
  · simp [Array.getElem?_eq_none h'] at h2

/-- An operation ahead of the tail, which yields its value in every world that meets S, may be taken first. -/
theorem anyT_first {i : Nat} {oi : Oper} {v : Value} (hi : ops[i]? = some oi) (hsel : ∀ (j : Nat) (o : Oper) cs b, ops[j]? = some o → o.op ≠ .select cs b)
    (hQ : ∀ c a w, Q (.panic c) (a.put oi.dst v) w → Q (.panic c) a w) (hiN : i < N) (ht : tailB md ops N = true) :
    ∀ (fuel : Nat) (listed : Array Bool) (a : Act) (w : World), closedT md ops listed →
      (∀ j oj, ops[j]? = some oj → j ≠ i → listed.getD j true = false → (∀ e ∈ oj.after, Region.binds md e = true → e.on ≠ i) → oi.apart ops oj = true) →
      i ∈ Region.ready md ops listed → YieldsIf P ops S oi v a → S w →
      anyT P md ops Q S N fuel (listed.setIfInBounds i true) (a.put oi.dst v) w → anyT P md ops Q S N (fuel + 1) listed a w := by
  intro fuel
  induction fuel with
  | zero =>
    intro listed a w hc _ hr hy hS H
    refine ⟨fun h => (by rw [h] at hr; cases hr), fun j hj => ?_⟩
    by_cases hji : j = i
    · subst hji; exact hy.wpOp hi hS ⟨fun _ => hS, H⟩
    · have := ready_mono hj hji
      rw [H.1] at this
      cases this
  | succ fuel ih =>
    intro listed a w hc hfree hr hy hS H
    refine ⟨fun h => (by rw [h] at hr; cases hr), fun j hj => ?_⟩
    by_cases hji : j = i
    · subst hji; exact hy.wpOp hi hS ⟨fun _ => hS, H⟩
    · have h1 := H.2 j (ready_mono hj hji)
      obtain ⟨hjun, oj, hoj, hall⟩ := mem_ready.1 hj
      have hnot : ∀ e ∈ oj.after, Region.binds md e = true → e.on ≠ i := fun e he hb heq =>
        getD_clash (mem_ready.1 hr).1 (heq ▸ hall e he hb)
      have hjN : j < N := by
        rcases Nat.lt_or_ge j N with h | h
        · exact h
        · exact (getD_clash (mem_ready.1 hr).1 (tail_late ht hc hj h hiN)).elim
      have h2 := wpOp_putIf hoj (hfree j oj hoj hji hjun hnot) (fun cs b => hsel i oi cs b hi) (fun cs b => hsel j oj cs b hoj) hQ hy h1
      have hfree' : ∀ k ok, ops[k]? = some ok → k ≠ i → (listed.setIfInBounds j true).getD k true = false →
          (∀ e ∈ ok.after, Region.binds md e = true → e.on ≠ i) → oi.apart ops ok = true := fun k ok hk hki hun hno => by
        refine hfree k ok hk hki ?_ hno
        by_cases hjk : j = k
        · subst hjk; exact hjun
        · rw [getD_set_ne true hjk] at hun; exact hun
      refine wpOp_mono (fun a' w' h3 => ⟨h3.2.1, ih (listed.setIfInBounds j true) a' w' (closed_set hc hj) hfree' (ready_mono hr (Ne.symm hji)) h3.1 (h3.2.1 hjN) ?_⟩) h2
      rw [Array.setIfInBounds_comm _ _ hji]
      exact h3.2.2

/-- What a region is worth: the list of its operations, who is listed. -/
def closedB (md : Region.Mode) (ops : Array Oper) (listed : Array Bool) : Bool :=
  (List.range ops.size).all fun j => !listed.getD j false || ((ops[j]?).map fun o => o.after.all fun e => !Region.binds md e || listed.getD e.on false).getD true
theorem closed_spec {listed : Array Bool} (h : closedB md ops listed = true) : closedT md ops listed := by
  intro j o ho hj e he hb
  have hjs : j < ops.size := (Array.getElem?_eq_some_iff.1 ho).1
  have h1 := List.all_eq_true.1 h j (List.mem_range.2 hjs)
  simp only [hj, ho, Option.map_some, Option.getD_some, Bool.not_true, Bool.false_or] at h1
  have h2 := (Array.all_eq_true_iff_forall_mem.1 h1) e he
  simp only [hb, Bool.not_true, Bool.false_or] at h2
  exact h2
end

section
variable {P : Program} {md : Region.Mode} {l : List Oper} {Q : Exit → Act → World → Prop} {S : World → Prop} {N : Nat}

/-- A move of the walk: number i is taken first. -/
theorem takeT {i : Nat} {oi : Oper} {v : Value} {fuel : Nat} {listed : Array Bool} {a : Act} {w : World} (hi : l[i]? = some oi)
    (hB : (Region.noSelect l.toArray && Region.free md l.toArray listed i && (Region.ready md l.toArray listed).contains i && tailB md l.toArray N && closedB md l.toArray listed && decide (i < N)) = true)
    (hQ : ∀ c a w, Q (.panic c) (a.put oi.dst v) w → Q (.panic c) a w) (hy : YieldsIf P l.toArray S oi v a) (hS : S w)
    (h : anyT P md l.toArray Q S N fuel (listed.setIfInBounds i true) (a.put oi.dst v) w) : anyT P md l.toArray Q S N (fuel + 1) listed a w := by
  simp only [Bool.and_eq_true, decide_eq_true_eq] at hB
  obtain ⟨⟨⟨⟨⟨hs, hf⟩, hr⟩, ht⟩, hc⟩, hN⟩ := hB
  have hi' : l.toArray[i]? = some oi := by simpa using hi
  exact anyT_first hi' (Region.noSelect_spec hs) hQ hN ht fuel listed a w (closed_spec hc) (Region.free_spec hi' hf) (by simpa using hr) hy hS h

/-- A move: the one operation that may come up. -/
theorem oneT {i : Nat} {oi : Oper} {fuel : Nat} {listed : Array Bool} {a : Act} {w : World} (hi : l[i]? = some oi) (hr : (Region.ready md l.toArray listed == [i]) = true)
    (h : ∀ K : Act → World → Prop, (∀ a w, (i < N → S w) → anyT P md l.toArray Q S N fuel (listed.setIfInBounds i true) a w → K a w) →
      if Region.wanted oi (yielded l.toArray a.tmps) = true then Oper.wp P oi a w K Q else K (a.put oi.dst undef) w) : anyT P md l.toArray Q S N (fuel + 1) listed a w := by
  have hr' := beq_iff_eq.1 hr
  refine ⟨fun h0 => absurd (hr' ▸ h0) (by simp), fun j hj => ?_⟩
  rw [hr'] at hj
  obtain rfl : j = i := by simpa using hj
  exact wpOp_step (by simpa using hi) fun K hK => h K fun a w hS hW => hK a w ⟨hS, hW⟩

theorem doneT {listed : Array Bool} {a : Act} {w : World} (hr : (Region.ready md l.toArray listed == []) = true) (h : Q .normal a w) : ∀ fuel, anyT P md l.toArray Q S N fuel listed a w
  | 0 => ⟨beq_iff_eq.1 hr, h⟩
  | _ + 1 => ⟨fun _ => h, by rw [beq_iff_eq.1 hr]; simp⟩

/-- From here on another promise may be held: all ahead of the tail have been taken. -/
theorem restart_any {S' : World → Prop} {N' : Nat} : ∀ (fuel : Nat) (listed : Array Bool) (a : Act) (w : World), (∀ i, i < N → listed.getD i false = true) → anyT P md l.toArray Q S' N' fuel listed a w → anyT P md l.toArray Q S N fuel listed a w
  | 0, _, _, _, _, h => h
  | fuel + 1, listed, a, w, hall, h => ⟨h.1, fun i hi => wpOp_mono (fun a' w' h' => ⟨fun hlt => (getD_clash (mem_ready.1 hi).1 (hall i hlt)).elim,
      restart_any fuel _ _ _ (fun j hj => getD_set_true (hall j hj)) h'.2⟩) (h.2 i hi)⟩
theorem restartT {fuel : Nat} {listed : Array Bool} {a : Act} {w : World} (S' : World → Prop) (N' : Nat) (hB : ((List.range N).all fun i => listed.getD i false) = true)
    (h : anyT P md l.toArray Q S' N' fuel listed a w) : anyT P md l.toArray Q S N fuel listed a w :=
  restart_any fuel listed a w (fun i hi => List.all_eq_true.1 hB i (List.mem_range.2 hi)) h

/-- The beginning. -/
theorem regionT {id : Nat} {a : Act} {w : World} (S : World → Prop) (N : Nat) (hm : P.follows .mixedOrders = true)
    (h : anyT P .any l.toArray Q S N l.length (Array.replicate l.length false) a w.drew) : (Code.region id l.toArray true).wp P Q a w :=
  wp_region_any hm (any_of_anyT _ _ _ _ (by simpa using h))
end
end Go.Proofs.Ytagcbnpahgfgmaa
