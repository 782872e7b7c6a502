/- Putting one into its place from behind. No program in sight. -/
import Derived.Test.YtagjakgbmmbmhaaLkP
namespace Go.Proofs.Ytagjakgbmmbmhaa
section
variable {α : Type}
/-- what stands when those from k on have moved up by one -/
def shiftS (out : List α) (x : α) (k : Nat) : List α := (out ++ [x]).take (k + 1) ++ out.drop k
theorem shiftS_length (out : List α) (x : α) (k : Nat) (h : k ≤ out.length) : (shiftS out x k).length = out.length + 1 := by
  unfold shiftS; rw [List.length_append, List.length_take, List.length_append, List.length_drop]; simp; omega
theorem shiftS_full (out : List α) (x : α) : shiftS out x out.length = out ++ [x] := by
  unfold shiftS
  rw [List.drop_length, List.append_nil, List.take_of_length_le (by simp)]
theorem shiftS_prev (out : List α) (x : α) (k : Nat) (h : k < out.length) : (shiftS out x (k + 1))[k]? = some out[k] := by
  unfold shiftS
  rw [List.getElem?_append_left (by simp; omega), List.getElem?_take_of_lt (by omega), List.getElem?_append_left h, List.getElem?_eq_getElem h]
theorem shiftS_step (out : List α) (x : α) (k : Nat) (h : k < out.length) : (shiftS out x (k + 1)).set (k + 1) out[k] = shiftS out x k := by
  unfold shiftS
  have h1 : (out ++ [x]).take (k + 1 + 1) = (out ++ [x]).take (k + 1) ++ [(out ++ [x])[k + 1]'(by simp; omega)] := List.take_succ_eq_append_getElem (by simp; omega)
  have hl : ((out ++ [x]).take (k + 1)).length = k + 1 := by simp; omega
  rw [h1, List.append_assoc, List.set_append_right _ _ (by omega), hl, Nat.sub_self]
  congr 1
  rw [List.drop_eq_getElem_cons h]
  rfl
theorem shiftS_end (out : List α) (x : α) (k : Nat) (h : k ≤ out.length) : (shiftS out x k).set k x = out.take k ++ x :: out.drop k := by
  unfold shiftS
  have h1 : (out ++ [x]).take (k + 1) = (out ++ [x]).take k ++ [(out ++ [x])[k]'(by simp; omega)] := List.take_succ_eq_append_getElem (by simp; omega)
  have hl : ((out ++ [x]).take k).length = k := by simp; omega
  have h2 : (out ++ [x]).take k = out.take k := by rw [List.take_append_of_le_length h]
  rw [h1, List.append_assoc, List.set_append_right _ _ (by omega), hl, Nat.sub_self, h2]
  rfl
end
/-- a link is put behind the last one that is not behind it -/
theorem putL_sorted {out : List Lk} (hs : out.Pairwise LeL) {x : Lk} {k : Nat} (hk : k ≤ out.length) (h1 : ∀ j (h : j < out.length), k ≤ j → LtL x out[j]) (h2 : k = 0 ∨ ∀ h : k - 1 < out.length, ¬ LtL x out[k-1]) : (out.take k ++ x :: out.drop k).Pairwise LeL := by
  have hp := List.pairwise_iff_getElem.1 hs
  have hlow : ∀ a ∈ out.take k, LeL a x := fun a ha => by
    obtain ⟨i, hi, rfl⟩ := List.getElem_of_mem ha
    rw [List.length_take] at hi
    rw [List.getElem_take]
    rcases h2 with e | h2
    · omega
    · have h3 : LeL out[k-1] x := h2 (by omega)
      by_cases e : i = k - 1
      · subst e; exact h3
      · exact (hp i (k - 1) (by omega) (by omega) (by omega)).trans h3
  have hhigh : ∀ b ∈ out.drop k, LeL x b := fun b hb => by
    obtain ⟨i, hi, rfl⟩ := List.getElem_of_mem hb
    rw [List.length_drop] at hi
    rw [List.getElem_drop]
    exact (h1 (k + i) (by omega) (by omega)).asymm
  have hall : (out.take k ++ out.drop k).Pairwise LeL := by rw [List.take_append_drop]; exact hs
  obtain ⟨p1, p2, p3⟩ := List.pairwise_append.1 hall
  rw [List.pairwise_append, List.pairwise_cons]
  refine ⟨p1, ⟨hhigh, p2⟩, fun a ha b hb => ?_⟩
  rcases List.mem_cons.1 hb with rfl | hb
  · exact hlow a ha
  · exact p3 a ha b hb
theorem putL_perm (out : List Lk) (x : Lk) (k : Nat) : (out.take k ++ x :: out.drop k).Perm (out ++ [x]) := by
  refine List.perm_middle.trans ?_
  rw [List.take_append_drop]
  exact (List.perm_append_singleton x out).symm
theorem putV_sorted {out : List Int} (hs : out.Pairwise (· < ·)) {x : Int} {k : Nat} (hk : k ≤ out.length) (h1 : ∀ j (h : j < out.length), k ≤ j → x < out[j]) (h2 : k = 0 ∨ ∀ h : k - 1 < out.length, ¬ x < out[k-1]) (hx : x ∉ out) : (out.take k ++ x :: out.drop k).Pairwise (· < ·) := by
  have hp := List.pairwise_iff_getElem.1 hs
  have hlow : ∀ a ∈ out.take k, a < x := fun a ha => by
    obtain ⟨i, hi, rfl⟩ := List.getElem_of_mem ha
    rw [List.length_take] at hi
    rw [List.getElem_take]
    rcases h2 with e | h2
    · omega
    · have h3 := h2 (by omega)
      have h4 : out[k-1] ≠ x := fun e => hx (by rw [← e]; exact List.getElem_mem _)
      by_cases e : i = k - 1
      · subst e; omega
      · have := hp i (k - 1) (by omega) (by omega) (by omega); omega
  have hhigh : ∀ b ∈ out.drop k, x < b := fun b hb => by
    obtain ⟨i, hi, rfl⟩ := List.getElem_of_mem hb
    rw [List.length_drop] at hi
    rw [List.getElem_drop]
    exact h1 (k + i) (by omega) (by omega)
  have hall : (out.take k ++ out.drop k).Pairwise (· < ·) := by rw [List.take_append_drop]; exact hs
  obtain ⟨p1, p2, p3⟩ := List.pairwise_append.1 hall
  rw [List.pairwise_append, List.pairwise_cons]
  refine ⟨p1, ⟨hhigh, p2⟩, fun a ha b hb => ?_⟩
  rcases List.mem_cons.1 hb with rfl | hb
  · exact hlow a ha
  · exact p3 a ha b hb
theorem putV_mem (out : List Int) (x z : Int) (k : Nat) : z ∈ out.take k ++ x :: out.drop k ↔ z ∈ out ∨ z = x := by
  have : z ∈ out ↔ z ∈ out.take k ++ out.drop k := by rw [List.take_append_drop]
  rw [this]
  simp only [List.mem_append, List.mem_cons]
  constructor
  · rintro (h | h | h)
    · exact .inl (.inl h)
    · exact .inr h
    · exact .inl (.inr h)
  · rintro ((h | h) | h)
    · exact .inl h
    · exact .inr (.inr h)
    · exact .inr (.inl h)
end Go.Proofs.Ytagjakgbmmbmhaa
