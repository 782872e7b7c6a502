/- A class, closed by a link between the pair, is two-connected. No program in sight. -/
import Derived.Test.YtagjakgbmmbmhaaPaR
namespace Go.Proofs.Ytagjakgbmmbmhaa

theorem vcon_out {ls : List Lk} {wo : List Int} {x y : Int} (h : VCon ls wo x y) (hne : x ≠ y) : y ∉ wo := by
  cases h with
  | refl => exact absurd rfl hne
  | step _c0 h1 h2 h3 h4 =>
    rcases h4 with ⟨_, rfl⟩ | ⟨_, rfl⟩
    · exact h3
    · exact h2
/-- from a vertex of a class one comes, within the class, to one of the pair -/
theorem grp_exit {ls : List Lk} {a b : Int} (hR : RightL ls) {r : List Lk} {i : Nat} (G : GrpAt ls [a, b] r i) {wo : List Int} {u : Int} (hu : u ∉ [a, b]) {e : Lk} (he : e ∈ r) (hue : u = e.1 ∨ u = e.2.1)
    {t0 : Int} (ht0 : t0 ∈ [a, b]) (h : VCon ls wo u t0) : ∃ t, t ∈ [a, b] ∧ VCon r wo u t := by
  have key : ∀ y, VCon ls wo u y → (∃ t, t ∈ [a, b] ∧ VCon r wo u t) ∨ (y ∉ [a, b] ∧ VCon r wo u y ∧ ∃ f ∈ r, y = f.1 ∨ y = f.2.1) := by
    intro y hy
    induction hy with
    | refl => exact .inr ⟨hu, .refl, e, he, hue⟩
    | step _c0 h1 h2 h3 h4 ih =>
      rename_i y z k
      rcases ih with h | ⟨hy, hc, f, hf, hyf⟩
      · exact .inl h
      · have hyk : y = k.1 ∨ y = k.2.1 := by rcases h4 with ⟨e1, _⟩ | ⟨e1, _⟩ <;> first | exact .inl e1 | exact .inr e1
        have hzk : z = k.1 ∨ z = k.2.1 := by rcases h4 with ⟨_, e1⟩ | ⟨_, e1⟩ <;> first | exact .inr e1 | exact .inl e1
        have hk : k ∈ r := by
          obtain ⟨m, hm⟩ := List.getElem?_of_mem h1
          obtain ⟨n, hn, hcn⟩ := (G.mem f).1 hf
          exact (G.mem k).2 ⟨m, hm, Con.step hcn (mem_bsL.2 ⟨f, k, hn, hm, (touchB_iff _ _ _).2 ⟨y, hy, hyf, hyk⟩⟩) (List.getElem?_eq_some_iff.1 hm).1⟩
        have hc2 : VCon r wo u z := hc.step hk h2 h3 h4
        by_cases hz : z ∈ [a, b]
        · exact .inl ⟨z, hz, hc2⟩
        · exact .inr ⟨hz, hc2, k, hk, hzk⟩
  rcases key t0 h with h | ⟨h, _⟩
  · exact h
  · exact absurd ht0 h
def linkAB (a b : Int) : Lk := (a, b, 1048576)
def closedL (r : List Lk) (a b : Int) : List Lk := sortL (r ++ [linkAB a b])
theorem swap_ok {k : Lk} (h : OkL k) : swapL k = k := by
  have := map_swapL (ls := [k]) (by simpa using h)
  simpa using this
theorem mem_closed {r : List Lk} {a b : Int} (hr : ∀ k ∈ r, OkL k) {e : Lk} : e ∈ closedL r a b ↔ e ∈ r ∨ e = swapL (linkAB a b) := by
  unfold closedL
  rw [(sortL_perm _).mem_iff, List.map_append, List.mem_append, map_swapL hr]
  simp
theorem swap_ends (a b c : Int) : (swapL (a, b, c)).1 ∈ [a, b] ∧ (swapL (a, b, c)).2.1 ∈ [a, b] ∧ (a = (swapL (a, b, c)).1 ∨ a = (swapL (a, b, c)).2.1) ∧ (b = (swapL (a, b, c)).1 ∨ b = (swapL (a, b, c)).2.1) := by
  unfold swapL
  split <;> simp
/-- .. it is two-connected -/
theorem closed_two {ls : List Lk} {a b : Int} (h : twoL ls = true) (ha : a ∈ vertsL ls) (hb : b ∈ vertsL ls) (hab : a ≠ b) {r : List Lk} {i : Nat} (G : GrpAt ls [a, b] r i) (hC : rightL (closedL r a b) = true) : twoL (closedL r a b) = true := by
  have hR := two_right h
  have hrR := right_sub hR G.sub
  have hmem := fun e => mem_closed (a := a) (b := b) hrR.2.1 (e := e)
  obtain ⟨s1, s2, s3, s4⟩ := swap_ends a b 1048576
  obtain ⟨f, hf⟩ : ∃ f, f = swapL (linkAB a b) := ⟨_, rfl⟩
  have hfe : f = swapL (a, b, 1048576) := hf
  rw [← hfe] at s1 s2 s3 s4
  have hfm : f ∈ closedL r a b := (hmem f).2 (.inr hf)
  have hne : closedL r a b ≠ [] := fun e => by rw [e] at hfm; simp at hfm
  have hsub : ∀ k ∈ r, k ∈ closedL r a b := fun k hk => (hmem k).2 (.inl hk)
  have hv : ∀ u, u ∈ vertsL (closedL r a b) → u ∈ [a, b] ∨ (u ∉ [a, b] ∧ ∃ e ∈ r, u = e.1 ∨ u = e.2.1) := fun u hu => by
    by_cases hua : u ∈ [a, b]
    · exact .inl hua
    · obtain ⟨e, he, hue⟩ := (mem_vertsL _ u).1 hu
      rcases (hmem e).1 he with he | he
      · exact .inr ⟨hua, e, he, hue⟩
      · rw [← hf] at he
        subst he
        rcases hue with rfl | rfl
        · exact absurd s1 hua
        · exact absurd s2 hua
  have hvl : ∀ u, u ∈ vertsL (closedL r a b) → u ∈ vertsL ls := fun u hu => by
    rcases hv u hu with hu | ⟨_, e, he, hue⟩
    · simp at hu
      rcases hu with rfl | rfl
      · exact ha
      · exact hb
    · exact (mem_vertsL _ u).2 ⟨e, G.sub.subset he, hue⟩
  have h3 : ∀ u, u ∈ vertsL ls → u ∉ [a, b] → 3 ≤ (vertsL ls).length := fun u hu hua => by
    have hl : [a, b, u].Nodup := by simp at hua; simp; exact ⟨⟨hab, fun e => hua.1 e.symm⟩, fun e => hua.2 e.symm⟩
    have := nodup_len_leZ (m := vertsL ls) hl fun x hx => by simp at hx; rcases hx with rfl | rfl | rfl <;> assumption
    simpa using this
  -- each vertex that is left comes to one of the pair that is left
  have hto : ∀ (wo : List Int), wo.length ≤ 1 → (∀ v ∈ wo, v ∈ vertsL ls) → ∀ u, u ∈ vertsL (closedL r a b) → u ∉ wo → ∃ t, t ∈ [a, b] ∧ t ∉ wo ∧ VCon (closedL r a b) wo u t := by
    intro wo hwo hwv u hu huw
    rcases hv u hu with hua | ⟨hua, e, he, hue⟩
    · exact ⟨u, hua, huw, .refl⟩
    · have h3' := h3 u (hvl u hu) hua
      have hex : ∃ t0, t0 ∈ [a, b] ∧ VCon ls wo u t0 := by
        match wo, hwo with
        | [], _ => exact ⟨a, by simp, two_con0 h (hvl u hu) ha⟩
        | [v], _ =>
          have huv : u ≠ v := by simpa using huw
          by_cases hva : v = a
          · subst hva
            exact ⟨b, by simp, two_con1 h h3' ha (hvl u hu) hb huv (fun e => hab e.symm)⟩
          · exact ⟨a, by simp, two_con1 h h3' (hwv v (by simp)) (hvl u hu) ha huv (fun e => hva e.symm)⟩
      obtain ⟨t0, ht0, hc0⟩ := hex
      obtain ⟨t, ht, hc⟩ := grp_exit hR G hua he hue ht0 hc0
      exact ⟨t, ht, vcon_out hc (fun e => hua (by rw [e]; exact ht)), hc.mono hsub⟩
  have hall : ∀ (wo : List Int), wo.length ≤ 1 → (∀ v ∈ wo, v ∈ vertsL ls) → (groupsL (closedL r a b) wo).length = 1 := by
    intro wo hwo hwv
    rw [groups_one_v hC hne hwo]
    intro u v hu hv' huw hvw
    obtain ⟨t, ht, htw, hc⟩ := hto wo hwo hwv u hu huw
    obtain ⟨t', ht', htw', hc'⟩ := hto wo hwo hwv v hv' hvw
    have htt : VCon (closedL r a b) wo t t' := by
      by_cases e : t = t'
      · subst e; exact .refl
      · have hends : (t = f.1 ∧ t' = f.2.1) ∨ (t = f.2.1 ∧ t' = f.1) := by
          simp at ht ht' s1 s2
          rcases ht with rfl | rfl <;> rcases ht' with rfl | rfl
          · exact absurd rfl e
          · rcases s3 with s3 | s3 <;> rcases s4 with s4 | s4
            · exact absurd (s3.trans s4.symm) e
            · exact .inl ⟨s3, s4⟩
            · exact .inr ⟨s3, s4⟩
            · exact absurd (s3.trans s4.symm) e
          · rcases s3 with s3 | s3 <;> rcases s4 with s4 | s4
            · exact absurd (s4.trans s3.symm) e
            · exact .inr ⟨s4, s3⟩
            · exact .inl ⟨s4, s3⟩
            · exact absurd (s4.trans s3.symm) e
          · exact absurd rfl e
        rcases hends with ⟨e1, e2⟩ | ⟨e1, e2⟩
        · exact VCon.refl.step hfm (by rw [← e1]; exact htw) (by rw [← e2]; exact htw') (.inl ⟨e1, e2⟩)
        · exact VCon.refl.step hfm (by rw [← e2]; exact htw') (by rw [← e1]; exact htw) (.inr ⟨e1, e2⟩)
    exact (hc.trans htt).trans hc'.symm
  unfold twoL joinedL
  rw [hall [] (by simp) (by simp)]
  simp only [beq_self_eq_true, Bool.true_and, Bool.or_eq_true, List.all_eq_true, beq_iff_eq]
  exact .inr fun v hv' => hall [v] (by simp) (by simpa using hvl v hv')
theorem grp_share {ls : List Lk} {a b : Int} (hR : RightL ls) {r s : List Lk} {i j : Nat} (G : GrpAt ls [a, b] r i) (H : GrpAt ls [a, b] s j) (hn : ¬ LCon ls [a, b] i j) : ∀ v, v ∈ sharedL (vertsL r) (vertsL s) → v = a ∨ v = b := by
  intro v hv
  obtain ⟨h1, h2⟩ := mem_shared.1 hv
  obtain ⟨e, he, hve⟩ := (mem_vertsL _ v).1 h1
  obtain ⟨f, hf, hvf⟩ := (mem_vertsL _ v).1 h2
  refine Classical.byContradiction fun hno => ?_
  have ht : touchB [a, b] e f = true := (touchB_iff _ _ _).2 ⟨v, by simpa using hno, hve, hvf⟩
  rw [grp_touch hR G H hn he hf] at ht; cases ht
end Go.Proofs.Ytagjakgbmmbmhaa
