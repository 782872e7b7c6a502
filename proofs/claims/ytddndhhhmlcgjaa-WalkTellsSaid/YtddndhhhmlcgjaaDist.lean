/- What 'awayL' tells: how far. -/
import Derived.Test.YtddndhhhmlcgjaaBfs
namespace Go.Proofs.Ytddndhhhmlcgjaa

/-- far tells how far each vertex is from st. -/
structure IsDist (bs : List (List Nat)) (n st : Nat) (far : List Int) : Prop where
  len : far.length = n
  val : ∀ (v : Nat) (x : Int), far[v]? = some x → x = -1 ∨ (0 ≤ x ∧ x < n)
  st0 : far[st]? = some 0
  zero : ∀ v : Nat, far[v]? = some 0 → v = st
  up : ∀ (v : Nat) (x : Int), far[v]? = some x → 0 < x → ∃ u, v ∈ bs.getD u [] ∧ far[u]? = some (x - 1)
  near : ∀ (u : Nat) (x : Int), far[u]? = some x → 0 ≤ x → ∀ w ∈ bs.getD u [], ∃ y, far[w]? = some y ∧ 0 ≤ y ∧ y ≤ x + 1

structure BI (bs : List (List Nat)) (n st i : Nat) (s : List Int × List Nat) : Prop where
  base : AInv n s
  mem : ∀ (v : Nat) (x : Int), s.1[v]? = some x → 0 ≤ x → v ∈ s.2
  st0 : s.1[st]? = some 0
  zero : ∀ v : Nat, s.1[v]? = some 0 → v = st
  up : ∀ (v : Nat) (x : Int), s.1[v]? = some x → 0 < x → ∃ u, v ∈ bs.getD u [] ∧ s.1[u]? = some (x - 1)
  mono : ∀ (j k u v : Nat) (x y : Int), j ≤ k → s.2[j]? = some u → s.2[k]? = some v → s.1[u]? = some x → s.1[v]? = some y → x ≤ y
  near : ∀ (u v : Nat) (x y : Int), s.2[i]? = some u → v ∈ s.2 → s.1[u]? = some x → s.1[v]? = some y → y ≤ x + 1
  done : ∀ (j u : Nat) (x : Int), j < i → s.2[j]? = some u → s.1[u]? = some x → ∀ w ∈ bs.getD u [], ∃ y, s.1[w]? = some y ∧ 0 ≤ y ∧ y ≤ x + 1

theorem BI.start {bs : List (List Nat)} {n st : Nat} (hst : st < n) : BI bs n st 0 ((List.replicate n (-1)).set st 0, [st]) := by
  have hv : ∀ (v : Nat) (x : Int), ((List.replicate n (-1 : Int)).set st 0)[v]? = some x → (v = st ∧ x = 0) ∨ (x = -1) := by
    intro v x h
    rw [List.getElem?_set] at h
    split at h
    · split at h
      · rename_i h1 _; cases h; exact .inl ⟨h1.symm, rfl⟩
      · cases h
    · rw [List.getElem?_replicate] at h
      split at h
      · cases h; exact .inr rfl
      · cases h
  refine ⟨AInv.start hst, ?_, by simp [hst], ?_, ?_, ?_, ?_, ?_⟩
  · intro v x h h0
    rcases hv v x h with ⟨rfl, _⟩ | h1
    · simp
    · omega
  · intro v h
    rcases hv v 0 h with ⟨rfl, _⟩ | h1
    · rfl
    · omega
  · intro v x h h0
    rcases hv v x h with ⟨_, h1⟩ | h1 <;> omega
  · intro j k u v x y hjk hj hk hx hy
    have h1 := (List.getElem?_eq_some_iff.1 hk).1
    simp at h1
    subst h1
    obtain rfl : j = 0 := by omega
    simp at hj hk
    subst hj; subst hk
    rw [hx] at hy; cases hy; omega
  · intro u v x y hu hv' hx hy
    simp at hu hv'
    subst hu; subst hv'
    rw [hx] at hy; cases hy; omega
  · intro j u x h; omega

/-- one that is beside the one whose turn it is -/
theorem BI.step {bs : List (List Nat)} {n st i : Nat} {s : List Int × List Nat} (h : BI bs n st i s) {u : Nat} {d : Int} {x : Nat} (hu : s.2[i]? = some u) (hd : s.1[u]? = some d) (hd0 : 0 ≤ d) (hx : x ∈ bs.getD u []) (hxn : x < n) :
    BI bs n st i (away1 d s x) ∧ ∃ y, (away1 d s x).1[x]? = some y ∧ 0 ≤ y ∧ y ≤ d + 1 := by
  have hum : u ∈ s.2 := List.mem_of_getElem? hu
  have hdl : d < s.2.length := by rcases h.base.val u d hd with h1 | h1 <;> omega
  have hbase := h.base.step hxn hd0 hdl
  obtain ⟨y, hy⟩ : ∃ y, s.1[x]? = some y := ⟨s.1[x]'(by rw [h.base.lf]; exact hxn), by simp⟩
  have hg : s.1.getD x 0 = y := by simp [List.getD, hy]
  by_cases hneg : y < 0
  · have he : away1 d s x = (s.1.set x (d + 1), s.2 ++ [x]) := by unfold away1; rw [hg, if_pos hneg]
    rw [he] at hbase ⊢
    have hxl : x < s.1.length := by rw [h.base.lf]; exact hxn
    have hnew : (s.1.set x (d + 1))[x]? = some (d + 1) := by simp [hxl]
    have hold : ∀ (v : Nat) (z : Int), (s.1.set x (d + 1))[v]? = some z → (v = x ∧ z = d + 1) ∨ (v ≠ x ∧ s.1[v]? = some z) := by
      intro v z hz
      rw [List.getElem?_set] at hz
      split at hz
      · rename_i e
        subst e
        first
          | (cases hz; exact .inl ⟨rfl, rfl⟩)
          | (rw [if_pos hxl] at hz; cases hz; exact .inl ⟨rfl, rfl⟩)
      · rename_i e; exact .inr ⟨fun e' => e e'.symm, hz⟩
    have hkeep : ∀ (v : Nat) (z : Int), s.1[v]? = some z → 0 ≤ z → (s.1.set x (d + 1))[v]? = some z := by
      intro v z hz h0
      rw [List.getElem?_set]
      split
      · rename_i e; subst e; rw [hy] at hz; cases hz; omega
      · exact hz
    have hxm : x ∉ s.2 := fun hm => by
      obtain ⟨z, hz, h0⟩ := h.base.metF x hm
      rw [hy] at hz; cases hz; omega
    have hnth : ∀ (k v : Nat), (s.2 ++ [x])[k]? = some v → (k < s.2.length ∧ s.2[k]? = some v) ∨ (k = s.2.length ∧ v = x) := by
      intro k v hk
      by_cases hkl : k < s.2.length
      · rw [List.getElem?_append_left hkl] at hk; exact .inl ⟨hkl, hk⟩
      · have h1 := (List.getElem?_eq_some_iff.1 hk).1
        simp at h1
        obtain rfl : k = s.2.length := by omega
        simp at hk
        exact .inr ⟨rfl, hk.symm⟩
    have hilt : i < s.2.length := (List.getElem?_eq_some_iff.1 hu).1
    refine ⟨⟨hbase, ?_, ?_, ?_, ?_, ?_, ?_, ?_⟩, d + 1, hnew, by omega, by omega⟩
    · intro v z hz h0
      rcases hold v z hz with ⟨rfl, _⟩ | ⟨_, h1⟩
      · simp
      · exact List.mem_append_left _ (h.mem v z h1 h0)
    · exact hkeep st 0 h.st0 (by omega)
    · intro v hz
      rcases hold v 0 hz with ⟨_, h1⟩ | ⟨_, h1⟩
      · omega
      · exact h.zero v h1
    · intro v z hz h0
      rcases hold v z hz with ⟨rfl, rfl⟩ | ⟨_, h1⟩
      · exact ⟨u, hx, by rw [show d + 1 - 1 = d by omega]; exact hkeep u d hd hd0⟩
      · obtain ⟨u', h2, h3⟩ := h.up v z h1 h0
        exact ⟨u', h2, hkeep u' (z - 1) h3 (by omega)⟩
    · intro j k p q a b hjk hj hk ha hb
      rcases hnth k q hk with ⟨hkl, hk'⟩ | ⟨hkl, rfl⟩
      · rcases hnth j p hj with ⟨_, hj'⟩ | ⟨h1, _⟩
        · have e1 : p ≠ x := fun e => hxm (e ▸ List.mem_of_getElem? hj')
          have e2 : q ≠ x := fun e => hxm (e ▸ List.mem_of_getElem? hk')
          rcases hold p a ha with ⟨e, _⟩ | ⟨_, ha'⟩
          · exact absurd e e1
          rcases hold q b hb with ⟨e, _⟩ | ⟨_, hb'⟩
          · exact absurd e e2
          exact h.mono j k p q a b hjk hj' hk' ha' hb'
        · omega
      · rcases hold q b hb with ⟨_, rfl⟩ | ⟨e, _⟩
        · rcases hold p a ha with ⟨_, rfl⟩ | ⟨e1, ha'⟩
          · omega
          · rcases hnth j p hj with ⟨_, hj'⟩ | ⟨_, e2⟩
            · exact h.near u p d a hu (List.mem_of_getElem? hj') hd ha'
            · exact absurd e2 e1
        · exact absurd rfl e
    · intro p q a b hp hq ha hb
      rw [List.getElem?_append_left hilt, hu] at hp
      cases hp
      have e1 : u ≠ x := fun e => hxm (e ▸ hum)
      rcases hold u a ha with ⟨e, _⟩ | ⟨_, ha'⟩
      · exact absurd e e1
      rw [hd] at ha'; cases ha'
      rcases hold q b hb with ⟨_, rfl⟩ | ⟨e, hb'⟩
      · omega
      · rcases List.mem_append.1 hq with hq | hq
        · exact h.near u q d b hu hq hd hb'
        · simp at hq; exact absurd hq e
    · intro j p a hj hp ha w hw
      rcases hnth j p hp with ⟨_, hp'⟩ | ⟨h1, _⟩
      · have e1 : p ≠ x := fun e => hxm (e ▸ List.mem_of_getElem? hp')
        rcases hold p a ha with ⟨e, _⟩ | ⟨_, ha'⟩
        · exact absurd e e1
        obtain ⟨z, h2, h3, h4⟩ := h.done j p a hj hp' ha' w hw
        exact ⟨z, hkeep w z h2 h3, h3, h4⟩
      · omega
  · have he : away1 d s x = s := by unfold away1; rw [hg, if_neg hneg]
    rw [he]
    refine ⟨h, y, hy, by omega, ?_⟩
    exact h.near u x d y hu (h.mem x y hy (by omega)) hd hy

theorem BI.fold {bs : List (List Nat)} {n st i u : Nat} {d : Int} (hd0 : 0 ≤ d) (hn : ∀ x ∈ bs.getD u [], x < n) : ∀ (l : List Nat) (s : List Int × List Nat), BI bs n st i s → s.2[i]? = some u → s.1[u]? = some d → (∀ x ∈ l, x ∈ bs.getD u []) →
    (∀ x ∈ bs.getD u [], x ∈ l ∨ ∃ y, s.1[x]? = some y ∧ 0 ≤ y ∧ y ≤ d + 1) →
    BI bs n st i (l.foldl (away1 d) s) ∧ (l.foldl (away1 d) s).2[i]? = some u ∧ (l.foldl (away1 d) s).1[u]? = some d ∧ ∀ x ∈ bs.getD u [], ∃ y, (l.foldl (away1 d) s).1[x]? = some y ∧ 0 ≤ y ∧ y ≤ d + 1 := by
  intro l
  induction l with
  | nil => intro s h hu hd _ hp; exact ⟨h, hu, hd, fun x hx => (hp x hx).resolve_left (by simp)⟩
  | cons x l ih =>
    intro s h hu hd hl hp
    obtain ⟨h1, y, h2, h3, h4⟩ := h.step hu hd hd0 (hl x (by simp)) (hn x (hl x (by simp)))
    refine ih (away1 d s x) h1 (away1_met hu) (away1_keep hd hd0) (fun z hz => hl z (List.mem_cons_of_mem _ hz)) fun z hz => ?_
    rcases hp z hz with h5 | ⟨y', h5, h6, h7⟩
    · rcases List.mem_cons.1 h5 with rfl | h5
      · exact .inr ⟨y, h2, h3, h4⟩
      · exact .inl h5
    · exact .inr ⟨y', away1_keep h5 h6, h6, h7⟩

theorem BI.run {bs : List (List Nat)} {n st : Nat} (hn : ∀ u, u < n → ∀ x ∈ bs.getD u [], x < n) : ∀ (r i : Nat) (s : List Int × List Nat), BI bs n st i s → n + 1 ≤ i + r → i ≤ s.2.length → IsDist bs n st (awayRun bs r i s) := by
  intro r
  induction r with
  | zero => intro i s h hr hi; have := h.base.le; omega
  | succ r ih =>
    intro i s h hr hi
    by_cases hlt : i < s.2.length
    · obtain ⟨u, hu⟩ : ∃ u, s.2[i]? = some u := ⟨s.2[i], by simp⟩
      have hum := List.mem_of_getElem? hu
      obtain ⟨d, hd, hd0⟩ := h.base.metF u hum
      rw [awayRun, hu]
      have hg : s.1.getD u 0 = d := by simp [List.getD, hd]
      simp only [hg]
      obtain ⟨h1, h2, h3, h4⟩ := BI.fold hd0 (hn u (h.base.inM u hum)) (bs.getD u []) s h hu hd (fun x hx => hx) (fun x hx => .inl hx)
      generalize (bs.getD u []).foldl (away1 d) s = s2 at h1 h2 h3 h4 ⊢
      have hl2 : i < s2.2.length := (List.getElem?_eq_some_iff.1 h2).1
      refine ih (i + 1) s2 ⟨h1.base, h1.mem, h1.st0, h1.zero, h1.up, h1.mono, ?_, ?_⟩ (by omega) (by omega)
      · intro p q a b hp hq ha hb
        have e1 := h1.mono i (i + 1) u p d a (by omega) h2 hp h3 ha
        have e2 := h1.near u q d b h2 hq h3 hb
        omega
      · intro j p a hj hp ha
        by_cases hji : j < i
        · exact h1.done j p a hji hp ha
        · obtain rfl : j = i := by omega
          rw [h2] at hp; cases hp
          rw [h3] at ha; cases ha
          exact h4
    · rw [awayRun_end (by omega)]
      refine ⟨h.base.lf, ?_, h.st0, h.zero, h.up, ?_⟩
      · intro v x hx
        rcases h.base.val v x hx with h1 | h1
        · exact .inl h1
        · right; have := h.base.le; omega
      · intro u x hx h0 w hw
        obtain ⟨j, hj, hju⟩ := List.getElem_of_mem (h.mem u x hx h0)
        exact h.done j u x (by omega) (by rw [List.getElem?_eq_getElem hj, hju]) hx w hw

theorem awayL_dist {bs : List (List Nat)} {n st : Nat} (hbl : bs.length = n) (hn : ∀ u, u < n → ∀ x ∈ bs.getD u [], x < n) (hst : st < n) : IsDist bs n st (awayL bs st) := by
  unfold awayL
  rw [hbl]
  exact BI.run hn (n + 1) 0 _ (BI.start hst) (by omega) (by omega)

/-- Two that tell how far tell the same. -/
theorem IsDist.le {bs : List (List Nat)} {n st : Nat} {f g : List Int} (hf : IsDist bs n st f) (hg : IsDist bs n st g) : ∀ (k : Nat) (v : Nat), f[v]? = some (k : Int) → ∃ y, g[v]? = some y ∧ 0 ≤ y ∧ y ≤ k := by
  intro k
  induction k with
  | zero => intro v hv; obtain rfl := hf.zero v hv; exact ⟨0, hg.st0, by omega, by omega⟩
  | succ k ih =>
    intro v hv
    obtain ⟨u, h1, h2⟩ := hf.up v _ hv (by omega)
    obtain ⟨y, h3, h4, h5⟩ := ih u (by rw [h2]; congr 1; omega)
    obtain ⟨z, h6, h7, h8⟩ := hg.near u y h3 h4 v h1
    exact ⟨z, h6, h7, by omega⟩
theorem IsDist.unique {bs : List (List Nat)} {n st : Nat} {f g : List Int} (hf : IsDist bs n st f) (hg : IsDist bs n st g) : f = g := by
  apply List.ext_getElem?
  intro v
  by_cases hv : v < n
  · obtain ⟨x, hx⟩ : ∃ x, f[v]? = some x := ⟨f[v]'(by rw [hf.len]; exact hv), by simp⟩
    obtain ⟨y, hy⟩ : ∃ y, g[v]? = some y := ⟨g[v]'(by rw [hg.len]; exact hv), by simp⟩
    rw [hx, hy]
    congr 1
    have a1 := hf.val v x hx
    have a2 := hg.val v y hy
    have b1 : 0 ≤ x → 0 ≤ y ∧ y ≤ x := fun h => by
      obtain ⟨k, rfl⟩ := Int.eq_ofNat_of_zero_le h
      obtain ⟨z, h1, h2, h3⟩ := hf.le hg k v hx
      rw [hy] at h1; cases h1; exact ⟨h2, h3⟩
    have b2 : 0 ≤ y → 0 ≤ x ∧ x ≤ y := fun h => by
      obtain ⟨k, rfl⟩ := Int.eq_ofNat_of_zero_le h
      obtain ⟨z, h1, h2, h3⟩ := hg.le hf k v hy
      rw [hx] at h1; cases h1; exact ⟨h2, h3⟩
    omega
  · rw [List.getElem?_eq_none (by rw [hf.len]; omega), List.getElem?_eq_none (by rw [hg.len]; omega)]
end Go.Proofs.Ytddndhhhmlcgjaa
