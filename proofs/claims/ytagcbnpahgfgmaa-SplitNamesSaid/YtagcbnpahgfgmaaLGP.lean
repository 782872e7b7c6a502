/- Groups of links: each right, no two touch, each hangs together, all of them are the links. No program in sight. -/
import Derived.Test.YtagcbnpahgfgmaaGrpQ
namespace Go.Proofs.Ytagcbnpahgfgmaa

theorem right_nodup {ls : List Lk} (h : RightL ls) : ls.Nodup := h.2.2.imp fun h e => by subst e; exact LtL.irrefl _ h
theorem right_sub {ls r : List Lk} (h : RightL ls) (hs : r.Sublist ls) : RightL r := ⟨Nat.le_trans hs.length_le h.1, fun k hk => h.2.1 k (hs.subset hk), h.2.2.sublist hs⟩
theorem nodup_idx {α : Type} {l : List α} (h : l.Nodup) {i j : Nat} {x : α} (hi : l[i]? = some x) (hj : l[j]? = some x) : i = j := by
  obtain ⟨h1, e1⟩ := List.getElem?_eq_some_iff.1 hi
  obtain ⟨h2, e2⟩ := List.getElem?_eq_some_iff.1 hj
  have hp := List.pairwise_iff_getElem.1 h
  rcases Nat.lt_trichotomy i j with e | e | e
  · exact absurd (e1.trans e2.symm) (hp i j h1 h2 e)
  · exact e
  · exact absurd (e2.trans e1.symm) (hp j i h2 h1 e)
theorem pick_range (ls : List Lk) : ∀ n, n ≤ ls.length → pickL ls (List.range n) = ls.take n := by
  intro n
  induction n with
  | zero => intro _; simp [pickL]
  | succ n ih =>
    intro h
    rw [List.range_succ, pickL_append, ih (by omega), pickL_one (List.getElem?_eq_getElem (by omega)), List.take_succ_eq_append_getElem (by omega)]
theorem pick_sub {ls : List Lk} {p : Nat → Bool} : (pickL ls ((List.range ls.length).filter p)).Sublist ls := by
  have h1 : ((List.range ls.length).filter p).Sublist (List.range ls.length) := List.filter_sublist
  have h2 := h1.filterMap (fun i => ls[i]?)
  have h3 := pick_range ls ls.length (Nat.le_refl _)
  rw [List.take_length] at h3
  unfold pickL at h3 ⊢
  rw [h3] at h2
  exact h2

theorem groups_len_le (ls : List Lk) (wo : List Int) : (groupsL ls wo).length ≤ 1000 := by
  unfold groupsL
  split
  · rename_i h
    rw [List.length_map, gIdx_length]
    have := firsts_length_le (compC ls.length (bsL ls wo)) ls.length
    have := ((rightL_iff ls).1 h).1
    omega
  · simp
/-- r is the group of ls[i0] -/
structure GrpAt (ls : List Lk) (wo : List Int) (r : List Lk) (i0 : Nat) : Prop where
  sub : r.Sublist ls
  lt : i0 < ls.length
  mem : ∀ e, e ∈ r ↔ ∃ j, ls[j]? = some e ∧ LCon ls wo i0 j
theorem LCon.lt_left {ls : List Lk} {wo : List Int} {i j : Nat} (h : LCon ls wo i j) : i < ls.length := Con.left (S := (· < ls.length)) h
theorem LCon.lt_right {ls : List Lk} {wo : List Int} {i j : Nat} (h : LCon ls wo i j) : j < ls.length := Con.right (S := (· < ls.length)) h
theorem LCon.symm {ls : List Lk} {wo : List Int} {i j : Nat} (h : LCon ls wo i j) : LCon ls wo j i := Con.symm (bsL_symm ls wo) h
theorem grp_at {ls : List Lk} {wo : List Int} (hr : rightL ls = true) {p : Nat} {r : List Lk} (h : (groupsL ls wo)[p]? = some r) :
    ∃ i0, (firsts (compC ls.length (bsL ls wo)) ls.length)[p]? = some i0 ∧ GrpAt ls wo r i0 := by
  unfold groupsL at h
  rw [if_pos hr, List.getElem?_map] at h
  unfold gIdx at h
  rw [List.getElem?_map] at h
  cases hf : (firsts (compC ls.length (bsL ls wo)) ls.length)[p]? with
  | none => rw [hf] at h; cases h
  | some i0 =>
    rw [hf] at h
    simp only [Option.map_some, Option.some.injEq] at h
    have hi := (mem_firsts.1 (List.mem_of_getElem? hf)).1
    refine ⟨i0, rfl, by rw [← h]; exact pick_sub, hi, fun e => ?_⟩
    rw [← h]
    unfold pickL
    rw [List.mem_filterMap]
    constructor
    · rintro ⟨j, hj, he⟩
      rw [mem_ofCol] at hj
      exact ⟨j, he, LCon.symm (ls := ls) (wo := wo) ((compC_eq (bsL_symm ls wo) hj.1 hi).1 hj.2)⟩
    · rintro ⟨j, he, hc⟩
      exact ⟨j, mem_ofCol.2 ⟨hc.lt_right, (compC_eq (bsL_symm ls wo) hc.lt_right hi).2 (LCon.symm hc)⟩, he⟩
theorem grp_differ {ls : List Lk} {wo : List Int} {p q i j : Nat} (hi : (firsts (compC ls.length (bsL ls wo)) ls.length)[p]? = some i) (hj : (firsts (compC ls.length (bsL ls wo)) ls.length)[q]? = some j) (hne : p ≠ q) : ¬ LCon ls wo i j := fun hc => by
  have h1 := List.mem_of_getElem? hi
  have h2 := List.mem_of_getElem? hj
  have he := (compC_eq (bsL_symm ls wo) hc.lt_left hc.lt_right).2 hc
  have := firsts_inj h1 h2 he
  subst this
  exact hne (nodup_idx (firsts_nodup _ _) hi hj)
theorem GrpAt.self {ls : List Lk} {wo : List Int} {r : List Lk} {i0 : Nat} (G : GrpAt ls wo r i0) : ls[i0]'G.lt ∈ r := (G.mem _).2 ⟨i0, List.getElem?_eq_getElem G.lt, .refl G.lt⟩
theorem GrpAt.con {ls : List Lk} {wo : List Int} {r : List Lk} {i0 : Nat} (hR : RightL ls) (G : GrpAt ls wo r i0) {j : Nat} {e : Lk} (hj : ls[j]? = some e) : e ∈ r ↔ LCon ls wo i0 j := by
  rw [G.mem]
  constructor
  · rintro ⟨k, hk, hc⟩
    rw [nodup_idx (right_nodup hR) hj hk]; exact hc
  · exact fun hc => ⟨j, hj, hc⟩
/-- within a group, what is closed and has the first one has all -/
theorem grp_spread {ls : List Lk} {wo : List Int} {r : List Lk} {i0 : Nat} (hR : RightL ls) (G : GrpAt ls wo r i0) (D : Nat → Prop) (h0 : D 0)
    (hs : ∀ m n x y, r[m]? = some x → r[n]? = some y → D m → touchB wo x y = true → D n) : ∀ n, n < r.length → D n := by
  intro n hn
  have hl : 0 < r.length := by omega
  have hrR := right_sub hR G.sub
  obtain ⟨j0, hj0, hc0⟩ := (G.mem r[0]).1 (List.getElem_mem hl)
  obtain ⟨jn, hjn, hcn⟩ := (G.mem r[n]).1 (List.getElem_mem hn)
  have hq : LCon ls wo j0 jn := Con.trans hc0.symm hcn
  have := Con.closed (fun j => ∃ m x, r[m]? = some x ∧ ls[j]? = some x ∧ D m) (fun a b ⟨m, x, hm, hx, hd⟩ hab hb => by
    obtain ⟨x', y, hx', hy, ht⟩ := mem_bsL.1 hab
    rw [hx] at hx'; cases hx'
    have hca : LCon ls wo i0 a := (G.con hR hx).1 (List.mem_of_getElem? hm)
    have hcb : LCon ls wo i0 b := Con.step hca hab hb
    obtain ⟨m', hm'⟩ := List.getElem?_of_mem ((G.con hR hy).2 hcb)
    exact ⟨m', y, hm', hy, hs m m' x y hm hm' hd ht⟩) ⟨0, r[0], List.getElem?_eq_getElem hl, hj0, h0⟩ hq
  obtain ⟨m, x, hm, hx, hd⟩ := this
  rw [hjn] at hx
  have : m = n := nodup_idx (right_nodup hrR) hm (by rw [List.getElem?_eq_getElem hn]; exact hx)
  subst this
  exact hd
theorem grp_touch {ls : List Lk} {wo : List Int} {r s : List Lk} {i j : Nat} (hR : RightL ls) (G : GrpAt ls wo r i) (H : GrpAt ls wo s j) (hn : ¬ LCon ls wo i j) {e f : Lk} (he : e ∈ r) (hf : f ∈ s) : touchB wo e f = false := by
  cases ht : touchB wo e f with
  | false => rfl
  | true =>
    obtain ⟨a, ha, hca⟩ := (G.mem e).1 he
    obtain ⟨b, hb, hcb⟩ := (H.mem f).1 hf
    exact absurd (Con.trans (Con.step hca (mem_bsL.2 ⟨e, f, ha, hb, ht⟩) hcb.lt_right) hcb.symm) hn
theorem grp_all {ls : List Lk} {wo : List Int} (hR : RightL ls) {j : Nat} {e : Lk} (hj : ls[j]? = some e) : ∃ (p : Nat) (r : List Lk), (groupsL ls wo)[p]? = some r ∧ e ∈ r := by
  have hr := (rightL_iff ls).2 hR
  have hjl := (List.getElem?_eq_some_iff.1 hj).1
  have hex : ∀ j, j < ls.length → ∃ i ∈ firsts (compC ls.length (bsL ls wo)) ls.length, compC ls.length (bsL ls wo) i = compC ls.length (bsL ls wo) j := by
    intro j
    induction j using Nat.strongRecOn with
    | _ j ih =>
      intro hj
      by_cases h : ∀ k, k < j → compC ls.length (bsL ls wo) k ≠ compC ls.length (bsL ls wo) j
      · exact ⟨j, mem_firsts.2 ⟨hj, h⟩, rfl⟩
      · simp only [Classical.not_forall, Decidable.not_not] at h
        obtain ⟨k, hk, e⟩ := h
        obtain ⟨i, hi, e2⟩ := ih k hk (by omega)
        exact ⟨i, hi, e2.trans e⟩
  obtain ⟨i, hi, e2⟩ := hex j hjl
  obtain ⟨p, hp⟩ := List.getElem?_of_mem hi
  have hpg : (groupsL ls wo)[p]? = some (pickL ls (ofCol (compC ls.length (bsL ls wo)) ls.length (compC ls.length (bsL ls wo) i))) := by
    unfold groupsL
    rw [if_pos hr, List.getElem?_map, gIdx_get _ _ _ _ hp]; rfl
  refine ⟨p, _, hpg, ?_⟩
  unfold pickL
  exact List.mem_filterMap.2 ⟨j, mem_ofCol.2 ⟨hjl, e2.symm⟩, hj⟩
theorem grp_perm {ls : List Lk} {wo : List Int} (hR : RightL ls) : (groupsL ls wo).flatten.Perm ls := by
  have hr := (rightL_iff ls).2 hR
  refine (List.perm_ext_iff_of_nodup ?_ (right_nodup hR)).2 fun e => ?_
  · unfold List.Nodup
    rw [List.pairwise_flatten]
    refine ⟨fun r hm => ?_, ?_⟩
    · obtain ⟨p, hp⟩ := List.getElem?_of_mem hm
      obtain ⟨i, _, G⟩ := grp_at hr hp
      exact right_nodup (right_sub hR G.sub)
    · rw [List.pairwise_iff_getElem]
      intro p q hp hq hlt x hx y hy e
      subst e
      obtain ⟨i, hi, G⟩ := grp_at hr (List.getElem?_eq_getElem hp)
      obtain ⟨j, hj, H⟩ := grp_at hr (List.getElem?_eq_getElem hq)
      obtain ⟨a, ha, hca⟩ := (G.mem x).1 hx
      exact grp_differ hi hj (by omega) (Con.trans hca ((H.con hR ha).1 hy).symm)
  · constructor
    · intro he
      obtain ⟨r, hm, he⟩ := List.mem_flatten.1 he
      obtain ⟨p, hp⟩ := List.getElem?_of_mem hm
      obtain ⟨i, _, G⟩ := grp_at hr hp
      exact G.sub.subset he
    · intro he
      obtain ⟨j, hj⟩ := List.getElem?_of_mem he
      obtain ⟨p, r, hp, her⟩ := grp_all (wo := wo) hR hj
      exact List.mem_flatten.2 ⟨r, List.mem_of_getElem? hp, her⟩

/-! ### the law's own search within a group -/
def fals (c : Nat → Bool) (n : Nat) : Nat := ((List.range n).filter fun j => !c j).length
theorem fals_succ (c : Nat → Bool) (n : Nat) : fals c (n + 1) = fals c n + if c n = false then 1 else 0 := by
  unfold fals
  rw [List.range_succ, List.filter_append, List.length_append]
  congr 1
  cases h : c n <;> simp [h]
theorem fals_le (c : Nat → Bool) (n : Nat) : fals c n ≤ n := by
  unfold fals
  have := List.length_filter_le (fun j => !c j) (List.range n)
  simpa using this
theorem fals_same {c d : Nat → Bool} {n : Nat} (h : ∀ j, j < n → c j = d j) : fals c n = fals d n := by
  unfold fals
  congr 1
  refine List.filter_congr fun a ha => ?_
  rw [List.mem_range] at ha
  rw [h a ha]
theorem fals_upd {c : Nat → Bool} {n b : Nat} (hb : b < n) (hc : c b = false) : fals (upd c b true) n + 1 = fals c n := by
  induction n with
  | zero => omega
  | succ n ih =>
    rw [fals_succ, fals_succ]
    by_cases e : b = n
    · subst e
      rw [fals_same (c := upd c b true) (d := c) (fun j hj => by simp [upd, show j ≠ b by omega])]
      simp [upd, hc]
    · have := ih (by omega)
      simp only [upd, show n ≠ b from fun x => e x.symm, if_false]
      unfold upd at this
      omega
def NoTr (r : List Lk) (wo : List Int) (c : Nat → Bool) (m k : Nat) : Prop := ∀ x y, r[m]? = some x → r[k]? = some y → c m = true → touchB wo x y = true → c k = true
def ClosedC (r : List Lk) (wo : List Int) (c : Nat → Bool) : Prop := ∀ m k, m < r.length → k < r.length → NoTr r wo c m k
structure PassC (r : List Lk) (wo : List Int) (cS c : Nat → Bool) (x y : Nat) : Prop where
  or : fals c r.length < fals cS r.length ∨ (c = cS ∧ (∀ p q, p < x → q < r.length → NoTr r wo cS p q) ∧ ∀ q, q < y → NoTr r wo cS x q)
  shut : ClosedC r wo cS → c = cS
  zero : cS 0 = true → c 0 = true
theorem PassC.start {r : List Lk} {wo : List Int} {cS : Nat → Bool} : PassC r wo cS cS 0 0 := ⟨.inr ⟨rfl, fun _ _ h => absurd h (by omega), fun _ h => absurd h (by omega)⟩, fun _ => rfl, id⟩
theorem PassC.row {r : List Lk} {wo : List Int} {cS c : Nat → Bool} {x : Nat} (h : PassC r wo cS c x r.length) : PassC r wo cS c (x + 1) 0 where
  or := h.or.imp id fun ⟨h1, h2, h3⟩ => ⟨h1, fun p q hp hq => by
    by_cases e : p < x
    · exact h2 p q e hq
    · obtain rfl : p = x := by omega
      exact h3 q hq, fun q hq => absurd hq (by omega)⟩
  shut := h.shut
  zero := h.zero
theorem PassC.step {r : List Lk} {wo : List Int} {cS c : Nat → Bool} {x y : Nat} {e f : Lk} (h : PassC r wo cS c x y) (hx : r[x]? = some e) (hy : r[y]? = some f) : PassC r wo cS (upd c y (c y || (c x && touchB wo e f))) x (y + 1) := by
  have hyl := (List.getElem?_eq_some_iff.1 hy).1
  have hxl := (List.getElem?_eq_some_iff.1 hx).1
  by_cases ht : c y = false ∧ c x = true ∧ touchB wo e f = true
  · obtain ⟨h1, h2, h3⟩ := ht
    have hv : (c y || (c x && touchB wo e f)) = true := by rw [h2, h3]; simp
    rw [hv]
    have hf := fals_upd hyl h1
    refine ⟨.inl ?_, fun hcl => ?_, fun h0 => ?_⟩
    · rcases h.or with h4 | ⟨h4, _⟩
      · omega
      · rw [h4] at hf; rw [h4]; omega
    · have h4 := h.shut hcl
      have := hcl x y hxl hyl e f hx hy (by rw [← h4]; exact h2) h3
      rw [← h4, h1] at this; cases this
    · unfold upd; split
      · rfl
      · exact h.zero h0
  · have hv : (c y || (c x && touchB wo e f)) = c y := by
      cases h1 : c y with
      | true => rfl
      | false =>
        cases h2 : c x with
        | false => rfl
        | true =>
          cases h3 : touchB wo e f with
          | false => rfl
          | true => exact absurd ⟨h1, h2, h3⟩ ht
    have hu : upd c y (c y || (c x && touchB wo e f)) = c := by
      rw [hv]; funext j; unfold upd; split
      · rename_i h; rw [h]
      · rfl
    rw [hu]
    refine ⟨h.or.imp id fun ⟨h4, h5, h6⟩ => ⟨h4, h5, fun q hq => ?_⟩, h.shut, h.zero⟩
    by_cases e1 : q < y
    · exact h6 q e1
    · obtain rfl : q = y := by omega
      intro e' f' he' hf' hc htt
      rw [hx] at he'; rw [hy] at hf'
      cases he'; cases hf'
      rw [← h4] at hc ⊢
      cases h7 : c q with
      | true => rfl
      | false => exact absurd ⟨h7, hc, htt⟩ ht
/-- so many passes on -/
def ComeOk (r : List Lk) (wo : List Int) (c : Nat → Bool) (p : Nat) : Prop := c 0 = true ∧ (ClosedC r wo c ∨ fals c r.length + p + 1 ≤ r.length)
theorem ComeOk.start {r : List Lk} {wo : List Int} (h : 0 < r.length) : ComeOk r wo (upd (fun _ => false) 0 true) 0 := by
  refine ⟨by simp [upd], .inr ?_⟩
  have := fals_upd (c := fun _ => false) h rfl
  have := fals_le (fun _ => false) r.length
  omega
theorem ComeOk.pass {r : List Lk} {wo : List Int} {cS c : Nat → Bool} {p : Nat} (h : ComeOk r wo cS p) (hp : PassC r wo cS c r.length 0) : ComeOk r wo c (p + 1) := by
  refine ⟨hp.zero h.1, ?_⟩
  rcases h.2 with h1 | h1
  · left; rw [hp.shut h1]; exact h1
  · rcases hp.or with h2 | ⟨h2, h3, _⟩
    · right; omega
    · left; rw [h2]; exact fun m k hm hk => h3 m k hm hk
theorem ComeOk.all {ls r : List Lk} {wo : List Int} {c : Nat → Bool} {i0 : Nat} (hR : RightL ls) (G : GrpAt ls wo r i0) (h : ComeOk r wo c r.length) : ∀ n, n < r.length → c n = true := by
  have hc : ClosedC r wo c := h.2.resolve_right (by omega)
  exact grp_spread hR G (fun n => c n = true) h.1 fun m n x y hm hn hd ht => hc m n (List.getElem?_eq_some_iff.1 hm).1 (List.getElem?_eq_some_iff.1 hn).1 x y hm hn hd ht
end Go.Proofs.Ytagcbnpahgfgmaa
