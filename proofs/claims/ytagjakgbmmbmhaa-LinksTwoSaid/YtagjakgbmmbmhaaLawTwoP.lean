/- Vertices that are come to without one: as the law LinksTwo reckons. No program in sight. -/
import Derived.Test.YtagjakgbmmbmhaaTwoP
namespace Go.Proofs.Ytagjakgbmmbmhaa

def addV (L : List Int) (x : Int) : List Int := if x ∈ L then L else L ++ [x]
def useB (g : Int) (L : List Int) (e : Lk) : Bool := decide (e.1 ≠ g) && decide (e.2.1 ≠ g) && (decide (e.1 ∈ L) || decide (e.2.1 ∈ L))
def stepV (g : Int) (L : List Int) (e : Lk) : List Int := if useB g L e then addV (addV L e.1) e.2.1 else L
def passV (g : Int) (ls : List Lk) (L : List Int) : List Int := ls.foldl (stepV g) L
def passN (g : Int) (ls : List Lk) (L : List Int) : Nat → List Int
  | 0 => L
  | k + 1 => passV g ls (passN g ls L k)
theorem mem_addV {L : List Int} {x z : Int} : z ∈ addV L x ↔ z ∈ L ∨ z = x := by
  unfold addV
  split
  · rename_i h
    constructor
    · exact .inl
    · rintro (h1 | rfl)
      · exact h1
      · exact h
  · simp
theorem addV_nodup {L : List Int} (h : L.Nodup) (x : Int) : (addV L x).Nodup := by
  unfold addV
  split
  · exact h
  · rename_i hx
    rw [List.nodup_append]
    exact ⟨h, by simp, fun a ha b hb e => by simp at hb; subst hb; subst e; exact hx ha⟩
theorem addV_len (L : List Int) (x : Int) : (addV L x).length ≤ L.length + 1 := by unfold addV; split <;> simp
theorem useB_iff {g : Int} {L : List Int} {e : Lk} : useB g L e = true ↔ e.1 ≠ g ∧ e.2.1 ≠ g ∧ (e.1 ∈ L ∨ e.2.1 ∈ L) := by simp [useB, and_assoc]
theorem stepV_sub {g : Int} {L : List Int} {e : Lk} {z : Int} (h : z ∈ L) : z ∈ stepV g L e := by
  unfold stepV
  split
  · exact mem_addV.2 (.inl (mem_addV.2 (.inl h)))
  · exact h
theorem stepV_nodup {g : Int} {L : List Int} (h : L.Nodup) (e : Lk) : (stepV g L e).Nodup := by
  unfold stepV
  split
  · exact addV_nodup (addV_nodup h _) _
  · exact h
theorem passV_sub {g : Int} (ls : List Lk) {L : List Int} {z : Int} (h : z ∈ L) : z ∈ passV g ls L := by
  unfold passV
  induction ls generalizing L with
  | nil => exact h
  | cons e r ih => exact ih (stepV_sub h)
theorem passV_nodup {g : Int} (ls : List Lk) {L : List Int} (h : L.Nodup) : (passV g ls L).Nodup := by
  unfold passV
  induction ls generalizing L with
  | nil => exact h
  | cons e r ih => exact ih (stepV_nodup h e)
theorem passV_sound {g s : Int} {all : List Lk} (ls : List Lk) (hls : ∀ e ∈ ls, e ∈ all) {L : List Int} (h : ∀ x ∈ L, VCon all [g] s x) : ∀ x ∈ passV g ls L, VCon all [g] s x := by
  unfold passV
  induction ls generalizing L with
  | nil => exact h
  | cons e r ih =>
    refine ih (fun a ha => hls a (by simp [ha])) fun x hx => ?_
    unfold stepV at hx
    split at hx
    · rename_i hu
      obtain ⟨u1, u2, u3⟩ := useB_iff.1 hu
      have he := hls e (by simp)
      have n1 : e.1 ∉ [g] := by simpa using u1
      have n2 : e.2.1 ∉ [g] := by simpa using u2
      have both : VCon all [g] s e.1 ∧ VCon all [g] s e.2.1 := by
        rcases u3 with u3 | u3
        · exact ⟨h _ u3, (h _ u3).trans (VCon.link he n1 n2)⟩
        · exact ⟨(h _ u3).trans (VCon.link he n1 n2).symm, h _ u3⟩
      rcases mem_addV.1 hx with hx | rfl
      · rcases mem_addV.1 hx with hx | rfl
        · exact h x hx
        · exact both.1
      · exact both.2
    · exact h x hx
theorem passV_cover {g : Int} (ls : List Lk) {L : List Int} {e : Lk} (he : e ∈ ls) (hu : useB g L e = true) : e.1 ∈ passV g ls L ∧ e.2.1 ∈ passV g ls L := by
  unfold passV
  induction ls generalizing L with
  | nil => simp at he
  | cons a r ih =>
    rw [List.foldl_cons]
    rcases List.mem_cons.1 he with rfl | he
    · have h1 : stepV g L e = addV (addV L e.1) e.2.1 := by unfold stepV; rw [if_pos hu]
      have m1 : e.1 ∈ stepV g L e := by rw [h1]; exact mem_addV.2 (.inl (mem_addV.2 (.inr rfl)))
      have m2 : e.2.1 ∈ stepV g L e := by rw [h1]; exact mem_addV.2 (.inr rfl)
      exact ⟨passV_sub r m1, passV_sub r m2⟩
    · refine ih he ?_
      rw [useB_iff] at hu ⊢
      exact ⟨hu.1, hu.2.1, hu.2.2.imp stepV_sub stepV_sub⟩
def ClosedV (g : Int) (ls : List Lk) (L : List Int) : Prop := ∀ e ∈ ls, useB g L e = true → e.1 ∈ L ∧ e.2.1 ∈ L
theorem stepV_closed {g : Int} {L : List Int} {e : Lk} (h : useB g L e = true → e.1 ∈ L ∧ e.2.1 ∈ L) : stepV g L e = L := by
  unfold stepV
  split
  · rename_i hu
    obtain ⟨h1, h2⟩ := h hu
    have e1 : addV L e.1 = L := by unfold addV; rw [if_pos h1]
    rw [e1]; unfold addV; rw [if_pos h2]
  · rfl
theorem passV_closed {g : Int} {ls : List Lk} {L : List Int} (h : ClosedV g ls L) : passV g ls L = L := by
  unfold passV
  induction ls with
  | nil => rfl
  | cons a r ih =>
    rw [List.foldl_cons, stepV_closed (h a (by simp))]
    exact ih fun e he => h e (by simp [he])
theorem passV_grows {g : Int} {ls : List Lk} {L : List Int} (hn : L.Nodup) (h : ¬ ClosedV g ls L) : L.length + 1 ≤ (passV g ls L).length := by
  have : ∃ e ∈ ls, useB g L e = true ∧ ¬ (e.1 ∈ L ∧ e.2.1 ∈ L) := Classical.byContradiction fun hno => h fun e he hu => Classical.byContradiction fun hb => hno ⟨e, he, hu, hb⟩
  obtain ⟨e, he, hu, hb⟩ := this
  obtain ⟨c1, c2⟩ := passV_cover ls he hu
  obtain ⟨x, hx, hxL⟩ : ∃ x, x ∈ passV g ls L ∧ x ∉ L := by
    by_cases h1 : e.1 ∈ L
    · exact ⟨_, c2, fun h2 => hb ⟨h1, h2⟩⟩
    · exact ⟨_, c1, h1⟩
  have := nodup_len_leZ (l := x :: L) (m := passV g ls L) (List.nodup_cons.2 ⟨hxL, hn⟩) fun z hz => by
    rcases List.mem_cons.1 hz with rfl | hz
    · exact hx
    · exact passV_sub ls hz
  simpa using this
theorem passN_nodup {g s : Int} {ls : List Lk} (k : Nat) : (passN g ls [s] k).Nodup := by
  induction k with
  | zero => simp [passN]
  | succ k ih => exact passV_nodup ls ih
theorem passN_sound {g s : Int} {ls : List Lk} (k : Nat) : ∀ x ∈ passN g ls [s] k, VCon ls [g] s x := by
  induction k with
  | zero => intro x hx; simp [passN] at hx; subst hx; exact .refl
  | succ k ih => exact passV_sound ls (fun _ h => h) ih
theorem passN_self {g s : Int} {ls : List Lk} (k : Nat) : s ∈ passN g ls [s] k := by
  induction k with
  | zero => simp [passN]
  | succ k ih => exact passV_sub ls ih
theorem passN_full {g s : Int} {ls : List Lk} (k : Nat) : ClosedV g ls (passN g ls [s] k) ∨ k + 1 ≤ (passN g ls [s] k).length := by
  induction k with
  | zero => right; simp [passN]
  | succ k ih =>
    by_cases hc : ClosedV g ls (passN g ls [s] k)
    · left
      have : passN g ls [s] (k + 1) = passN g ls [s] k := passV_closed hc
      rw [this]; exact hc
    · right
      have h1 := ih.resolve_left hc
      have h2 := passV_grows (passN_nodup k) hc
      show _ ≤ (passV g ls (passN g ls [s] k)).length
      omega
theorem vcon_in {g s : Int} {ls : List Lk} {x : Int} (hs : s ∈ vertsL ls) (hsg : s ≠ g) (h : VCon ls [g] s x) : x ∈ vertsL ls ∧ x ≠ g := by
  induction h with
  | refl => exact ⟨hs, hsg⟩
  | step _c0 m1 m2 m3 m4 ih =>
    rcases m4 with ⟨_, rfl⟩ | ⟨_, rfl⟩
    · exact ⟨(mem_vertsL ls _).2 ⟨_, m1, .inr rfl⟩, by simpa using m3⟩
    · exact ⟨(mem_vertsL ls _).2 ⟨_, m1, .inl rfl⟩, by simpa using m2⟩
theorem passN_lt {g s : Int} {ls : List Lk} (hg : g ∈ vertsL ls) (hs : s ∈ vertsL ls) (hsg : s ≠ g) (k : Nat) : (passN g ls [s] k).length + 1 ≤ (vertsL ls).length := by
  have hin : ∀ x ∈ passN g ls [s] k, x ∈ vertsL ls ∧ x ≠ g := fun x hx => vcon_in hs hsg (passN_sound k x hx)
  have := nodup_len_leZ (l := g :: passN g ls [s] k) (m := vertsL ls) (List.nodup_cons.2 ⟨fun h => (hin g h).2 rfl, passN_nodup k⟩) fun z hz => by
    rcases List.mem_cons.1 hz with rfl | hz
    · exact hg
    · exact (hin z hz).1
  simpa using this
/-- all are come to just if what is left is one group -/
theorem pass_group {g s : Int} {ls : List Lk} (hr : rightL ls = true) (hne : ls ≠ []) (hg : g ∈ vertsL ls) (hs : s ∈ vertsL ls) (hsg : s ≠ g) :
    (passN g ls [s] (vertsL ls).length).length + 1 = (vertsL ls).length ↔ (groupsL ls [g]).length = 1 := by
  rw [groups_one_v hr hne (by simp)]
  have hcl : ClosedV g ls (passN g ls [s] (vertsL ls).length) := by
    rcases passN_full (g := g) (s := s) (ls := ls) (vertsL ls).length with h | h
    · exact h
    · have := passN_lt hg hs hsg (vertsL ls).length; omega
  have hin : ∀ x ∈ passN g ls [s] (vertsL ls).length, x ∈ vertsL ls ∧ x ≠ g := fun x hx => vcon_in hs hsg (passN_sound _ x hx)
  have hall : ∀ x, VCon ls [g] s x → x ∈ passN g ls [s] (vertsL ls).length := by
    intro x hx
    induction hx with
    | refl => exact passN_self _
    | step _c0 m1 m2 m3 m4 ih =>
      rename_i y z k
      have hu : useB g (passN g ls [s] (vertsL ls).length) k = true := by
        rw [useB_iff]
        refine ⟨by simpa using m2, by simpa using m3, ?_⟩
        rcases m4 with ⟨e, _⟩ | ⟨e, _⟩
        · left; rw [← e]; exact ih
        · right; rw [← e]; exact ih
      obtain ⟨c1, c2⟩ := hcl k m1 hu
      rcases m4 with ⟨_, rfl⟩ | ⟨_, rfl⟩
      · exact c2
      · exact c1
  constructor
  · intro h
    have hcov : ∀ x, x ∈ vertsL ls → x ≠ g → VCon ls [g] s x := fun x hx hxg => Classical.byContradiction fun hno => by
      have hxL : x ∉ passN g ls [s] (vertsL ls).length := fun hx2 => hno (passN_sound _ x hx2)
      have := nodup_len_leZ (l := x :: g :: passN g ls [s] (vertsL ls).length) (m := vertsL ls)
        (List.nodup_cons.2 ⟨by simp only [List.mem_cons, not_or]; exact ⟨hxg, hxL⟩, List.nodup_cons.2 ⟨fun h => (hin g h).2 rfl, passN_nodup _⟩⟩) fun z hz => by
          rcases List.mem_cons.1 hz with rfl | hz
          · exact hx
          · rcases List.mem_cons.1 hz with rfl | hz
            · exact hg
            · exact (hin z hz).1
      simp only [List.length_cons] at this
      omega
    intro u v hu hv hug hvg
    exact (hcov u hu (by simpa using hug)).symm.trans (hcov v hv (by simpa using hvg))
  · intro h
    have h1 := passN_lt hg hs hsg (vertsL ls).length
    have h2 := nodup_len_leZ (l := (vertsL ls).erase g) (m := passN g ls [s] (vertsL ls).length) ((verts_nodup ls).erase g) fun z hz => by
      have hz2 := ((verts_nodup ls).mem_erase_iff).1 hz
      exact hall z (h s z hs hz2.2 (by simpa using hsg) (by simpa using hz2.1))
    rw [List.length_erase_of_mem hg] at h2
    omega
end Go.Proofs.Ytagjakgbmmbmhaa
