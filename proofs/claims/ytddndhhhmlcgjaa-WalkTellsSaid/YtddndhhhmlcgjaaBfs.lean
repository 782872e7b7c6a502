/- How far: as a plain function. -/
import Derived.Test.YtddndhhhmlcgjaaDfs
namespace Go.Proofs.Ytddndhhhmlcgjaa

/-- one beside: if it is not known how far it is, it is d + 1 away, and comes last -/
def away1 (d : Int) (s : List Int × List Nat) (x : Nat) : List Int × List Nat := if s.1.getD x 0 < 0 then (s.1.set x (d + 1), s.2 ++ [x]) else s
def awayRun (bs : List (List Nat)) : Nat → Nat → List Int × List Nat → List Int
  | 0, _, s => s.1
  | f + 1, i, s => match s.2[i]? with
    | some v => awayRun bs f (i + 1) ((bs.getD v []).foldl (away1 (s.1.getD v 0)) s)
    | none => s.1
def awayL (bs : List (List Nat)) (start : Nat) : List Int := awayRun bs (bs.length + 1) 0 ((List.replicate bs.length (-1)).set start 0, [start])

structure AInv (n : Nat) (s : List Int × List Nat) : Prop where
  lf : s.1.length = n
  inM : ∀ x ∈ s.2, x < n
  cnt : s.2.length + s.1.count (-1) = n
  val : ∀ (v : Nat) (x : Int), s.1[v]? = some x → x = -1 ∨ (0 ≤ x ∧ x < s.2.length)
  metF : ∀ v ∈ s.2, ∃ x : Int, s.1[v]? = some x ∧ 0 ≤ x

theorem count_set_ne {l : List Int} {x : Nat} {y : Int} (h : l[x]? = some (-1)) (hy : y ≠ -1) : (l.set x y).count (-1) + 1 = l.count (-1) := by
  obtain ⟨hx, h1⟩ := List.getElem?_eq_some_iff.1 h
  have h2 : 0 < l.count (-1) := List.count_pos_iff.2 (by rw [← h1]; exact List.getElem_mem hx)
  rw [List.count_set hx, h1]
  simp [hy]
  omega

theorem AInv.start {n st : Nat} (hst : st < n) : AInv n ((List.replicate n (-1)).set st 0, [st]) where
  lf := by simp
  inM x hx := by simp at hx; omega
  cnt := by
    have := count_set_ne (l := List.replicate n (-1)) (x := st) (y := 0) (by simp [hst]) (by omega)
    simp at this ⊢
    omega
  val v x hx := by
    simp only [List.getElem?_set] at hx
    split at hx
    · split at hx
      · cases hx; right; simp
      · cases hx
    · rw [List.getElem?_replicate] at hx; split at hx
      · cases hx; left; rfl
      · cases hx
  metF v hv := by simp at hv; subst hv; exact ⟨0, by simp [hst], by omega⟩

theorem AInv.step {n : Nat} {s : List Int × List Nat} (h : AInv n s) {d : Int} {x : Nat} (hx : x < n) (hd : 0 ≤ d) (hd2 : d < s.2.length) : AInv n (away1 d s x) := by
  unfold away1
  obtain ⟨y, hy⟩ : ∃ y, s.1[x]? = some y := ⟨s.1[x]'(by rw [h.lf]; exact hx), by simp⟩
  have hg : s.1.getD x 0 = y := by simp [List.getD, hy]
  rw [hg]
  split
  · rename_i hneg
    obtain rfl : y = -1 := by rcases h.val x y hy with h1 | h1 <;> omega
    have hc := count_set_ne hy (y := d + 1) (by omega)
    refine ⟨by simpa using h.lf, ?_, ?_, ?_, ?_⟩
    · intro z hz
      rcases List.mem_append.1 hz with hz | hz
      · exact h.inM z hz
      · simp at hz; omega
    · have := h.cnt; simp only [List.length_append, List.length_cons, List.length_nil]; omega
    · intro v z hz
      simp only [List.getElem?_set] at hz
      simp only [List.length_append, List.length_cons, List.length_nil]
      split at hz
      · split at hz
        · cases hz; right; omega
        · cases hz
      · rcases h.val v z hz with h1 | h1
        · exact .inl h1
        · right; omega
    · intro v hv
      have hxl : x < s.1.length := by rw [h.lf]; exact hx
      by_cases hxv : x = v
      · subst hxv; exact ⟨d + 1, by simp [hxl], by omega⟩
      · rcases List.mem_append.1 hv with hv | hv
        · obtain ⟨z, h1, h2⟩ := h.metF v hv
          exact ⟨z, by simp only [List.getElem?_set, if_neg hxv]; exact h1, h2⟩
        · simp at hv; omega
  · exact h
theorem AInv.le {n : Nat} {s : List Int × List Nat} (h : AInv n s) : s.2.length ≤ n := by have := h.cnt; omega
theorem awayRun_end {bs : List (List Nat)} {r i : Nat} {s : List Int × List Nat} (h : s.2.length ≤ i) : awayRun bs r i s = s.1 := by
  cases r with
  | zero => rfl
  | succ r => rw [awayRun, List.getElem?_eq_none h]
theorem away1_keep {d : Int} {s : List Int × List Nat} {x v : Nat} {y : Int} (hv : s.1[v]? = some y) (hy : 0 ≤ y) : (away1 d s x).1[v]? = some y := by
  unfold away1
  split
  · rename_i h
    rw [List.getElem?_set]
    split
    · rename_i e; subst e; simp [List.getD, hv] at h; omega
    · exact hv
  · exact hv
theorem away1_met {d : Int} {s : List Int × List Nat} {x i v : Nat} (hv : s.2[i]? = some v) : (away1 d s x).2[i]? = some v := by
  unfold away1
  split
  · exact List.getElem?_append_left (List.getElem?_eq_some_iff.1 hv).1 ▸ hv
  · exact hv
end Go.Proofs.Ytddndhhhmlcgjaa
