/- Parts by distances: a plain law, and the memory of it. -/
import Derived.Test.YtddndhhhmlcgjaaPartsQ
import Derived.Test.YtddndhhhmlcgjaaRefAway
namespace Go.Proofs.Ytddndhhhmlcgjaa
open Go Go.RowKit

theorem rise_ext : ∀ {l1 l2 : List Nat}, l1.Pairwise (· < ·) → l2.Pairwise (· < ·) → (∀ x, x ∈ l1 ↔ x ∈ l2) → l1 = l2
  | [], [], _, _, _ => rfl
  | [], b :: l2, _, _, h => absurd ((h b).2 (by simp)) (by simp)
  | a :: l1, [], _, _, h => absurd ((h a).1 (by simp)) (by simp)
  | a :: l1, b :: l2, h1, h2, h => by
    obtain ⟨a1, a2⟩ := List.pairwise_cons.1 h1
    obtain ⟨b1, b2⟩ := List.pairwise_cons.1 h2
    have hab : a = b := by
      rcases List.mem_cons.1 ((h a).1 (by simp)) with e | e
      · exact e
      · rcases List.mem_cons.1 ((h b).2 (by simp)) with e' | e'
        · exact e'.symm
        · have := a1 b e'; have := b1 a e; omega
    subst hab
    congr 1
    refine rise_ext a2 b2 fun x => ?_
    constructor
    · intro hx
      rcases List.mem_cons.1 ((h x).1 (by simp [hx])) with e | e
      · have := a1 x hx; omega
      · exact e
    · intro hx
      rcases List.mem_cons.1 ((h x).2 (by simp [hx])) with e | e
      · have := b1 x hx; omega
      · exact e

def partOf (d : List Int) (k : Nat) : List Nat := (List.range k).filter fun u => decide (0 ≤ d.getD u 0)
theorem partOf_succ (d : List Int) (k : Nat) : partOf d (k + 1) = partOf d k ++ if 0 ≤ d.getD k 0 then [k] else [] := by
  unfold partOf
  rw [List.range_succ, List.filter_append]
  congr 1
  rw [List.filter_cons]
  by_cases h : 0 ≤ d.getD k 0
  · rw [if_pos h, if_pos (by simpa using h)]; rfl
  · rw [if_neg h, if_neg (by simpa using h)]; rfl
theorem partOf_len (d : List Int) (k : Nat) : (partOf d k).length ≤ k := by
  have := List.length_filter_le (fun u => decide (0 ≤ d.getD u 0)) (List.range k)
  simpa [partOf] using this
theorem partOf_eq {n : Nat} {es : List (Int × Int)} (h : rightB n es = true) {v : Nat} (hv : v < n) : partOf (awayL (besideL n es) v) n = sortN (reachL n es v) := by
  refine rise_ext (List.pairwise_lt_range.filter _) (sortN_rise (reach_nd h hv)) fun x => ?_
  rw [mem_sortN, reach_dist h hv]
  unfold partOf
  rw [List.mem_filter, List.mem_range]
  have hl := (away_dist h hv).len
  constructor
  · rintro ⟨hx, h0⟩
    have h0' : 0 ≤ (awayL (besideL n es) v).getD x 0 := by simpa using h0
    obtain ⟨z, hz⟩ : ∃ z, (awayL (besideL n es) v)[x]? = some z := ⟨_, List.getElem?_eq_getElem (by omega)⟩
    rw [List.getD, hz] at h0'
    simp at h0'
    exact ⟨z.toNat, by rw [hz]; congr 1; omega⟩
  · rintro ⟨k, hk⟩
    have hx := (List.getElem?_eq_some_iff.1 hk).1
    refine ⟨by omega, ?_⟩
    simp [List.getD, hk]

/-- where the document's parts stand at v -/
def PInv (n : Nat) (es : List (Int × Int)) (v : Nat) (seen : List Nat) (out : List (List Nat)) : Prop :=
  (∀ x, x ∈ seen ↔ x ∈ ((List.range v).foldl (parts1 (besideL n es)) ([], [])).1) ∧ out = ((List.range v).foldl (parts1 (besideL n es)) ([], [])).2 ∧ seen.length ≤ 200 * v
theorem PInv.start (n : Nat) (es : List (Int × Int)) : PInv n es 0 [] [] := ⟨fun x => by simp, rfl, by simp⟩
theorem PInv.skip {n : Nat} {es : List (Int × Int)} {v : Nat} {seen : List Nat} {out : List (List Nat)} (h : PInv n es v seen out) (hv : v ∈ seen) : PInv n es (v + 1) seen out := by
  obtain ⟨h1, h2, h3⟩ := h
  have hc := (h1 v).1 hv
  refine ⟨fun x => ?_, ?_, by omega⟩
  · rw [List.range_succ, List.foldl_append]
    generalize (List.range v).foldl (parts1 (besideL n es)) ([], []) = s at *
    simp only [List.foldl_cons, List.foldl_nil, parts1]
    rw [if_pos (by simpa using hc)]; exact h1 x
  · rw [List.range_succ, List.foldl_append]
    generalize (List.range v).foldl (parts1 (besideL n es)) ([], []) = s at *
    simp only [List.foldl_cons, List.foldl_nil, parts1]
    rw [if_pos (by simpa using hc)]; exact h2
theorem PInv.add {n : Nat} {es : List (Int × Int)} (hr : rightB n es = true) {v : Nat} (hvn : v < n) {seen : List Nat} {out : List (List Nat)} (h : PInv n es v seen out) (hv : v ∉ seen) :
    PInv n es (v + 1) (seen ++ partOf (awayL (besideL n es) v) n) (out ++ [partOf (awayL (besideL n es) v) n]) := by
  obtain ⟨h1, h2, h3⟩ := h
  have hc : v ∉ ((List.range v).foldl (parts1 (besideL n es)) ([], [])).1 := fun hm => hv ((h1 v).2 hm)
  have hn2 := ((rightB_iff _ _).1 hr).2.1
  have hp := partOf_len (awayL (besideL n es) v) n
  refine ⟨fun x => ?_, ?_, by rw [List.length_append]; omega⟩
  · rw [List.range_succ, List.foldl_append]
    generalize (List.range v).foldl (parts1 (besideL n es)) ([], []) = s at *
    simp only [List.foldl_cons, List.foldl_nil, parts1]
    rw [if_neg (by simpa using hc)]
    rw [List.mem_append, List.mem_append, h1 x, partOf_eq hr hvn, mem_sortN]
  · rw [List.range_succ, List.foldl_append]
    generalize (List.range v).foldl (parts1 (besideL n es)) ([], []) = s at *
    simp only [List.foldl_cons, List.foldl_nil, parts1]
    rw [if_neg (by simpa using hc)]
    simp only
    rw [h2, partOf_eq hr hvn]
theorem PInv.finish {n : Nat} {es : List (Int × Int)} {seen : List Nat} {out : List (List Nat)} (h : PInv n es n seen out) : out = partsL (besideL n es) := by
  rw [h.2.1]; unfold partsL; rw [besideL_length]
theorem PInv.out_len {n : Nat} {es : List (Int × Int)} {v : Nat} {seen : List Nat} {out : List (List Nat)} (h : PInv n es v seen out) : out.length ≤ v := by
  rw [h.2.1]
  have := parts_take_len (bs := besideL n es) (List.range v) ([], [])
  simpa using this
theorem partOf_self {n : Nat} {es : List (Int × Int)} (h : rightB n es = true) {v : Nat} (hv : v < n) : 0 < (partOf (awayL (besideL n es) v) n).length := by
  rw [partOf_eq h hv, sortN_length]
  exact List.length_pos_of_mem (reach_refl h hv)

/-- the memory of it: what was seen, what is told -/
structure PS (W1 w : World) (sV oV : Value) (vals : List Value) (seen : List Nat) (out : List (List Nat)) : Prop where
  oS : Own w sV 3 1 seen.length (seen.map vN)
  oO : Own w oV 27 1 vals.length vals
  len : vals.length = out.length
  row : ∀ (i : Nat) (u : Value) (r : List Nat), vals[i]? = some u → out[i]? = some r → ∃ g c, u = .slice (some ⟨g, 0, none⟩) r.length c ∧ Row w g 3 1 c (r.map vN) ∧ W1.heap.size ≤ g ∧ sV.ownBlock ≠ some g ∧ oV.ownBlock ≠ some g
  loS : ∀ g, sV.ownBlock = some g → W1.heap.size ≤ g
  loO : ∀ g, oV.ownBlock = some g → W1.heap.size ≤ g
  ne : ∀ g, sV.ownBlock = some g → oV.ownBlock ≠ some g
  bl : Below W1.heap.size W1 w

namespace PS
variable {W1 w w' : World} {sV oV : Value} {vals : List Value} {seen : List Nat} {out : List (List Nat)}
theorem start (w : World) : PS w w (.slice none 0 0) (.slice none 0 0) [] [] [] :=
  ⟨own_nil _ _ _, own_nil _ _ _, rfl, fun i u r h => by simp at h, fun g h => by simp [Value.ownBlock] at h, fun g h => by simp [Value.ownBlock] at h, fun g h => by simp [Value.ownBlock] at h, bl_refl _⟩
theorem ext (h : PS W1 w sV oV vals seen out) (hb : Below w.heap.size w w') : PS W1 w' sV oV vals seen out :=
  { h with
    oS := h.oS.ext hb, oO := h.oO.ext hb
    row := fun i u r hu hr => by
      obtain ⟨g, c, h1, h2, h3⟩ := h.row i u r hu hr
      exact ⟨g, c, h1, h2.below hb h2.lt, h3⟩
    bl := bl_trans h.bl hb }
theorem addSeen (h : PS W1 w sV oV vals seen out) {g cap : Nat} {p : List Nat} (hr : Row w' g 3 1 cap (seen.map vN ++ p.map vN)) (hc : seen.length + p.length ≤ cap) (hg : w.grownBy w' sV.ownBlock) (ho : sV.ownBlock = some g ∨ w.heap.size ≤ g) :
    PS W1 w' (.slice (some ⟨g, 0, none⟩) (seen.length + p.length) cap) oV vals (seen ++ p) out := by
  have hsz := h.bl.size
  have hgn : ∀ q, oV.ownBlock = some q → g ≠ q := fun q hq => by
    rcases ho with ho | ho
    · intro e; subst e; exact h.ne g ho hq
    · have := h.oO.lt hq; omega
  refine { h with oS := ?_, oO := ?_, row := ?_, loS := ?_, ne := ?_, bl := ?_ }
  · rw [← List.map_append] at hr
    have := hr.own (n := seen.length + p.length) (by simp) hc
    simpa using this
  · exact h.oO.below fun q hq => hg.block q (h.oO.lt hq) (fun e => h.ne q e.symm hq)
  · intro i u r hu hr'
    obtain ⟨q, c, h1, h2, h3, h4, h5⟩ := h.row i u r hu hr'
    refine ⟨q, c, h1, h2.grown hg h4, h3, ?_, h5⟩
    intro e
    have : g = q := Option.some.inj e
    subst this
    rcases ho with ho | ho
    · exact h4 ho
    · have := h2.lt; omega
  · intro q hq
    have : g = q := Option.some.inj hq
    subst this
    rcases ho with ho | ho
    · exact h.loS g ho
    · omega
  · intro q hq hq'
    have : g = q := Option.some.inj hq
    exact hgn q hq' this
  · exact h.bl.grown hg hsz h.loS
theorem addOut (h : PS W1 w sV oV vals seen out) {g cap gp cp : Nat} {p : List Nat} (hp : Row w gp 3 1 cp (p.map vN)) (hp1 : W1.heap.size ≤ gp) (hp2 : sV.ownBlock ≠ some gp) (hp3 : oV.ownBlock ≠ some gp)
    (hr : Row w' g 27 1 cap (vals ++ [.slice (some ⟨gp, 0, none⟩) p.length cp])) (hc : vals.length + 1 ≤ cap) (hg : w.grownBy w' oV.ownBlock) (ho : oV.ownBlock = some g ∨ w.heap.size ≤ g) :
    PS W1 w' sV (.slice (some ⟨g, 0, none⟩) (vals.length + 1) cap) (vals ++ [.slice (some ⟨gp, 0, none⟩) p.length cp]) seen (out ++ [p]) := by
  have hsz := h.bl.size
  have hfar : ∀ q : Nat, q < w.heap.size → oV.ownBlock ≠ some q → g ≠ q := fun q hq hne e => by
    subst e
    rcases ho with ho | ho
    · exact hne ho
    · omega
  refine ⟨?_, ?_, by simp [h.len], ?_, h.loS, ?_, ?_, ?_⟩
  · exact h.oS.below fun q hq => hg.block q (h.oS.lt hq) (fun e => h.ne q hq e.symm)
  · have := hr.own (n := vals.length + 1) (by simp) hc
    simpa using this
  · intro i u r hu hr'
    by_cases hi : i < vals.length
    · rw [List.getElem?_append_left hi] at hu
      rw [List.getElem?_append_left (by rw [← h.len]; exact hi)] at hr'
      obtain ⟨q, c, h1, h2, h3, h4, h5⟩ := h.row i u r hu hr'
      exact ⟨q, c, h1, h2.grown hg h5, h3, h4, fun e => hfar q h2.lt h5 (Option.some.inj e)⟩
    · have h1 := (List.getElem?_eq_some_iff.1 hu).1
      simp at h1
      obtain rfl : i = vals.length := by omega
      simp at hu
      rw [h.len] at hr'
      simp at hr'
      subst hu; subst hr'
      exact ⟨gp, cp, rfl, hp.grown hg hp3, hp1, hp2, fun e => hfar gp hp.lt hp3 (Option.some.inj e)⟩
  · intro q hq
    have : g = q := Option.some.inj hq
    subst this
    rcases ho with ho | ho
    · exact h.loO g ho
    · omega
  · intro q hq hq'
    have : g = q := Option.some.inj hq'
    subst this
    rcases ho with ho | ho
    · exact h.ne g hq ho
    · have := h.oS.lt hq; omega
  · exact h.bl.grown hg hsz h.loO
end PS
end Go.Proofs.Ytddndhhhmlcgjaa
