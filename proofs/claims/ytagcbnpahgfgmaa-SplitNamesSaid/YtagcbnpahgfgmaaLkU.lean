/- links.Verts. -/
import Derived.Test.YtagcbnpahgfgmaaLkS
namespace Go.Proofs.Ytagcbnpahgfgmaa
open Go Go.RowKit Go.Sort

def vZ (x : Int) : Value := .int .i64 x
/-- What a call hands back that tells numbers in memory of its own. -/
def RetZs (w : World) (zs : List Int) (e : Ending) (w' : World) : Prop :=
  ∃ a c, e = .returned (.slice a zs.length c) ∧ RdI w' a zs ∧ (∀ ad, a = some ad → w.heap.size ≤ ad.block) ∧ zs.length ≤ c ∧ c ≤ maxLen ∧ Below w.heap.size w w'

theorem sort_row (g cap : Nat) (zs : List Int) (w : World) (h : Row w g 3 1 cap (zs.map (Value.int .i64))) (hsz : zs.length < 1000000) :
    Calls Try.prog 25 #[.slice (some ⟨g, 0, none⟩) zs.length cap] w fun e w' => e = .returned (.tuple #[]) ∧
      Row w' g 3 1 cap ((zs.mergeSort fun x y => decide (x ≤ y)).map (Value.int .i64)) ∧ w.grownBy w' (some g) := by
  obtain ⟨cur, hg, hs, hl, hm, ht⟩ := h
  have ht' : cur.toList.take zs.length = zs.map (Value.int .i64) := by simpa using ht
  have hH := holds_of_blockI (ss := zs) hg ht'
  refine (Try.slices_Sort_int g 0 cap zs w hH (Array.getElem?_eq_some_iff.1 hg).1 (by omega)).mono ?_
  rintro e w' ⟨rfl, n, os, rfl⟩
  refine ⟨rfl, ?_, grownBy_sortedI _⟩
  have hlen : (zs.mergeSort fun x y => decide (x ≤ y)).length = zs.length := by simp
  refine ⟨_, heap_sortedI _ hg, by simpa [Sort.putCells] using hs, by simpa [hlen] using hl, hm, ?_⟩
  rw [List.length_map]
  exact take_putCellsI cur _ (by simp at hl; omega)
theorem grow_none (w : World) : grow w #[] = w := by cases w; simp [grow]
theorem compact_len_le (zs : List Int) : (Lib.compact zs).length ≤ zs.length := by
  unfold Lib.compact Lib.compactUpTo
  rw [List.length_map]
  have := List.length_filter_le (Lib.keeps zs.toArray) (List.range zs.length)
  simpa using this
theorem compact_row (g cap : Nat) (zs : List Int) (w : World) (h : Row w g 3 1 cap (zs.map (Value.int .i64))) (hsz : zs.length < 1000000) :
    Calls Try.prog 27 #[.slice (some ⟨g, 0, none⟩) zs.length cap] w fun e w' => e = .returned (.slice (some ⟨g, 0, none⟩) (Lib.compact zs).length cap) ∧
      Row w' g 3 1 cap ((Lib.compact zs).map (Value.int .i64)) ∧ w.grownBy w' (some g) := by
  obtain ⟨cur, hg, hs, hl, hm, ht⟩ := h
  have ht' : cur.toList.take zs.length = zs.map (Value.int .i64) := by simpa using ht
  have hH := holds_of_blockI (ss := zs) hg ht'
  have hlc : zs.length ≤ cap := by simpa using hl
  refine (Try.slices_Compact_int g 0 cap zs w hH (by omega) hlc).mono ?_
  rintro e w' ⟨rfl, q, rfl⟩
  obtain ⟨ts, hts⟩ : ∃ ts, ts = Lib.compact zs ++ List.replicate (zs.length - (Lib.compact zs).length) 0 := ⟨_, rfl⟩
  have hcl := compact_len_le zs
  have htl : ts.length = zs.length := by rw [hts]; simp; omega
  refine ⟨rfl, ?_, ?_⟩
  · rw [← hts]
    have h1 := heap_sortedI (n := q) (os := #[]) ts.toArray hg
    rw [grow_none] at h1
    have h2 : Row (putRow (Value.int .i64) (Sort.ahead w q) g 0 ts.toArray) g 3 1 cap (ts.map (Value.int .i64)) := by
      refine ⟨_, h1, by simpa [Sort.putCells] using hs, by simpa [htl] using hl, hm, ?_⟩
      rw [List.length_map]
      exact take_putCellsI cur _ (by simp at hl; omega)
    have h3 := h2.take (Lib.compact zs).length
    have e3 : (ts.map (Value.int .i64)).take (Lib.compact zs).length = (Lib.compact zs).map (Value.int .i64) := by
      rw [hts, List.map_append, List.take_append_of_le_length (by simp), List.take_of_length_le (by simp)]
    rw [e3] at h3
    exact h3
  · have h1 := grownBy_sortedI (w := w) (g := g) (n := q) (os := #[]) (Lib.compact zs ++ List.replicate (zs.length - (Lib.compact zs).length) 0).toArray
    rw [grow_none] at h1; exact h1

theorem clip_walk (a : Option Addr) (n c : Nat) (w : World) (h : n ≤ c) (hn : n ≤ 1000000) (hc : c ≤ maxLen) :
    Calls Try.prog 26 #[.slice a n c] w fun e w' => e = .returned (.slice a n n) ∧ w = w' := by
  have h1 : (n : Int) ≤ (c : Int) := by omega
  unfold maxLen at hc
  cases a with
  | none =>
    go_enter Try.func26, Try.ntmps26
    go_wp2_with fail
    go_ret
    exact ⟨rfl, rfl⟩
  | some ad =>
    go_enter Try.func26, Try.ntmps26
    go_wp2_with fail
    go_ret
    exact ⟨rfl, rfl⟩
theorem ends_take (ls : List Lk) (k : Nat) (h : k < ls.length) : endsL (ls.take (k + 1)) = endsL (ls.take k) ++ [ls[k].1, ls[k].2.1] := by
  unfold endsL
  rw [List.take_succ_eq_append_getElem h, List.flatMap_append]
  simp

set_option maxHeartbeats 2000000 in
theorem verts_walk (a : Option Addr) (cap : Nat) (ls : List Lk) (w : World) (hr : RdL w a ls) (hle : ls.length ≤ 100000) :
    Calls Try.prog 12 #[.slice a ls.length cap] w (RetZs w (vertsL ls)) := by
  have hc1 := vertsL_compact ls
  have Hc1 := Lib.hid hc1; clear hc1
  go_enter Try.func12, Try.ntmps12
  go_wp2_with fail
  go_loopg [3, 8] ls.length (fun r vo i wr => ∃ k : Nat, k + r = ls.length ∧ i = .int .i64 k ∧ Below w.heap.size w wr ∧ Own wr vo 3 1 (endsL (ls.take k)).length ((endsL (ls.take k)).map (Value.int .i64)) ∧ (∀ g, vo.ownBlock = some g → w.heap.size ≤ g))
  case atStart => exact ⟨0, by omega, rfl, bl_refl _, by simpa [endsL] using own_nil w 3 1, fun g hg => by simp [Value.ownBlock] at hg⟩
  case round =>
    obtain ⟨k, hk, rfl, hB, hown, hnew⟩ := hrel
    rename_i vo
    by_cases hlt : k < ls.length
    · obtain ⟨b, o, rfl, c0, c1, c2⟩ := (hr.below hB).at k hlt
      have het := ends_take ls k hlt
      obtain ⟨⟨x, y, z⟩, hx⟩ : ∃ x : Lk, ls[k] = x := ⟨_, rfl⟩
      rw [hx] at c0 c1 c2 het
      simp only at c0 c1 c2 het
      have hel : (endsL (ls.take k)).length = k * 2 := by rw [endsL_length, List.length_take]; omega
      obtain ⟨E, hE⟩ : ∃ E, E = endsL (ls.take k) := ⟨_, rfl⟩
      rw [← hE] at hown het hel
      have Hk := Lib.hid hk; have Het := Lib.hid het; have HE := Lib.hid hE; have Hnew := Lib.hid hnew
      have hel2 : E.length ≤ 200000 := by omega
      clear hk het hx hE hel hnew
      have hown2 := (hown.alloc (.cells #[.int .i64 x, .int .i64 y, .int .i64 z] 25)).alloc (.cells #[.int .i64 x, .int .i64 y] 3)
      obtain ⟨wa, hwa⟩ : ∃ wa, wa = wr.alloc (.cells #[.int .i64 x, .int .i64 y, .int .i64 z] 25) := ⟨_, rfl⟩
      go_wp2_with (at_builtin; refine wpList_append_row _ rfl (.tmp 12) (.tmp 17) 38 rfl 3 (.int .i64 0) 1 8 Try.underlying38 int_info rfl _ _ _ rfl hown2 ⟨wr.heap.size + 1, 0, none⟩ 2 2 [.int .i64 x, .int .i64 y] rfl rfl ?c1 ?c2 (by omega) (by unfold maxLen; omega) (by omega) ?_)
      case c1 =>
        intro j u hj
        match j with
        | 0 => simp at hj; subst hj; simp [Addr.add]
        | 1 => simp at hj; subst hj; simp [Addr.add]
        | j + 2 => simp at hj
      case c2 => intro u hu; simp at hu; rcases hu with rfl | rfl <;> rfl
      intro g c w3 hr3 hc3 hgr3 hor3
      have hb3 : Below w.heap.size w w3 := (bl_trans (bl_trans hB (bl_alloc _ _)) (bl_alloc _ _)).grown hgr3 (by simp; have := hB.size; omega) (fun j hj => Hnew.out j hj)
      have hg3 : w.heap.size ≤ g := by
        rcases hor3 with h | h
        · exact Hnew.out g h
        · have := hB.size; omega
      clear hown hown2 hwa hgr3 hor3
      go_wp2_with fail
      go_roundg (gk - 1)
      case measure => have := Hk.out; omega
      case rel =>
        refine ⟨k + 1, by have := Hk.out; omega, by go_num, hb3, ?_, fun j hj => by cases hj; exact hg3⟩
        rw [Het.out]
        have h1 := hr3.own1
        simpa using h1
    · have hkl : k = ls.length := by omega
      subst hkl
      rw [List.take_length] at hown
      obtain ⟨E, hE⟩ : ∃ E, E = endsL ls := ⟨_, rfl⟩
      rw [← hE] at hown
      have hEl : E.length ≤ 200000 := by rw [hE, endsL_length]; omega
      have Hc2 := Hc1.out
      rw [← hE] at Hc2
      have HE := Lib.hid hE; have Hc := Lib.hid Hc2
      clear hE Hc2
      rcases hown.2 with ⟨rfl, h0⟩ | ⟨g, cg, rfl, hcg, hrow⟩
      · obtain rfl := List.eq_nil_of_length_eq_zero h0
        have hv : vertsL ls = [] := by rw [← Hc.out]; simp [Lib.compact, Lib.compactUpTo]
        clear hown
        go_wp2_with fail
        refine (Try.slices_Sort_int_none none 0 _).mono ?_
        rintro e w' ⟨rfl, rfl⟩
        go_wp2_with fail
        refine (Try.slices_Compact_int_empty none 0 _).mono ?_
        rintro e w' ⟨rfl, rfl⟩
        go_wp2_with fail
        refine (clip_walk none 0 0 _ (Nat.le_refl _) (by omega) (by unfold maxLen; omega)).mono ?_
        rintro e w' ⟨rfl, rfl⟩
        go_wp2_with fail
        go_ret
        rw [hv]
        exact ⟨none, 0, rfl, by intro i u hu; simp at hu, (fun ad h => by cases h), Nat.le_refl _, by unfold maxLen; omega, hB⟩
      · have hgl := hnew g rfl
        clear hown hnew
        go_wp2_with fail
        refine (sort_row g cg E _ hrow (by omega)).mono ?_
        rintro e w2 ⟨rfl, hr2, hg2⟩
        have hb2 : Below w.heap.size w w2 := hB.grown hg2 (by have := hB.size; omega) (fun j hj => by cases hj; exact hgl)
        have hlen2 : (E.mergeSort fun x y => decide (x ≤ y)).length = E.length := by simp
        have hcc := compact_row g cg (E.mergeSort fun x y => decide (x ≤ y)) w2 hr2 (by omega)
        rw [Hc.out, hlen2] at hcc
        clear hr2 hg2 hrow hlen2
        go_wp2_with fail
        refine hcc.mono ?_
        rintro e w3 ⟨rfl, hr3, hg3⟩
        have hb3 : Below w.heap.size w w3 := hb2.grown hg3 (by have := hb2.size; omega) (fun j hj => by cases hj; exact hgl)
        have hvl : (vertsL ls).length ≤ 200000 := by have := vertsL_length ls; omega
        have hvc : (vertsL ls).length ≤ cg := by have := hr3.len_le; simpa using this
        have hcm := hr3.cap_le
        go_wp2_with fail
        refine (clip_walk (some ⟨g, 0, none⟩) (vertsL ls).length cg _ hvc (by omega) hcm).mono ?_
        rintro e w' ⟨rfl, rfl⟩
        go_wp2_with fail
        go_ret
        refine ⟨some ⟨g, 0, none⟩, (vertsL ls).length, rfl, hr3.at_, fun ad h => by cases h; exact hgl, Nat.le_refl _, by omega, hb3⟩
end Go.Proofs.Ytagcbnpahgfgmaa
