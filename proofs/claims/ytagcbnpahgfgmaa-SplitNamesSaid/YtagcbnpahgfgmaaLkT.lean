/- links.Sorted. -/
import Derived.Test.YtagcbnpahgfgmaaLkS
namespace Go.Proofs.Ytagcbnpahgfgmaa
open Go Go.RowKit

theorem swapped_cells (ls : List Lk) (k : Nat) (h : k < ls.length) : (ls.take (k + 1)).map swapL ++ ls.drop (k + 1) = ((ls.take k).map swapL ++ ls.drop k).set k (swapL ls[k]) := by
  rw [List.take_succ_eq_append_getElem h, List.map_append, List.append_assoc]
  have hl : ((ls.take k).map swapL).length = k := by simp; omega
  rw [List.set_append_right _ _ (by omega), hl, Nat.sub_self, List.drop_eq_getElem_cons h]
  rfl
theorem swapped_get (ls : List Lk) (k : Nat) (h : k < ls.length) : ((ls.take k).map swapL ++ ls.drop k)[k]? = some ls[k] := by
  have hl : ((ls.take k).map swapL).length = k := by simp; omega
  rw [List.getElem?_append_right (by omega), hl]
  simp
theorem swapped_len (ls : List Lk) (k : Nat) (h : k ≤ ls.length) : ((ls.take k).map swapL ++ ls.drop k).length = ls.length := by simp; omega

set_option maxHeartbeats 2000000 in
theorem sorted_walk (a : Option Addr) (cap : Nat) (ls : List Lk) (w : World) (hr : RdL w a ls) (hle : ls.length ≤ 100000) :
    Calls Try.prog 7 #[.slice a ls.length cap] w (RetLk w (sortL ls)) := by
  by_cases h0 : ls.length = 0
  · obtain rfl := List.eq_nil_of_length_eq_zero h0
    go_enter Try.func7, Try.ntmps7
    go_wp2_with fail
    refine (clone_walk a cap [] _ hr (by simp)).mono ?_
    rintro e w1 ⟨v, rfl, hown, hnew, hb⟩
    obtain ⟨a1, c1, rfl, _⟩ := hown.read
    go_wp2_with fail
    refine wp_loop_rounds 1 ?_
    rw [rounds_succ]
    have hnone := fun w' => AnyF.slices_SortFunc_none Try.laySortL a1 c1 (.func (.func 19) #[] #[]) w'
    change ∀ w', Calls Try.prog 18 _ _ _ at hnone
    go_wp2_with fail
    refine (hnone _).mono ?_
    rintro e w' ⟨rfl, rfl⟩
    go_wp2_with fail
    go_ret
    exact ⟨_, rfl, hown, hnew, hb⟩
  · go_enter Try.func7, Try.ntmps7
    go_wp2_with fail
    refine (clone_walk a cap ls _ hr (by omega)).mono ?_
    rintro e w1 ⟨v, rfl, hown, hnew, hb⟩
    rcases hown.2 with ⟨_, h1⟩ | ⟨g, cg, rfl, hcg, hrow⟩
    · exact absurd h1 h0
    have hg := hnew g rfl
    clear hown hnew hr
    go_wp2_with fail
    go_loopg [10] ls.length (fun r i wr => ∃ k : Nat, k + r = ls.length ∧ i = .int .i64 k ∧ Below w.heap.size w wr ∧ Row wr g 25 3 cg (lkCells ((ls.take k).map swapL ++ ls.drop k)))
    case atStart => exact ⟨0, by omega, rfl, hb, by simpa using hrow⟩
    case round =>
      obtain ⟨k, hk, rfl, hB, hrw⟩ := hrel
      by_cases hlt : k < ls.length
      · have hget := swapped_get ls k hlt
        have hlen := swapped_len ls k (by omega)
        have hstep := swapped_cells ls k hlt
        obtain ⟨⟨x, y, z⟩, hx⟩ : ∃ x : Lk, ls[k] = x := ⟨_, rfl⟩
        rw [hx] at hget hstep
        obtain ⟨q, hq⟩ : ∃ q, q = (ls.take k).map swapL ++ ls.drop k := ⟨_, rfl⟩
        rw [← hq] at hget hlen hrw hstep
        have hkq : k < q.length := by omega
        have hqk : q[k] = (x, y, z) := by rw [List.getElem?_eq_getElem hkq] at hget; exact Option.some.inj hget
        obtain ⟨b1, b2, b3⟩ := lkCells_get q k hkq
        rw [hqk] at b1 b2 b3
        have hcl : k * 3 + 2 < (lkCells q).length := by rw [lkCells_length]; omega
        have c0 : wr.cell? ⟨g, k * 3, none⟩ = some (.int .i64 x) := by rw [hrw.cell? _ (by omega), b1]
        have c1 : wr.cell? ⟨g, k * 3 + 1, none⟩ = some (.int .i64 y) := by rw [hrw.cell? _ (by omega), b2]
        have c2 : wr.cell? ⟨g, k * 3 + 2, none⟩ = some (.int .i64 z) := by rw [hrw.cell? _ (by omega), b3]
        have f0 := hrw.frozen (k * 3)
        have f1 := hrw.frozen (k * 3 + 1)
        have hgl := hrw.lt
        have hset := lkCells_set q k hkq
        rw [hqk] at hset
        have Hk := Lib.hid hk; have Hstep := Lib.hid hstep; have Hset := Lib.hid hset; have Hqk := Lib.hid hqk
        clear hk hstep hset hqk hget hq hx hlen b1 b2 b3 hb
        by_cases hsw : y < x
        · have e1 : swapL (x, y, z) = (y, x, z) := by simp [swapL, hsw]
          have E1 := Lib.hid e1; clear e1
          go_wp2_with fail
          go_region
          go_wp2_with fail
          go_roundg (gk - 1)
          case measure => have := Hk.out; omega
          case rel =>
            refine ⟨k + 1, by have := Hk.out; omega, by go_num, ?_, ?_⟩
            · exact (((hB.setCell (by simpa using hg) _).setCell (by simpa using hg) _).alloc (by have := hB.size; simpa using this) _).drew
            · have h1 := (((hrw.set (k * 3) (.int .i64 y)).set (k * 3 + 1) (.int .i64 x)).alloc (.cells #[.int .i64 x, .int .i64 y, .int .i64 z] 25)).drew
              rw [Hset.out] at h1
              rw [Hstep.out, E1.out]; exact h1
        · have e1 : swapL (x, y, z) = (x, y, z) := by simp [swapL, hsw]
          have E1 := Lib.hid e1; clear e1
          go_wp2_with fail
          go_roundg (gk - 1)
          case measure => have := Hk.out; omega
          case rel =>
            refine ⟨k + 1, by have := Hk.out; omega, by go_num, bl_trans hB (bl_alloc _ _), ?_⟩
            have h1 := hrw.alloc (.cells #[.int .i64 x, .int .i64 y, .int .i64 z] 25)
            rw [Hstep.out, E1.out, show q.set k (x, y, z) = q by rw [← Hqk.out]; simp]
            exact h1
      · have hkl : k = ls.length := by omega
        subst hkl
        rw [List.take_length, List.drop_length, List.append_nil] at hrw
        have hsort := sortF_walk g cg (ls.map swapL) wr hrw (by simp; omega)
        rw [List.length_map, sortL_merge] at hsort
        clear hrow hrw
        go_wp2_with fail
        refine hsort.mono ?_
        rintro e w' ⟨rfl, hrow2, hgr⟩
        have hb2 : Below w.heap.size w w' := hB.grown hgr (by have := hB.size; omega) (fun j hj => by cases hj; exact hg)
        go_wp2_with fail
        go_ret
        refine ⟨_, rfl, ?_, fun j hj => by cases hj; exact hg, hb2⟩
        have h1 := hrow2.own (n := ls.length) (by rw [lkCells_length, sortL_length]) hcg
        unfold OwnL
        rw [sortL_length]
        exact h1
end Go.Proofs.Ytagcbnpahgfgmaa
