/- The examples of chapter 13. -/
import Derived.Test.YtagjakgbmmbmhaaPaF
import Derived.Test.YtagjakgbmmbmhaaAwakeL
import Derived.Test.YtagjakgbmmbmhaaLkT
namespace Go.Proofs.Ytagjakgbmmbmhaa
open Go Go.RowKit

noncomputable def noneL (ls : List Lk) : Bool := !(firstL ls).2.2.1 && (firstL ls).2.2.2 == 0
set_option maxHeartbeats 1000000 in
theorem none_walk (a : Option Addr) (cap : Nat) (ls : List Lk) (w : World) (hr : RdL w a ls) (hcap : ls.length ≤ 9223372036854775807) :
    Calls Try.prog 36 #[.slice a ls.length cap] w (RetT w (noneL ls)) := by
  obtain ⟨t, ht⟩ : ∃ t, t = noneL ls := ⟨_, rfl⟩
  rw [← ht]
  unfold noneL at ht
  have hf := first_walk a cap ls w hr hcap
  obtain ⟨⟨p, q, ok, er⟩, hfe⟩ : ∃ r, r = firstL ls := ⟨_, rfl⟩
  rw [← hfe] at ht hf
  clear hfe
  simp only at ht
  have Hf := Lib.hid hf; clear hf
  cases ok with
  | true =>
    simp at ht
    subst ht
    go_enter Try.func36, Try.ntmps36
    go_wp2_with fail
    refine Hf.out.mono ?_
    rintro e w1 ⟨rfl, hb1⟩
    go_wp2_with fail
    go_ret
    exact ⟨rfl, hb1⟩
  | false =>
    simp only [Bool.not_false, Bool.true_and] at ht
    obtain ⟨z, hz⟩ : ∃ z, (er == 0) = z := ⟨_, rfl⟩
    rw [hz] at ht
    subst ht
    go_enter Try.func36, Try.ntmps36
    go_wp2_with fail
    refine Hf.out.mono ?_
    rintro e w1 ⟨rfl, hb1⟩
    go_wp2_with fail
    go_ret
    exact ⟨rfl, hb1⟩

def circL (n : Nat) : List Lk := (List.range n).map fun (i : Nat) => ((i : Int), ((i + 1) % n : Nat), 0)
def sideL (n : Nat) : List Lk := (List.range n).map fun (i : Nat) => (0, 1, (i : Int))
theorem one3 (x y z : Int) : ∀ u ∈ [Value.int .i64 x, Value.int .i64 y, Value.int .i64 z], u.oneCell' = true := by
  intro u hu; simp only [List.mem_cons, List.not_mem_nil, or_false] at hu; rcases hu with rfl | rfl | rfl <;> rfl
theorem news3 (W : World) (t : TypeId) (x y z : Int) : ∀ (j : Nat) v, [Value.int .i64 x, Value.int .i64 y, Value.int .i64 z][j]? = some v → (W.alloc (.cells #[.int .i64 x, .int .i64 y, .int .i64 z] t)).cell? ((⟨W.heap.size, 0, none⟩ : Addr).add j) = some v := by
  intro j v hj
  match j with
  | 0 => simp at hj; subst hj; simp [Addr.add]
  | 1 => simp at hj; subst hj; simp [Addr.add]
  | 2 => simp at hj; subst hj; simp [Addr.add]
  | j + 3 => simp at hj
set_option maxRecDepth 100000 in
set_option maxHeartbeats 2000000 in
theorem side_walk (n : Nat) (w : World) (hn : n ≤ 100) : Calls Try.prog 52 #[.int .i64 n] w (RetLk w (sideL n)) := by
  go_enter Try.func52, Try.ntmps52
  go_wp2_with fail
  go_loopg [3, 6] n (fun r uv iv wj => ∃ (i : Nat) (u : Value), u = uv ∧ i + r = n ∧ iv = .int .i64 i ∧ OwnL wj u (sideL i) ∧ (∀ g, u.ownBlock = some g → w.heap.size ≤ g) ∧ Below w.heap.size w wj)
  case atStart => exact ⟨0, _, rfl, by omega, rfl, own_nil _ _ _, fun g hg => by simp [Value.ownBlock] at hg, bl_refl _⟩
  case round =>
    obtain ⟨i, u, rfl, hi, rfl, hu, hub, hb⟩ := hrel
    have Hi := Lib.hid hi; have Hub := Lib.hid hub
    by_cases hil : i < n
    · have hst : sideL i ++ [(0, 1, (i : Int))] = sideL (i + 1) := by unfold sideL; rw [List.range_succ, List.map_append]; rfl
      obtain ⟨o, ho⟩ : ∃ o, o = sideL i := ⟨_, rfl⟩
      have hol : o.length ≤ 100 := by rw [ho]; unfold sideL; rw [List.length_map, List.length_range]; omega
      rw [← ho] at hu hst
      have Hst := Lib.hid hst; have Hu := Lib.hid hu
      clear hu hub hi hst ho
      -- (x, y, z) comes behind the others, LIST
      have hu2 : Own (wr.alloc (.cells #[.int .i64 (0), .int .i64 (1), .int .i64 ((i : Int))] 29)) u 29 3 o.length (lkCells o) := Own.alloc Hu.out _
      have Hn3 := Lib.hid (news3 wr 29 (0) (1) ((i : Int))); have Ho3 := Lib.hid (one3 (0) (1) ((i : Int)))
      go_wp2_with (at_builtin; refine wpList_append_row _ rfl (.tmp 9) (.tmp 12) 22 rfl 29 (.agg #[.int .i64 0, .int .i64 0, .int .i64 0]) 3 24 Try.underlying22 link_info rfl u o.length _ rfl hu2 ⟨wr.heap.size, 0, none⟩ 1 1 [.int .i64 (0), .int .i64 (1), .int .i64 ((i : Int))] rfl rfl Hn3.out Ho3.out (by omega) (by unfold maxLen; omega) (by omega) ?_)
      intro g5 c5 w5 hr5 hc5 hg5 hor5
      have hb5 : Below w.heap.size w w5 := (bl_trans hb (bl_alloc _ _)).grown hg5 (by have := hb.size; simp; omega) (fun j hj => Hub.out j hj)
      have hg6 : w.heap.size ≤ g5 := by
        rcases hor5 with h | h
        · exact Hub.out g5 h
        · have := hb.size; first | omega | (simp at h; omega)
      have hr6 : OwnL w5 (.slice (some ⟨g5, 0, none⟩) (o.length + 1) c5) (o ++ [((0, 1, (i : Int)) : Lk)]) := by
        have h1 : Row w5 g5 29 3 c5 (lkCells (o ++ [((0, 1, (i : Int)) : Lk)])) := by rw [lkCells_append]; exact hr5
        have := h1.own (n := o.length + 1) (by rw [lkCells_length]; simp) hc5
        unfold OwnL
        rw [List.length_append]
        exact this
      rw [Hst.out] at hr6
      clear hr5 hg5 hor5 hu2
      go_wp2_with fail
      go_roundg (gk - 1)
      case measure => have := Hi.out; omega
      case rel => exact ⟨i + 1, _, rfl, by have := Hi.out; omega, by go_num, hr6, fun g hg => by cases hg; exact hg6, hb5⟩
    · have hin : i = n := by omega
      subst hin
      have Hu := Lib.hid hu
      clear hi hu hub
      go_wp2_with fail
      go_ret
      exact ⟨_, rfl, Hu.out, Hub.out, hb⟩
set_option maxRecDepth 100000 in
set_option maxHeartbeats 2000000 in
theorem circle_walk (n : Nat) (w : World) (hn : n ≤ 100) (h0 : 0 < n) : Calls Try.prog 51 #[.int .i64 n] w (RetLk w (sortL (circL n))) := by
  go_enter Try.func51, Try.ntmps51
  go_wp2_with fail
  go_loopg [3, 6] n (fun r uv iv wj => ∃ (i : Nat) (u : Value) (o : List Lk), u = uv ∧ i + r = n ∧ iv = .int .i64 i ∧ o = (circL n).take i ∧ OwnL wj u o ∧ (∀ g, u.ownBlock = some g → w.heap.size ≤ g) ∧ Below w.heap.size w wj)
  case atStart => exact ⟨0, _, [], rfl, by omega, rfl, rfl, own_nil _ _ _, fun g hg => by simp [Value.ownBlock] at hg, bl_refl _⟩
  case round =>
    obtain ⟨i, u, o, rfl, hi, rfl, ho, hu, hub, hb⟩ := hrel
    have Hi := Lib.hid hi; have Hub := Lib.hid hub
    have hcl : (circL n).length = n := by simp [circL]
    have hol : o.length ≤ 100 := by rw [ho, List.length_take]; omega
    by_cases hil : i < n
    · obtain ⟨k, hk⟩ : ∃ k, k = (i + 1) % n := ⟨_, rfl⟩
      have hst : o ++ [((i : Int), (k : Int), 0)] = (circL n).take (i + 1) := by
        rw [List.take_succ_eq_append_getElem (by omega), ho, hk]
        congr 1
        simp [circL]
      have m1 : ((i : Int) + 1) % (n : Int) = (k : Int) := by rw [hk]; simp
      have m2 : Int.tmod ((i : Int) + 1) (n : Int) = (k : Int) := by rw [Int.tmod_eq_emod_of_nonneg (by omega)]; exact m1
      have n0 : ¬ (n : Int) = 0 := by omega
      have n1 : ¬ n = 0 := by omega
      have hkl : k ≤ 100 := by rw [hk]; have := Nat.mod_lt (i + 1) h0; omega
      have Hst := Lib.hid hst; have Hu := Lib.hid hu
      clear hu hub hi hst ho hcl hk
      -- (x, y, z) comes behind the others, LIST
      have hu2 : Own (wr.alloc (.cells #[.int .i64 ((i : Int)), .int .i64 ((k : Int)), .int .i64 (0)] 29)) u 29 3 o.length (lkCells o) := Own.alloc Hu.out _
      have Hn3 := Lib.hid (news3 wr 29 ((i : Int)) ((k : Int)) (0)); have Ho3 := Lib.hid (one3 ((i : Int)) ((k : Int)) (0))
      go_wp2_with (at_builtin; refine wpList_append_row _ rfl (.tmp 9) (.tmp 16) 22 rfl 29 (.agg #[.int .i64 0, .int .i64 0, .int .i64 0]) 3 24 Try.underlying22 link_info rfl u o.length _ rfl hu2 ⟨wr.heap.size, 0, none⟩ 1 1 [.int .i64 ((i : Int)), .int .i64 ((k : Int)), .int .i64 (0)] rfl rfl Hn3.out Ho3.out (by omega) (by unfold maxLen; omega) (by omega) ?_)
      intro g5 c5 w5 hr5 hc5 hg5 hor5
      have hb5 : Below w.heap.size w w5 := (bl_trans hb (bl_alloc _ _)).grown hg5 (by have := hb.size; simp; omega) (fun j hj => Hub.out j hj)
      have hg6 : w.heap.size ≤ g5 := by
        rcases hor5 with h | h
        · exact Hub.out g5 h
        · have := hb.size; first | omega | (simp at h; omega)
      have hr6 : OwnL w5 (.slice (some ⟨g5, 0, none⟩) (o.length + 1) c5) (o ++ [(((i : Int), (k : Int), 0) : Lk)]) := by
        have h1 : Row w5 g5 29 3 c5 (lkCells (o ++ [(((i : Int), (k : Int), 0) : Lk)])) := by rw [lkCells_append]; exact hr5
        have := h1.own (n := o.length + 1) (by rw [lkCells_length]; simp) hc5
        unfold OwnL
        rw [List.length_append]
        exact this
      rw [Hst.out] at hr6
      clear hr5 hg5 hor5 hu2
      go_wp2_with fail
      go_roundg (gk - 1)
      case measure => have := Hi.out; omega
      case rel => exact ⟨i + 1, _, _, rfl, by have := Hi.out; omega, by go_num, rfl, hr6, fun g hg => by cases hg; exact hg6, hb5⟩
    · have hin : i = n := by omega
      subst hin
      have hoe : o = circL i := by rw [ho]; exact List.take_of_length_le (by omega)
      subst hoe
      obtain ⟨au, cu, rfl, hrd, _, _, _⟩ := OwnL.read hu
      have Hcl := Lib.hid hcl
      clear hi hu hub ho hcl
      go_wp2_with fail
      refine (sorted_walk au cu (circL i) _ hrd (by omega)).mono ?_
      rintro e w2 ⟨v2, rfl, ho2, hg2, hb2⟩
      have hszb := hb.size
      go_wp2_with fail
      go_ret
      exact ⟨v2, rfl, ho2, fun g hg => by have := hg2 g hg; omega, bl_trans hb hb2⟩
end Go.Proofs.Ytagjakgbmmbmhaa
