/- fretworklaw04.awake, there. -/
import Derived.Test.YtddndhhhmlcgjaaPath
import Derived.Test.YtddndhhhmlcgjaaParts
import Derived.Test.YtddndhhhmlcgjaaSame
namespace Go.Proofs.Ytddndhhhmlcgjaa
open Go Go.RowKit

theorem cellsAt_new (w : World) (cs : Array Value) (e : TypeId) (vs : List Value) (h : cs.toList = vs) (hm : cs.size ≤ maxLen) : CellsAt (w.alloc (.cells cs e)) (some ⟨w.heap.size, 0, none⟩) vs := by
  have := (row_new w cs e 1 cs.size (by simp) hm).at_
  rwa [h] at this

theorem Row.rdI {w : World} {g e c : Nat} {xs : List Int} (h : Row w g e 1 c (xs.map (Value.int .i64))) : RdI w (some ⟨g, 0, none⟩) xs := h.at_
theorem Row.rdN {w : World} {g e c : Nat} {xs : List Nat} (h : Row w g e 1 c (xs.map vN)) : RdI w (some ⟨g, 0, none⟩) (xs.map (fun (x : Nat) => (x : Int))) := by
  have := h.at_
  rw [map_vN] at this
  exact this
theorem FRows.rdR {w : World} {B G : Nat} {tO e : TypeId} {cap : Nat} {vals : List Value} {rows : List (List Nat)} (h : FRows w B G tO e cap vals (rowsV rows)) :
    RdR w (some ⟨G, 0, none⟩) (rows.map (·.map (fun (x : Nat) => (x : Int)))) := by
  intro i r hr
  rw [List.getElem?_map] at hr
  obtain ⟨r0, hr0, rfl⟩ := Option.map_eq_some_iff.1 hr
  have hi : i < vals.length := by
    rw [h.len]; simp only [rowsV, List.length_map]; exact (List.getElem?_eq_some_iff.1 hr0).1
  have h2 : (rowsV rows)[i]? = some (r0.map vN) := by simp [rowsV, hr0]
  obtain ⟨g, c, h3, h4, _⟩ := h.row i vals[i] _ (by simp) h2
  refine ⟨G, 0, rfl, some ⟨g, 0, none⟩, c, ?_, h4.rdN, ?_⟩
  · rw [Nat.zero_add, h.outer.cell i hi, h3]; simp
  · have h5 := h4.len_le
    have h6 := h4.cap_le
    unfold maxLen at h6
    simp at h5 ⊢; omega

abbrev exE : List (Int × Int) := [(0, 2), (0, 3), (1, 3), (2, 3)]
theorem exE_right : rightB 5 exE = true := by decide
theorem ex_walk : walkL (besideL 5 exE) 0 = ([0, 2, 3, 1], [-1, 3, 0, 2, -1]) := by decide
theorem ex_away2 : awayL (besideL 5 exE) 2 = [1, 2, 0, 1, -1] := by decide
theorem ex_away0 : awayL (besideL 5 exE) 0 = [0, 2, 1, 1, -1] := by decide
theorem ex_away4 : awayL (besideL 5 exE) 4 = [-1, -1, -1, -1, 0] := by decide
theorem ex_path10 : pathL (besideL 5 exE) 1 0 = [1, 3, 0] := by decide
theorem ex_path22 : pathL (besideL 5 exE) 2 2 = [2] := by decide
theorem ex_sort1 : sortN [0, 2, 3, 1] = [0, 1, 2, 3] := by simp [sortN, List.mergeSort, List.MergeSort.Internal.splitInTwo]
theorem ex_sort2 : sortN [4] = [4] := by simp [sortN]
theorem ex_w0 : (walkL (besideL 5 exE) 0).1 = [0, 2, 3, 1] := by decide
theorem ex_w4 : (walkL (besideL 5 exE) 4).1 = [4] := by decide
theorem ex_parts : partsL (besideL 5 exE) = [[0, 1, 2, 3], [4]] := by
  have h : List.range (besideL 5 exE).length = [0, 1, 2, 3, 4] := by decide
  unfold partsL
  rw [h]
  simp only [List.foldl_cons, List.foldl_nil, parts1, ex_w0, ex_w4]
  simp [ex_sort1, ex_sort2]

/-- true, and nothing that was there has turned -/
def RetT (w : World) (b : Bool) (e : Ending) (w' : World) : Prop := e = .returned (.bool b) ∧ Below w.heap.size w w'

theorem bl_drewN {w w1 : World} (h : Below w.heap.size w w1) (n : Nat) : Below w.heap.size w (w1.drewN n) := below_drewN h n

theorem ex_len : exE.length = 4 := rfl
theorem exWalk (b : Nat) (W : World) (hr : RdP W (some ⟨b, 0, none⟩) exE) :
    Calls Try.prog 12 #[.agg #[.int .i64 5, .slice (some ⟨b, 0, none⟩) 4 4], .int .i64 0] W fun e w' =>
      ∃ go co gu, e = .returned (.tuple #[.slice (some ⟨go, 0, none⟩) 4 co, .slice (some ⟨gu, 0, none⟩) 5 5, .int .i64 0]) ∧ RdI w' (some ⟨go, 0, none⟩) [0, 2, 3, 1] ∧ RdI w' (some ⟨gu, 0, none⟩) [-1, 3, 0, 2, -1] ∧ Below W.heap.size W w' := by
  have h := walkFn_walk 5 (some ⟨b, 0, none⟩) 4 exE 0 W hr (by decide)
  rw [ex_len] at h
  refine h.mono ?_
  rintro e w' ⟨hb, ⟨h1, _⟩ | ⟨_, h1, _⟩ | ⟨_, _, go, co, gu, rfl, h1, h2, _⟩⟩
  · exact absurd exE_right (by rw [h1]; simp)
  · exact absurd h1 (by decide)
  · have e0 : (0 : Int).toNat = 0 := rfl
    have e5 : (5 : Int).toNat = 5 := rfl
    rw [e0, e5, ex_walk] at *
    exact ⟨go, co, gu, rfl, h1.rdN, h2.rdI, hb⟩
theorem exAway (b : Nat) (W : World) (hr : RdP W (some ⟨b, 0, none⟩) exE) :
    Calls Try.prog 14 #[.agg #[.int .i64 5, .slice (some ⟨b, 0, none⟩) 4 4], .int .i64 2] W fun e w' =>
      ∃ g c, e = .returned (.tuple #[.slice (some ⟨g, 0, none⟩) 5 c, .int .i64 0]) ∧ RdI w' (some ⟨g, 0, none⟩) [1, 2, 0, 1, -1] ∧ Below W.heap.size W w' := by
  have h := awayFn_walk 5 (some ⟨b, 0, none⟩) 4 exE 2 W hr (by decide)
  rw [ex_len] at h
  refine h.mono ?_
  rintro e w' ⟨hb, ⟨h1, _⟩ | ⟨_, h1, _⟩ | ⟨_, _, g, c, rfl, h1, _⟩⟩
  · exact absurd exE_right (by rw [h1]; simp)
  · exact absurd h1 (by decide)
  · have e0 : (2 : Int).toNat = 2 := rfl
    have e5 : (5 : Int).toNat = 5 := rfl
    rw [e0, e5, ex_away2] at *
    exact ⟨g, c, rfl, h1.rdI, hb⟩
theorem exPath10 (b : Nat) (W : World) (hr : RdP W (some ⟨b, 0, none⟩) exE) :
    Calls Try.prog 16 #[.agg #[.int .i64 5, .slice (some ⟨b, 0, none⟩) 4 4], .int .i64 1, .int .i64 0] W fun e w' =>
      ∃ g c, e = .returned (.tuple #[.slice (some ⟨g, 0, none⟩) 3 c, .int .i64 0]) ∧ RdI w' (some ⟨g, 0, none⟩) [1, 3, 0] ∧ Below W.heap.size W w' := by
  have h := pathFn_walk 5 (some ⟨b, 0, none⟩) 4 exE 1 0 W hr (by decide)
  rw [ex_len] at h
  refine h.mono ?_
  rintro e w' ⟨hb, ⟨h1, _⟩ | ⟨_, h1, _⟩ | ⟨_, _, _, h1, _⟩ | ⟨_, _, _, _, g, c, rfl, h1, _⟩⟩
  · exact absurd exE_right (by rw [h1]; simp)
  · exact absurd h1 (by decide)
  · exact absurd h1 (by decide)
  · have e0 : (0 : Int).toNat = 0 := rfl
    have e1 : (1 : Int).toNat = 1 := rfl
    have e5 : (5 : Int).toNat = 5 := rfl
    rw [e0, e1, e5, ex_path10] at *
    exact ⟨g, c, rfl, h1.rdN, hb⟩
theorem exPath22 (b : Nat) (W : World) (hr : RdP W (some ⟨b, 0, none⟩) exE) :
    Calls Try.prog 16 #[.agg #[.int .i64 5, .slice (some ⟨b, 0, none⟩) 4 4], .int .i64 2, .int .i64 2] W fun e w' =>
      ∃ g c, e = .returned (.tuple #[.slice (some ⟨g, 0, none⟩) 1 c, .int .i64 0]) ∧ RdI w' (some ⟨g, 0, none⟩) [2] ∧ Below W.heap.size W w' := by
  have h := pathFn_walk 5 (some ⟨b, 0, none⟩) 4 exE 2 2 W hr (by decide)
  rw [ex_len] at h
  refine h.mono ?_
  rintro e w' ⟨hb, ⟨h1, _⟩ | ⟨_, h1, _⟩ | ⟨_, _, _, h1, _⟩ | ⟨_, _, _, _, g, c, rfl, h1, _⟩⟩
  · exact absurd exE_right (by rw [h1]; simp)
  · exact absurd h1 (by decide)
  · exact absurd h1 (by decide)
  · have e0 : (2 : Int).toNat = 2 := rfl
    have e5 : (5 : Int).toNat = 5 := rfl
    rw [e0, e5, ex_path22] at *
    exact ⟨g, c, rfl, h1.rdN, hb⟩
theorem exPath04 (b : Nat) (W : World) (hr : RdP W (some ⟨b, 0, none⟩) exE) :
    Calls Try.prog 16 #[.agg #[.int .i64 5, .slice (some ⟨b, 0, none⟩) 4 4], .int .i64 0, .int .i64 4] W fun e w' =>
      e = .returned (.tuple #[.slice none 0 0, .int .i64 60]) ∧ Below W.heap.size W w' := by
  have h := pathFn_walk 5 (some ⟨b, 0, none⟩) 4 exE 0 4 W hr (by decide)
  rw [ex_len] at h
  refine h.mono ?_
  rintro e w' ⟨hb, ⟨h1, _⟩ | ⟨_, h1, _⟩ | ⟨_, _, _, h1, rfl⟩ | ⟨_, _, _, h1, g, c, rfl, _, _⟩⟩
  · exact absurd exE_right (by rw [h1]; simp)
  · exact absurd h1 (by decide)
  · exact ⟨rfl, hb⟩
  · exact absurd h1 (by decide)
theorem exParts (b : Nat) (W : World) (hr : RdP W (some ⟨b, 0, none⟩) exE) :
    Calls Try.prog 20 #[.agg #[.int .i64 5, .slice (some ⟨b, 0, none⟩) 4 4]] W fun e w' =>
      ∃ g c, e = .returned (.slice (some ⟨g, 0, none⟩) 2 c) ∧ RdR w' (some ⟨g, 0, none⟩) [[0, 1, 2, 3], [4]] ∧ Below W.heap.size W w' := by
  have h := partsFn_walk 5 (some ⟨b, 0, none⟩) 4 exE W hr (by decide)
  rw [ex_len] at h
  refine h.mono ?_
  rintro e w' ⟨hb, ⟨h1, _⟩ | ⟨_, g, c, vals, rfl, h1⟩⟩
  · exact absurd exE_right (by rw [h1]; simp)
  · have e5 : (5 : Int).toNat = 5 := rfl
    have h2 := h1.rdR
    rw [e5, ex_parts] at *
    exact ⟨g, c, rfl, h2, hb⟩

/-- SameInts of two that are the same -/
theorem sameInts_yes (a b : Option Addr) (ca cb n m : Nat) (xs : List Int) (w : World) (hx : RdI w a xs) (hy : RdI w b xs) (hn : xs.length = n) (hm : xs.length = m) (hl : n ≤ 1000) :
    Calls Try.prog 18 #[.slice a n ca, .slice b m cb] w fun e w' => e = .returned (.bool true) ∧ ∃ k, w' = w.drewN k := by
  subst hn; subst hm
  have h := sameInts_walk a b ca cb xs xs w hx hy (by omega) (by omega)
  rwa [show sameI xs xs = true by simp [sameI]] at h
theorem sameLists_yes (a b : Option Addr) (ca cb n m : Nat) (xs : List (List Int)) (w : World) (hx : RdR w a xs) (hy : RdR w b xs) (hn : xs.length = n) (hm : xs.length = m) (hl : n ≤ 1000) :
    Calls Try.prog 19 #[.slice a n ca, .slice b m cb] w fun e w' => e = .returned (.bool true) ∧ ∃ k, w' = w.drewN k := by
  subst hn; subst hm
  have h := sameIntLists_walk a b ca cb xs xs w hx hy (by omega) (by omega)
  rwa [show sameL xs xs = true by simp [sameL]] at h

set_option maxHeartbeats 2000000 in
theorem awake_walk (w : World) : Calls Try.prog 10 #[] w (RetT w true) := by
  go_enter Try.func10, Try.ntmps10
  go_wp2_with fail
  have hB0 : Below w.heap.size w ((w.alloc (.cells #[.int .i64 0, .int .i64 2, .int .i64 0, .int .i64 3, .int .i64 1, .int .i64 3, .int .i64 2, .int .i64 3] 43)).alloc (.cells #[.int .i64 5, .slice (some ⟨w.heap.size, 0, none⟩) 4 4] 24)) := bl_trans (bl_alloc _ _) (bl_alloc _ _)
  have hr0 : RdP ((w.alloc (.cells #[.int .i64 0, .int .i64 2, .int .i64 0, .int .i64 3, .int .i64 1, .int .i64 3, .int .i64 2, .int .i64 3] 43)).alloc (.cells #[.int .i64 5, .slice (some ⟨w.heap.size, 0, none⟩) 4 4] 24)) (some ⟨w.heap.size, 0, none⟩) exE :=
    CellsAt.below (cellsAt_new w _ _ _ rfl (by unfold maxLen; simp)) (bl_alloc _ _)
  have hc0 : ((w.alloc (.cells #[.int .i64 0, .int .i64 2, .int .i64 0, .int .i64 3, .int .i64 1, .int .i64 3, .int .i64 2, .int .i64 3] 43)).alloc (.cells #[.int .i64 5, .slice (some ⟨w.heap.size, 0, none⟩) 4 4] 24)).cell? ⟨w.heap.size + 1, 0, none⟩ = some (.int .i64 5) := by simp
  have hc1 : ((w.alloc (.cells #[.int .i64 0, .int .i64 2, .int .i64 0, .int .i64 3, .int .i64 1, .int .i64 3, .int .i64 2, .int .i64 3] 43)).alloc (.cells #[.int .i64 5, .slice (some ⟨w.heap.size, 0, none⟩) 4 4] 24)).cell? ⟨w.heap.size + 1, 1, none⟩ = some (.slice (some ⟨w.heap.size, 0, none⟩) 4 4) := by simp
  generalize (w.alloc (.cells #[.int .i64 0, .int .i64 2, .int .i64 0, .int .i64 3, .int .i64 1, .int .i64 3, .int .i64 2, .int .i64 3] 43)).alloc (.cells #[.int .i64 5, .slice (some ⟨w.heap.size, 0, none⟩) 4 4] 24) = W0 at *
  refine (exWalk _ _ hr0).mono ?_
  rintro e w1 ⟨go, co, gu, rfl, hl, hup, hb1⟩
  replace hc0 := keep_cell hb1 hc0; replace hc1 := keep_cell hb1 hc1; replace hr0 := hr0.below hb1; replace hB0 := bl_trans hB0 hb1
  clear hb1
  go_wp2_with fail
  refine (exAway _ _ hr0).mono ?_
  rintro e w2 ⟨gd, cd, rfl, hd, hb1⟩
  replace hc0 := keep_cell hb1 hc0; replace hc1 := keep_cell hb1 hc1; replace hr0 := hr0.below hb1; replace hB0 := bl_trans hB0 hb1; replace hl := hl.below hb1; replace hup := hup.below hb1
  clear hb1
  go_wp2_with fail
  refine (exPath10 _ _ hr0).mono ?_
  rintro e w3 ⟨gp, cp, rfl, hp, hb1⟩
  replace hc0 := keep_cell hb1 hc0; replace hc1 := keep_cell hb1 hc1; replace hr0 := hr0.below hb1; replace hB0 := bl_trans hB0 hb1; replace hl := hl.below hb1; replace hup := hup.below hb1; replace hd := hd.below hb1
  clear hb1
  go_wp2_with fail
  refine (exPath22 _ _ hr0).mono ?_
  rintro e w4 ⟨gq, cq, rfl, hq, hb1⟩
  replace hc0 := keep_cell hb1 hc0; replace hc1 := keep_cell hb1 hc1; replace hr0 := hr0.below hb1; replace hB0 := bl_trans hB0 hb1; replace hl := hl.below hb1; replace hup := hup.below hb1; replace hd := hd.below hb1; replace hp := hp.below hb1
  clear hb1
  go_wp2_with fail
  refine (exPath04 _ _ hr0).mono ?_
  rintro e w5 ⟨rfl, hb1⟩
  replace hc0 := keep_cell hb1 hc0; replace hc1 := keep_cell hb1 hc1; replace hr0 := hr0.below hb1; replace hB0 := bl_trans hB0 hb1; replace hl := hl.below hb1; replace hup := hup.below hb1; replace hd := hd.below hb1; replace hp := hp.below hb1; replace hq := hq.below hb1
  clear hb1
  go_wp2_with fail
  refine (sameInts_yes _ _ _ _ _ _ [0, 2, 3, 1] _ (hl.below (bl_alloc _ _)) (cellsAt_new _ _ _ _ rfl (by unfold maxLen; simp)) rfl rfl (by simp)).mono ?_
  rintro e w6 ⟨rfl, k, hk⟩
  have hb1 : Below w5.heap.size w5 w6 := by rw [hk]; exact bl_drewN (bl_alloc _ _) _
  clear hk hl
  replace hc0 := keep_cell hb1 hc0; replace hc1 := keep_cell hb1 hc1; replace hr0 := hr0.below hb1; replace hB0 := bl_trans hB0 hb1; replace hup := hup.below hb1; replace hd := hd.below hb1; replace hp := hp.below hb1; replace hq := hq.below hb1
  clear hb1
  go_wp2_with fail
  refine (sameInts_yes _ _ _ _ _ _ [-1, 3, 0, 2, -1] _ (hup.below (bl_alloc _ _)) (cellsAt_new _ _ _ _ rfl (by unfold maxLen; simp)) rfl rfl (by simp)).mono ?_
  rintro e w7 ⟨rfl, k, hk⟩
  have hb1 : Below w6.heap.size w6 w7 := by rw [hk]; exact bl_drewN (bl_alloc _ _) _
  clear hk hup
  replace hc0 := keep_cell hb1 hc0; replace hc1 := keep_cell hb1 hc1; replace hr0 := hr0.below hb1; replace hB0 := bl_trans hB0 hb1; replace hd := hd.below hb1; replace hp := hp.below hb1; replace hq := hq.below hb1
  clear hb1
  go_wp2_with fail
  refine (sameInts_yes _ _ _ _ _ _ [1, 2, 0, 1, -1] _ (hd.below (bl_alloc _ _)) (cellsAt_new _ _ _ _ rfl (by unfold maxLen; simp)) rfl rfl (by simp)).mono ?_
  rintro e w8 ⟨rfl, k, hk⟩
  have hb1 : Below w7.heap.size w7 w8 := by rw [hk]; exact bl_drewN (bl_alloc _ _) _
  clear hk hd
  replace hc0 := keep_cell hb1 hc0; replace hc1 := keep_cell hb1 hc1; replace hr0 := hr0.below hb1; replace hB0 := bl_trans hB0 hb1; replace hp := hp.below hb1; replace hq := hq.below hb1
  clear hb1
  go_wp2_with fail
  refine (sameInts_yes _ _ _ _ _ _ [1, 3, 0] _ (hp.below (bl_alloc _ _)) (cellsAt_new _ _ _ _ rfl (by unfold maxLen; simp)) rfl rfl (by simp)).mono ?_
  rintro e w9 ⟨rfl, k, hk⟩
  have hb1 : Below w8.heap.size w8 w9 := by rw [hk]; exact bl_drewN (bl_alloc _ _) _
  clear hk hp
  replace hc0 := keep_cell hb1 hc0; replace hc1 := keep_cell hb1 hc1; replace hr0 := hr0.below hb1; replace hB0 := bl_trans hB0 hb1; replace hq := hq.below hb1
  clear hb1
  go_wp2_with fail
  refine (sameInts_yes _ _ _ _ _ _ [2] _ (hq.below (bl_alloc _ _)) (cellsAt_new _ _ _ _ rfl (by unfold maxLen; simp)) rfl rfl (by simp)).mono ?_
  rintro e w10 ⟨rfl, k, hk⟩
  have hb1 : Below w9.heap.size w9 w10 := by rw [hk]; exact bl_drewN (bl_alloc _ _) _
  clear hk hq
  replace hc0 := keep_cell hb1 hc0; replace hc1 := keep_cell hb1 hc1; replace hr0 := hr0.below hb1; replace hB0 := bl_trans hB0 hb1
  clear hb1
  go_wp2_with fail
  refine (exParts _ _ hr0).mono ?_
  rintro e w11 ⟨g, c, rfl, hpp, hb1⟩
  replace hc0 := keep_cell hb1 hc0; replace hc1 := keep_cell hb1 hc1; replace hr0 := hr0.below hb1; replace hB0 := bl_trans hB0 hb1
  clear hb1
  go_wp2_with fail
  have q1 : RdI (((w11.alloc (.cells #[.int .i64 0, .int .i64 1, .int .i64 2, .int .i64 3] 3)).alloc (.cells #[.int .i64 4] 3)).alloc (.cells #[.slice (some ⟨w11.heap.size, 0, none⟩) 4 4, .slice (some ⟨w11.heap.size + 1, 0, none⟩) 1 1] 27)) (some ⟨w11.heap.size, 0, none⟩) [0, 1, 2, 3] :=
    ((cellsAt_new w11 _ _ _ rfl (by unfold maxLen; simp)).below (bl_alloc _ _)).below (bl_alloc _ _)
  have q2 : RdI (((w11.alloc (.cells #[.int .i64 0, .int .i64 1, .int .i64 2, .int .i64 3] 3)).alloc (.cells #[.int .i64 4] 3)).alloc (.cells #[.slice (some ⟨w11.heap.size, 0, none⟩) 4 4, .slice (some ⟨w11.heap.size + 1, 0, none⟩) 1 1] 27)) (some ⟨w11.heap.size + 1, 0, none⟩) [4] := by
    have := cellsAt_new (w11.alloc (.cells #[.int .i64 0, .int .i64 1, .int .i64 2, .int .i64 3] 3)) #[.int .i64 4] 3 [.int .i64 4] rfl (by unfold maxLen; simp)
    exact CellsAt.below (by simpa using this) (bl_alloc _ _)
  have q3 : RdR (((w11.alloc (.cells #[.int .i64 0, .int .i64 1, .int .i64 2, .int .i64 3] 3)).alloc (.cells #[.int .i64 4] 3)).alloc (.cells #[.slice (some ⟨w11.heap.size, 0, none⟩) 4 4, .slice (some ⟨w11.heap.size + 1, 0, none⟩) 1 1] 27)) (some ⟨w11.heap.size + 1 + 1, 0, none⟩) [[0, 1, 2, 3], [4]] := by
    have hc := cellsAt_new ((w11.alloc (.cells #[.int .i64 0, .int .i64 1, .int .i64 2, .int .i64 3] 3)).alloc (.cells #[.int .i64 4] 3)) #[.slice (some ⟨w11.heap.size, 0, none⟩) 4 4, .slice (some ⟨w11.heap.size + 1, 0, none⟩) 1 1] 27 _ rfl (by unfold maxLen; simp)
    simp only [World.size_alloc] at hc
    intro i r hr
    match i with
    | 0 =>
      simp at hr; subst hr
      obtain ⟨b, o, hb, hc0⟩ := hc 0 _ rfl
      exact ⟨b, o, hb, _, 4, hc0, q1, by simp⟩
    | 1 =>
      simp at hr; subst hr
      obtain ⟨b, o, hb, hc0⟩ := hc 1 _ rfl
      exact ⟨b, o, hb, _, 1, hc0, q2, by simp⟩
    | i + 2 => simp at hr
  have q4 : Below w.heap.size w (((w11.alloc (.cells #[.int .i64 0, .int .i64 1, .int .i64 2, .int .i64 3] 3)).alloc (.cells #[.int .i64 4] 3)).alloc (.cells #[.slice (some ⟨w11.heap.size, 0, none⟩) 4 4, .slice (some ⟨w11.heap.size + 1, 0, none⟩) 1 1] 27)) :=
    bl_trans (bl_trans (bl_trans hB0 (bl_alloc _ _)) (bl_alloc _ _)) (bl_alloc _ _)
  refine (sameLists_yes _ _ _ _ _ _ [[0, 1, 2, 3], [4]] _ (hpp.below (bl_trans (bl_trans (bl_alloc _ _) (bl_alloc _ _)) (bl_alloc _ _))) q3 rfl rfl (by simp)).mono ?_
  rintro e w12 ⟨rfl, k, hk⟩
  have q5 : Below w.heap.size w w12 := by rw [hk]; exact bl_drewN q4 _
  clear hk q1 q2 q3 q4 hpp
  go_wp2_with fail
  go_ret
  exact ⟨rfl, q5⟩
end Go.Proofs.Ytddndhhhmlcgjaa
