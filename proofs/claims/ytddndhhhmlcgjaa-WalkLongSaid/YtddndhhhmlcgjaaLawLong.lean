/- WalkLong returns true at every input, and leaves its arguments alone. No condition. -/
import Derived.Test.YtddndhhhmlcgjaaThere
import Derived.Test.YtddndhhhmlcgjaaRow
import Derived.Test.YtddndhhhmlcgjaaTop
import Derived.Test.YtddndhhhmlcgjaaPath
import Derived.Test.YtddndhhhmlcgjaaParts
import Derived.Test.YtddndhhhmlcgjaaLongQ
import Derived.Test.YtddndhhhmlcgjaaLongM
import Derived.BigRegion
namespace Go.Proofs.Ytddndhhhmlcgjaa
open Go Go.RowKit

theorem rowE_take {k : Nat} (h : k < 199) : rowE.take (k + 1) = rowE.take k ++ [((k : Int), (k : Int) + 1)] := by
  rw [List.take_succ_eq_append_getElem (by rw [rowE_len]; exact h)]; simp [rowE]
theorem starE_take {k : Nat} (h : k < 199) : starE.take (k + 1) = starE.take k ++ [((0 : Int), (k : Int) + 1)] := by
  rw [List.take_succ_eq_append_getElem (by rw [starE_len]; exact h)]; simp [starE]

theorem longFacts {s : Nat} (hs : s < 200) : rightB 200 rowE = true ∧ rightB 200 starE = true ∧
    (walkL (besideL 200 rowE) s).1.length = 200 ∧ (∀ i, i < 200 → (walkL (besideL 200 rowE) s).1[i]? = some (rowF s i)) ∧
    (pathL (besideL 200 rowE) 0 199).length = 200 ∧ (∀ i, i < 200 → (pathL (besideL 200 rowE) 0 199)[i]? = some i) ∧
    (walkL (besideL 200 starE) 0).1.length = 200 ∧ (∀ i, i < 200 → (walkL (besideL 200 starE) 0).1[i]? = some i) ∧
    (∀ i, 0 < i → i < 200 → (walkL (besideL 200 starE) 0).2[i]? = some 0) ∧ (partsL (besideL 200 rowE)).length = 1 ∧
    0 ≤ (awayL (besideL 200 rowE) 199).getD 0 0 := by
  rw [row_walk hs, row_path, star_walk]
  refine ⟨rowE_right, starE_right, rowL_len _ _, fun i hi => rowL_get hi, List.length_range, fun i hi => List.getElem?_range hi, List.length_range, fun i hi => List.getElem?_range hi, fun i h0 h1 => star_up h0 h1, row_parts, ?_⟩
  rw [row_far 0 (by omega)]; decide

set_option maxRecDepth 100000 in
set_option maxHeartbeats 4000000 in
theorem walkLong_walk (x : Int) (w : World) (wx : (Lit.int .u8 x).wf = true) :
    Calls Try.prog 6 #[.int .u8 x] w (RetT w true) := by
  have hx : 0 ≤ x ∧ x ≤ 255 := Go.bounds_u8 wx
  obtain ⟨hx0, hx1⟩ := hx
  obtain ⟨s, hs⟩ : ∃ s : Nat, x % 200 = (s : Int) := ⟨(x % 200).toNat, by omega⟩
  have hs2 : s < 200 := by omega
  clear wx
  go_enter Try.func6, Try.ntmps6
  go_wp2_with fail
  rw [hs]
  clear hs hx0 hx1
  go_loopg [6] 199 (fun r i wr => ∃ (k : Nat) (v4 v5 : Value), i = .int .i64 ((k : Int) + 1) ∧ k + r = 199 ∧ TS w wr w.heap.size (w.heap.size + 1) (.int .i64 200) v4 v5 v4 v5 k k (rowE.take k) (starE.take k))
  case atStart =>
    exact ⟨0, .slice none 0 0, .slice none 0 0, rfl, by omega, by simp, by simp, by simp, by simp, fun i => by simp, fun i => by simp, own_nil _ _ _, own_nil _ _ _, fun g h => by simp [Value.ownBlock] at h, fun g h => by simp [Value.ownBlock] at h, fun g h => by simp [Value.ownBlock] at h, by omega, by omega, by omega, bl_trans (bl_alloc _ _) (bl_alloc _ _)⟩
  case round =>
    obtain ⟨k, v4, v5, rfl, hkr, ht⟩ := hrel
    by_cases hlt : k < 199
    · have c40 := ht.c40; have c41 := ht.c41; have c50 := ht.c50; have c51 := ht.c51
      have i1 : IntKind.i64.wrap ((k : Int) + 1 - 1) = (k : Int) := by rw [show ((k : Int) + 1 - 1) = k by omega]; exact IntWalk.i64_in _ (by omega)
      have i3 : IntKind.i64.wrap (k : Int) = (k : Int) := IntWalk.i64_in _ (by omega)
      have Hkr := Lib.hid hkr; clear hkr
      go_wp2_with fail
      refine regionT (fun w' => w'.cell? ⟨w.heap.size, 1, none⟩ = some v4 ∧ w'.cell? ⟨w.heap.size + 1, 1, none⟩ = some v5) 15 (by kernel_rfl) ?_
      have hS : wr.drew.cell? ⟨w.heap.size, 1, none⟩ = some v4 ∧ wr.drew.cell? ⟨w.heap.size + 1, 1, none⟩ = some v5 := ⟨c41, c51⟩
      refine takeT (i := 0) (v := ?_) rfl (by kernel_rfl) (fun _ _ _ h => h) (Or.inl ⟨rfl, ?_⟩) hS ?_
      rotate_left
      · (intro wS hSw; (try dsimp only at hSw); go_simp; try (with_reducible rfl))
      simp only [Act.put, List.setIfInBounds_toArray, List.set_cons_zero, List.set_cons_succ]
      refine takeT (i := 1) (v := ?_) rfl (by kernel_rfl) (fun _ _ _ h => h) (Or.inl ⟨rfl, ?_⟩) hS ?_
      rotate_left
      · (intro wS hSw; (try dsimp only at hSw); go_simp; try (with_reducible rfl))
      simp only [Act.put, List.setIfInBounds_toArray, List.set_cons_zero, List.set_cons_succ]
      refine takeT (i := 2) (v := ?_) rfl (by kernel_rfl) (fun _ _ _ h => h) (Or.inl ⟨rfl, ?_⟩) hS ?_
      rotate_left
      · (intro wS hSw; (try dsimp only at hSw); go_simp; try (with_reducible rfl))
      simp only [Act.put, List.setIfInBounds_toArray, List.set_cons_zero, List.set_cons_succ]
      refine takeT (i := 3) (v := ?_) rfl (by kernel_rfl) (fun _ _ _ h => h) (Or.inl ⟨rfl, ?_⟩) hS ?_
      rotate_left
      · (intro wS hSw; (try dsimp only at hSw); go_simp; try (with_reducible rfl))
      simp only [Act.put, List.setIfInBounds_toArray, List.set_cons_zero, List.set_cons_succ]
      refine takeT (i := 4) (v := ?_) rfl (by kernel_rfl) (fun _ _ _ h => h) (Or.inl ⟨rfl, ?_⟩) hS ?_
      rotate_left
      · (intro wS hSw; (try dsimp only at hSw); go_simp; try (with_reducible rfl))
      simp only [Act.put, List.setIfInBounds_toArray, List.set_cons_zero, List.set_cons_succ]
      refine takeT (i := 5) (v := ?_) rfl (by kernel_rfl) (fun _ _ _ h => h) (Or.inl ⟨rfl, ?_⟩) hS ?_
      rotate_left
      · (intro wS hSw; (try dsimp only at hSw); go_simp; try (with_reducible rfl))
      simp only [Act.put, List.setIfInBounds_toArray, List.set_cons_zero, List.set_cons_succ]
      refine takeT (i := 8) (v := ?_) rfl (by kernel_rfl) (fun _ _ _ h => h) (Or.inl ⟨rfl, ?_⟩) hS ?_
      rotate_left
      · (intro wS hSw; (try dsimp only at hSw); go_simp; try (with_reducible rfl))
      simp only [Act.put, List.setIfInBounds_toArray, List.set_cons_zero, List.set_cons_succ]
      refine takeT (i := 9) (v := ?_) rfl (by kernel_rfl) (fun _ _ _ h => h) (Or.inl ⟨rfl, ?_⟩) hS ?_
      rotate_left
      · (intro wS hSw; (try dsimp only at hSw); go_simp; try (with_reducible rfl))
      simp only [Act.put, List.setIfInBounds_toArray, List.set_cons_zero, List.set_cons_succ]
      refine takeT (i := 10) (v := ?_) rfl (by kernel_rfl) (fun _ _ _ h => h) (Or.inl ⟨rfl, ?_⟩) hS ?_
      rotate_left
      · (intro wS hSw; (try dsimp only at hSw); go_simp; try (with_reducible rfl))
      simp only [Act.put, List.setIfInBounds_toArray, List.set_cons_zero, List.set_cons_succ]
      refine takeT (i := 11) (v := ?_) rfl (by kernel_rfl) (fun _ _ _ h => h) (Or.inl ⟨rfl, ?_⟩) hS ?_
      rotate_left
      · (intro wS hSw; (try dsimp only at hSw); go_simp; try (with_reducible rfl))
      simp only [Act.put, List.setIfInBounds_toArray, List.set_cons_zero, List.set_cons_succ]
      refine twoT (i := 6) (i' := 12) rfl rfl (by kernel_rfl) (fun K hK => ?_) (fun K hK => ?_)
      · skip
        go_simp
        have hbwa : Below wr.heap.size wr ((wr.alloc (.cells #[.int .i64 (k : Int), .int .i64 ((k : Int) + 1)] 43)).drew) := (bl_alloc _ _).drew
        have ta := ht.ext hbwa
        refine hK _ _ (fun _ => ⟨ta.c41, ta.c51⟩) ?_
        clear hK K
        have p0wa : ((wr.alloc (.cells #[.int .i64 (k : Int), .int .i64 ((k : Int) + 1)] 43)).drew).cell? ⟨wr.heap.size, 0, none⟩ = some (.int .i64 (k : Int)) := by simp
        have p1wa : ((wr.alloc (.cells #[.int .i64 (k : Int), .int .i64 ((k : Int) + 1)] 43)).drew).cell? ⟨wr.heap.size, 1, none⟩ = some (.int .i64 ((k : Int) + 1)) := by simp
        have szwa : wr.heap.size < ((wr.alloc (.cells #[.int .i64 (k : Int), .int .i64 ((k : Int) + 1)] 43)).drew).heap.size := by simp
        generalize (wr.alloc (.cells #[.int .i64 (k : Int), .int .i64 ((k : Int) + 1)] 43)).drew = wa at hbwa ta p0wa p1wa szwa ⊢
        have hS := And.intro ta.c41 ta.c51
        refine twoT (i := 7) (i' := 12) rfl rfl (by kernel_rfl) (fun K hK => ?_) (fun K hK => ?_)
        · skip
          refine step_append_row rfl (.tmp 27) (.tmp 32) 22 rfl 43 (.agg #[.int .i64 0, .int .i64 0]) 2 16 Try.underlying22 pair_info rfl v4 k _ (by simp [Act.eval]) ta.o4 ⟨wr.heap.size, 0, none⟩ 1 1 [.int .i64 (k : Int), .int .i64 ((k : Int) + 1)] (by simp [Act.eval]) rfl (two_new p0wa p1wa) (by intro u hu; simp at hu; rcases hu with rfl | rfl <;> rfl) (by omega) (by unfold maxLen; omega) (by omega) ?_
          intro gwb ccwb wb hrwb hcwb hgwb howb
          have tb := ta.app4 (p := ((k : Int), (k : Int) + 1)) hrwb hcwb hgwb howb
          refine hK _ _ (fun _ => ⟨tb.c41, tb.c51⟩) ?_
          clear hK K
          have hS := And.intro tb.c41 tb.c51
          refine takeT (i := 14) (v := ?_) rfl (by kernel_rfl) (fun _ _ _ h => h) (Or.inl ⟨rfl, ?_⟩) hS ?_
          rotate_left
          · (intro wS hSw; (try dsimp only at hSw); go_simp; try (with_reducible rfl))
          simp only [Act.put, List.setIfInBounds_toArray, List.set_cons_zero, List.set_cons_succ]
          refine oneT (i := 12) rfl (by kernel_rfl) (fun K hK => ?_)
          go_simp
          have hbwc : Below wb.heap.size wb ((wb.alloc (.cells #[.int .i64 0, .int .i64 ((k : Int) + 1)] 43))) := (bl_alloc _ _)
          have tc := tb.ext hbwc
          refine hK _ _ (fun _ => ⟨tc.c41, tc.c51⟩) ?_
          clear hK K
          have p0wc : ((wb.alloc (.cells #[.int .i64 0, .int .i64 ((k : Int) + 1)] 43))).cell? ⟨wb.heap.size, 0, none⟩ = some (.int .i64 0) := by simp
          have p1wc : ((wb.alloc (.cells #[.int .i64 0, .int .i64 ((k : Int) + 1)] 43))).cell? ⟨wb.heap.size, 1, none⟩ = some (.int .i64 ((k : Int) + 1)) := by simp
          have szwc : wb.heap.size < ((wb.alloc (.cells #[.int .i64 0, .int .i64 ((k : Int) + 1)] 43))).heap.size := by simp
          generalize (wb.alloc (.cells #[.int .i64 0, .int .i64 ((k : Int) + 1)] 43)) = wc at hbwc tc p0wc p1wc szwc ⊢
          have hS := And.intro tc.c41 tc.c51
          refine oneT (i := 13) rfl (by kernel_rfl) (fun K hK => ?_)
          refine step_append_row rfl (.tmp 35) (.tmp 38) 22 rfl 43 (.agg #[.int .i64 0, .int .i64 0]) 2 16 Try.underlying22 pair_info rfl v5 k _ (by simp [Act.eval]) tc.o5 ⟨wb.heap.size, 0, none⟩ 1 1 [.int .i64 (0 : Int), .int .i64 ((k : Int) + 1)] (by simp [Act.eval]) rfl (two_new p0wc p1wc) (by intro u hu; simp at hu; rcases hu with rfl | rfl <;> rfl) (by omega) (by unfold maxLen; omega) (by omega) ?_
          intro gwd ccwd wd hrwd hcwd hgwd howd
          have td := tc.app5 (p := ((0 : Int), (k : Int) + 1)) hrwd hcwd hgwd howd
          refine hK _ _ (fun _ => ⟨td.c41, td.c51⟩) ?_
          clear hK K
          have hS := And.intro td.c41 td.c51
          have a1 := td.c41
          have a2 := td.f4 1
          have a3 := (td.store4 (.slice (some ⟨gwb, 0, none⟩) (k + 1) ccwb)).c51
          have a4 := (td.store4 (.slice (some ⟨gwb, 0, none⟩) (k + 1) ccwb)).f5 1
          refine oneT (i := 15) rfl (by kernel_rfl) (fun K hK => ?_)
          go_simp
          refine hK _ _ (fun h => absurd h (by omega)) ?_
          clear hK K
          refine oneT (i := 16) rfl (by kernel_rfl) (fun K hK => ?_)
          go_simp
          refine hK _ _ (fun h => absurd h (by omega)) ?_
          clear hK K
          refine oneT (i := 17) rfl (by kernel_rfl) (fun K hK => ?_)
          go_simp
          refine hK _ _ (fun h => absurd h (by omega)) ?_
          clear hK K
          refine doneT (by kernel_rfl) ?_ _
          go_wp2_with fail
          go_roundg (gk - 1)
          case measure => have := Hkr.out; omega
          case rel =>
            have hT := (td.store4 (.slice (some ⟨gwb, 0, none⟩) (k + 1) ccwb)).store5 (.slice (some ⟨gwd, 0, none⟩) (k + 1) ccwd)
            rw [← rowE_take hlt, ← starE_take hlt] at hT
            exact ⟨k + 1, .slice (some ⟨gwb, 0, none⟩) (k + 1) ccwb, .slice (some ⟨gwd, 0, none⟩) (k + 1) ccwd, by go_num, by have := Hkr.out; omega, hT⟩
        · skip
          go_simp
          have hbwb : Below wa.heap.size wa ((wa.alloc (.cells #[.int .i64 0, .int .i64 ((k : Int) + 1)] 43))) := (bl_alloc _ _)
          have tb := ta.ext hbwb
          refine hK _ _ (fun _ => ⟨tb.c41, tb.c51⟩) ?_
          clear hK K
          have p0wb : ((wa.alloc (.cells #[.int .i64 0, .int .i64 ((k : Int) + 1)] 43))).cell? ⟨wa.heap.size, 0, none⟩ = some (.int .i64 0) := by simp
          have p1wb : ((wa.alloc (.cells #[.int .i64 0, .int .i64 ((k : Int) + 1)] 43))).cell? ⟨wa.heap.size, 1, none⟩ = some (.int .i64 ((k : Int) + 1)) := by simp
          have szwb : wa.heap.size < ((wa.alloc (.cells #[.int .i64 0, .int .i64 ((k : Int) + 1)] 43))).heap.size := by simp
          generalize (wa.alloc (.cells #[.int .i64 0, .int .i64 ((k : Int) + 1)] 43)) = wb at hbwb tb p0wb p1wb szwb ⊢
          have hS := And.intro tb.c41 tb.c51
          have p0x := keep_cell hbwb p0wa
          have p1x := keep_cell hbwb p1wa
          refine oneT (i := 7) rfl (by kernel_rfl) (fun K hK => ?_)
          refine step_append_row rfl (.tmp 27) (.tmp 32) 22 rfl 43 (.agg #[.int .i64 0, .int .i64 0]) 2 16 Try.underlying22 pair_info rfl v4 k _ (by simp [Act.eval]) tb.o4 ⟨wr.heap.size, 0, none⟩ 1 1 [.int .i64 (k : Int), .int .i64 ((k : Int) + 1)] (by simp [Act.eval]) rfl (two_new p0x p1x) (by intro u hu; simp at hu; rcases hu with rfl | rfl <;> rfl) (by omega) (by unfold maxLen; omega) (by omega) ?_
          intro gwc ccwc wc hrwc hcwc hgwc howc
          have tc := tb.app4 (p := ((k : Int), (k : Int) + 1)) hrwc hcwc hgwc howc
          refine hK _ _ (fun _ => ⟨tc.c41, tc.c51⟩) ?_
          clear hK K
          have hS := And.intro tc.c41 tc.c51
          have p0y := grown_cell hgwc p0wb (fun e => by have := ta.o4.lt e; omega)
          have p1y := grown_cell hgwc p1wb (fun e => by have := ta.o4.lt e; omega)
          refine takeT (i := 14) (v := ?_) rfl (by kernel_rfl) (fun _ _ _ h => h) (Or.inl ⟨rfl, ?_⟩) hS ?_
          rotate_left
          · (intro wS hSw; (try dsimp only at hSw); go_simp; try (with_reducible rfl))
          simp only [Act.put, List.setIfInBounds_toArray, List.set_cons_zero, List.set_cons_succ]
          refine oneT (i := 13) rfl (by kernel_rfl) (fun K hK => ?_)
          refine step_append_row rfl (.tmp 35) (.tmp 38) 22 rfl 43 (.agg #[.int .i64 0, .int .i64 0]) 2 16 Try.underlying22 pair_info rfl v5 k _ (by simp [Act.eval]) tc.o5 ⟨wa.heap.size, 0, none⟩ 1 1 [.int .i64 (0 : Int), .int .i64 ((k : Int) + 1)] (by simp [Act.eval]) rfl (two_new p0y p1y) (by intro u hu; simp at hu; rcases hu with rfl | rfl <;> rfl) (by omega) (by unfold maxLen; omega) (by omega) ?_
          intro gwd ccwd wd hrwd hcwd hgwd howd
          have td := tc.app5 (p := ((0 : Int), (k : Int) + 1)) hrwd hcwd hgwd howd
          refine hK _ _ (fun _ => ⟨td.c41, td.c51⟩) ?_
          clear hK K
          have hS := And.intro td.c41 td.c51
          have a1 := td.c41
          have a2 := td.f4 1
          have a3 := (td.store4 (.slice (some ⟨gwc, 0, none⟩) (k + 1) ccwc)).c51
          have a4 := (td.store4 (.slice (some ⟨gwc, 0, none⟩) (k + 1) ccwc)).f5 1
          refine oneT (i := 15) rfl (by kernel_rfl) (fun K hK => ?_)
          go_simp
          refine hK _ _ (fun h => absurd h (by omega)) ?_
          clear hK K
          refine oneT (i := 16) rfl (by kernel_rfl) (fun K hK => ?_)
          go_simp
          refine hK _ _ (fun h => absurd h (by omega)) ?_
          clear hK K
          refine oneT (i := 17) rfl (by kernel_rfl) (fun K hK => ?_)
          go_simp
          refine hK _ _ (fun h => absurd h (by omega)) ?_
          clear hK K
          refine doneT (by kernel_rfl) ?_ _
          go_wp2_with fail
          go_roundg (gk - 1)
          case measure => have := Hkr.out; omega
          case rel =>
            have hT := (td.store4 (.slice (some ⟨gwc, 0, none⟩) (k + 1) ccwc)).store5 (.slice (some ⟨gwd, 0, none⟩) (k + 1) ccwd)
            rw [← rowE_take hlt, ← starE_take hlt] at hT
            exact ⟨k + 1, .slice (some ⟨gwc, 0, none⟩) (k + 1) ccwc, .slice (some ⟨gwd, 0, none⟩) (k + 1) ccwd, by go_num, by have := Hkr.out; omega, hT⟩
      · skip
        go_simp
        have hbwa : Below wr.heap.size wr ((wr.alloc (.cells #[.int .i64 0, .int .i64 ((k : Int) + 1)] 43)).drew) := (bl_alloc _ _).drew
        have ta := ht.ext hbwa
        refine hK _ _ (fun _ => ⟨ta.c41, ta.c51⟩) ?_
        clear hK K
        have p0wa : ((wr.alloc (.cells #[.int .i64 0, .int .i64 ((k : Int) + 1)] 43)).drew).cell? ⟨wr.heap.size, 0, none⟩ = some (.int .i64 0) := by simp
        have p1wa : ((wr.alloc (.cells #[.int .i64 0, .int .i64 ((k : Int) + 1)] 43)).drew).cell? ⟨wr.heap.size, 1, none⟩ = some (.int .i64 ((k : Int) + 1)) := by simp
        have szwa : wr.heap.size < ((wr.alloc (.cells #[.int .i64 0, .int .i64 ((k : Int) + 1)] 43)).drew).heap.size := by simp
        generalize (wr.alloc (.cells #[.int .i64 0, .int .i64 ((k : Int) + 1)] 43)).drew = wa at hbwa ta p0wa p1wa szwa ⊢
        have hS := And.intro ta.c41 ta.c51
        refine oneT (i := 6) rfl (by kernel_rfl) (fun K hK => ?_)
        go_simp
        have hbwb : Below wa.heap.size wa ((wa.alloc (.cells #[.int .i64 (k : Int), .int .i64 ((k : Int) + 1)] 43))) := (bl_alloc _ _)
        have tb := ta.ext hbwb
        refine hK _ _ (fun _ => ⟨tb.c41, tb.c51⟩) ?_
        clear hK K
        have p0wb : ((wa.alloc (.cells #[.int .i64 (k : Int), .int .i64 ((k : Int) + 1)] 43))).cell? ⟨wa.heap.size, 0, none⟩ = some (.int .i64 (k : Int)) := by simp
        have p1wb : ((wa.alloc (.cells #[.int .i64 (k : Int), .int .i64 ((k : Int) + 1)] 43))).cell? ⟨wa.heap.size, 1, none⟩ = some (.int .i64 ((k : Int) + 1)) := by simp
        have szwb : wa.heap.size < ((wa.alloc (.cells #[.int .i64 (k : Int), .int .i64 ((k : Int) + 1)] 43))).heap.size := by simp
        generalize (wa.alloc (.cells #[.int .i64 (k : Int), .int .i64 ((k : Int) + 1)] 43)) = wb at hbwb tb p0wb p1wb szwb ⊢
        have hS := And.intro tb.c41 tb.c51
        have p0x := keep_cell hbwb p0wa
        have p1x := keep_cell hbwb p1wa
        refine oneT (i := 7) rfl (by kernel_rfl) (fun K hK => ?_)
        refine step_append_row rfl (.tmp 27) (.tmp 32) 22 rfl 43 (.agg #[.int .i64 0, .int .i64 0]) 2 16 Try.underlying22 pair_info rfl v4 k _ (by simp [Act.eval]) tb.o4 ⟨wa.heap.size, 0, none⟩ 1 1 [.int .i64 (k : Int), .int .i64 ((k : Int) + 1)] (by simp [Act.eval]) rfl (two_new p0wb p1wb) (by intro u hu; simp at hu; rcases hu with rfl | rfl <;> rfl) (by omega) (by unfold maxLen; omega) (by omega) ?_
        intro gwc ccwc wc hrwc hcwc hgwc howc
        have tc := tb.app4 (p := ((k : Int), (k : Int) + 1)) hrwc hcwc hgwc howc
        refine hK _ _ (fun _ => ⟨tc.c41, tc.c51⟩) ?_
        clear hK K
        have hS := And.intro tc.c41 tc.c51
        have p0y := grown_cell hgwc p0x (fun e => by have := ht.o4.lt e; omega)
        have p1y := grown_cell hgwc p1x (fun e => by have := ht.o4.lt e; omega)
        refine takeT (i := 14) (v := ?_) rfl (by kernel_rfl) (fun _ _ _ h => h) (Or.inl ⟨rfl, ?_⟩) hS ?_
        rotate_left
        · (intro wS hSw; (try dsimp only at hSw); go_simp; try (with_reducible rfl))
        simp only [Act.put, List.setIfInBounds_toArray, List.set_cons_zero, List.set_cons_succ]
        refine oneT (i := 13) rfl (by kernel_rfl) (fun K hK => ?_)
        refine step_append_row rfl (.tmp 35) (.tmp 38) 22 rfl 43 (.agg #[.int .i64 0, .int .i64 0]) 2 16 Try.underlying22 pair_info rfl v5 k _ (by simp [Act.eval]) tc.o5 ⟨wr.heap.size, 0, none⟩ 1 1 [.int .i64 (0 : Int), .int .i64 ((k : Int) + 1)] (by simp [Act.eval]) rfl (two_new p0y p1y) (by intro u hu; simp at hu; rcases hu with rfl | rfl <;> rfl) (by omega) (by unfold maxLen; omega) (by omega) ?_
        intro gwd ccwd wd hrwd hcwd hgwd howd
        have td := tc.app5 (p := ((0 : Int), (k : Int) + 1)) hrwd hcwd hgwd howd
        refine hK _ _ (fun _ => ⟨td.c41, td.c51⟩) ?_
        clear hK K
        have hS := And.intro td.c41 td.c51
        have a1 := td.c41
        have a2 := td.f4 1
        have a3 := (td.store4 (.slice (some ⟨gwc, 0, none⟩) (k + 1) ccwc)).c51
        have a4 := (td.store4 (.slice (some ⟨gwc, 0, none⟩) (k + 1) ccwc)).f5 1
        refine oneT (i := 15) rfl (by kernel_rfl) (fun K hK => ?_)
        go_simp
        refine hK _ _ (fun h => absurd h (by omega)) ?_
        clear hK K
        refine oneT (i := 16) rfl (by kernel_rfl) (fun K hK => ?_)
        go_simp
        refine hK _ _ (fun h => absurd h (by omega)) ?_
        clear hK K
        refine oneT (i := 17) rfl (by kernel_rfl) (fun K hK => ?_)
        go_simp
        refine hK _ _ (fun h => absurd h (by omega)) ?_
        clear hK K
        refine doneT (by kernel_rfl) ?_ _
        go_wp2_with fail
        go_roundg (gk - 1)
        case measure => have := Hkr.out; omega
        case rel =>
          have hT := (td.store4 (.slice (some ⟨gwc, 0, none⟩) (k + 1) ccwc)).store5 (.slice (some ⟨gwd, 0, none⟩) (k + 1) ccwd)
          rw [← rowE_take hlt, ← starE_take hlt] at hT
          exact ⟨k + 1, .slice (some ⟨gwc, 0, none⟩) (k + 1) ccwc, .slice (some ⟨gwd, 0, none⟩) (k + 1) ccwd, by go_num, by have := Hkr.out; omega, hT⟩
    · have hk : k = 199 := by omega
      subst hk
      clear hkr hlt
      rw [List.take_of_length_le (by rw [rowE_len]; omega), List.take_of_length_le (by rw [starE_len]; omega)] at ht
      obtain ⟨a4, cp4, rfl, hr4⟩ := ht.o4.rdP
      obtain ⟨a5, cp5, rfl, hr5⟩ := ht.o5.rdP
      have c40 := ht.c40; have c41 := ht.c41; have c50 := ht.c50; have c51 := ht.c51
      have hB := ht.bl
      obtain ⟨w1, rfl⟩ : ∃ w1 : World, w1 = wr := ⟨_, rfl⟩
      have rl := rowE_len; have sl := starE_len
      have hF := longFacts hs2
      clear ht
      generalize rowE = re at hr4 rl c41 hF ⊢
      generalize starE = se at hr5 sl c51 hF ⊢
      obtain ⟨hF1, hF2, hF3, hF4, hF5, hF6, hF7, hF8, hF9, hF10, hF11⟩ := hF
      have HR := Lib.hid hF1; have HS := Lib.hid hF2; have HPa := Lib.hid hF10; have Hdist := Lib.hid hF11
      obtain ⟨l, hl⟩ : ∃ l, l = (walkL (besideL 200 re) s).1 := ⟨_, rfl⟩
      obtain ⟨p, hp⟩ : ∃ p, p = pathL (besideL 200 re) 0 199 := ⟨_, rfl⟩
      obtain ⟨mm, hmm⟩ : ∃ mm, mm = (walkL (besideL 200 se) 0).1 := ⟨_, rfl⟩
      obtain ⟨up, hup⟩ : ∃ up, up = (walkL (besideL 200 se) 0).2 := ⟨_, rfl⟩
      rw [← hl] at hF3 hF4; rw [← hp] at hF5 hF6; rw [← hmm] at hF7 hF8; rw [← hup] at hF9
      have Hl := Lib.hid hl; have Hp := Lib.hid hp; have Hmm := Lib.hid hmm; have Hup := Lib.hid hup
      have Hl4 := Lib.hid hF4; have Hp6 := Lib.hid hF6; have Hm8 := Lib.hid hF8; have Hu9 := Lib.hid hF9
      have Hl3 := Lib.hid hF3; have Hp5 := Lib.hid hF5; have Hm7 := Lib.hid hF7
      have hri1 : inR 200 (s : Int) = true := (inR_iff _ _).2 ⟨by omega, by omega⟩
      have hri2 : inR 200 (0 : Int) = true := (inR_iff _ _).2 ⟨by omega, by omega⟩
      have hri3 : inR 200 (199 : Int) = true := (inR_iff _ _).2 ⟨by omega, by omega⟩
      have Hi1 := Lib.hid hri1; have Hi2 := Lib.hid hri2; have Hi3 := Lib.hid hri3
      have C40 := c40; have C41 := c41; have C50 := c50; have C51 := c51
      clear hri1 hri2 hri3 hF1 hF2 hF3 hF4 hF5 hF6 hF7 hF8 hF9 hF10 hF11 hl hp hmm hup
      go_wp2_with fail
      have hW2 := walkFn_walk 200 a4 cp4 re s _ hr4 (by omega)
      rw [rl] at hW2
      refine hW2.mono ?_
      clear hW2
      rintro e w2 ⟨hb2, hcase⟩
      rcases hcase with ⟨h1, _⟩ | ⟨_, h1, _⟩ | ⟨_, _, go, co, gu, rfl, hro, _, _, _, _, _⟩
      · exact absurd HR.out (by rw [h1]; simp)
      · exact absurd Hi1.out (by rw [h1]; simp)
      simp only [Int.toNat_natCast] at hro ⊢
      rw [show (200 : Int).toNat = 200 from rfl, ← Hl.out] at hro ⊢
      rw [Hl3.out]
      replace c40 := keep_cell hb2 C40; replace c41 := keep_cell hb2 C41; replace c50 := keep_cell hb2 C50; replace c51 := keep_cell hb2 C51
      go_wp2_with fail
      have hW3 := pathFn_walk 200 a4 cp4 re 0 199 _ (hr4.below hb2) (by omega)
      rw [rl] at hW3
      refine hW3.mono ?_
      clear hW3
      rintro e w3 ⟨hb3, hcase⟩
      rcases hcase with ⟨h1, _⟩ | ⟨_, h1, _⟩ | ⟨_, _, _, hneg, _⟩ | ⟨_, _, _, _, gp, cp, rfl, hrp, _⟩
      · exact absurd HR.out (by rw [h1]; simp)
      · exact absurd h1 (by rw [Hi2.out, Hi3.out]; simp)
      · rw [show (200 : Int).toNat = 200 from rfl, show (199 : Int).toNat = 199 from rfl, show (0 : Int).toNat = 0 from rfl] at hneg
        exact absurd hneg (by have := Hdist.out; omega)
      rw [show (200 : Int).toNat = 200 from rfl, show (199 : Int).toNat = 199 from rfl, show (0 : Int).toNat = 0 from rfl, ← Hp.out] at hrp ⊢
      rw [Hp5.out]
      have hb13 := bl_trans hb2 hb3
      replace c40 := keep_cell hb13 C40; replace c41 := keep_cell hb13 C41; replace c50 := keep_cell hb13 C50; replace c51 := keep_cell hb13 C51
      replace hro := hro.below hb3 hro.lt
      go_wp2_with fail
      have hW4 := walkFn_walk 200 a5 cp5 se 0 _ (hr5.below hb13) (by omega)
      rw [sl] at hW4
      refine hW4.mono ?_
      clear hW4
      rintro e w4 ⟨hb4, hcase⟩
      rcases hcase with ⟨h1, _⟩ | ⟨_, h1, _⟩ | ⟨_, _, gm, cm, gu2, rfl, hrm, hru, hul, _, _, _⟩
      · exact absurd HS.out (by rw [h1]; simp)
      · exact absurd Hi2.out (by rw [h1]; simp)
      rw [show (200 : Int).toNat = 200 from rfl, show (0 : Int).toNat = 0 from rfl, ← Hmm.out] at hrm ⊢
      rw [show (200 : Int).toNat = 200 from rfl, show (0 : Int).toNat = 0 from rfl, ← Hup.out] at hru hul
      rw [Hm7.out]
      have hb14 := bl_trans hb13 hb4
      replace c40 := keep_cell hb14 C40; replace c41 := keep_cell hb14 C41; replace c50 := keep_cell hb14 C50; replace c51 := keep_cell hb14 C51
      replace hro := hro.below hb4 hro.lt
      replace hrp := hrp.below hb4 hrp.lt
      have Hul := Lib.hid hul; clear hul
      have szo := hro.lt; have szp := hrp.lt; have szm := hrm.lt; have szu := hru.lt
      go_wp2_with fail
      have hW5 : Calls Try.prog 20 #[.agg #[.int .i64 200, .slice a4 199 cp4]] w4 (fun e w' => Below w4.heap.size w4 w' ∧ ∃ G c, e = .returned (.slice (some ⟨G, 0, none⟩) 1 c)) := by
        have h := partsFn_walk 200 a4 cp4 re w4 (hr4.below hb14) (by omega)
        rw [rl] at h
        refine h.mono ?_
        rintro e w8 ⟨hb8, hcase⟩
        rcases hcase with ⟨h1, _⟩ | ⟨_, G, cG, vals, rfl, _⟩
        · exact absurd HR.out (by rw [h1]; simp)
        · refine ⟨hb8, G, cG, ?_⟩
          rw [show (200 : Int).toNat = 200 from rfl, HPa.out]
      rw [rl] at c41
      clear rl sl HR HS HPa Hdist
      go_loopg [86] 200 (fun r v wr => ∃ (i : Nat), v = .int .i64 i ∧ i + r = 200 ∧ wr = w4)
      case atStart => exact ⟨0, rfl, by omega, rfl⟩
      case round =>
        obtain ⟨i, rfl, hir, rfl⟩ := hrel
        by_cases hlt : i < 200
        · have q1 : wr.cell? ⟨gp, i, none⟩ = some (.int .i64 i) := by rw [hrp.cell? i (by rw [List.length_map, Hp5.out]; exact hlt)]; simp [Hp6.out i hlt, vN]
          have q2 : wr.cell? ⟨gm, i, none⟩ = some (.int .i64 i) := by rw [hrm.cell? i (by rw [List.length_map, Hm7.out]; exact hlt)]; simp [Hm8.out i hlt, vN]
          have q0' : wr.cell? ⟨go, i, none⟩ = some (vN (rowF s i)) := by rw [hro.cell? i (by rw [List.length_map, Hl3.out]; exact hlt)]; simp [Hl4.out i hlt]
          have Hir := Lib.hid hir; clear hir
          by_cases hi0 : i = 0
          · subst hi0
            have q0 : wr.cell? ⟨go, 0, none⟩ = some (.int .i64 s) := by rw [q0']; simp [rowF, vN]
            clear q0'
            have g1 : decide ((0 : Int) > (s : Int)) = false := by simp
            have g2 : ((s : Int) != (s : Int)) = false := by simp
            go_wp2_with fail
            go_roundg (gk - 1)
            case measure => have := Hir.out; omega
            case rel => exact ⟨0 + 1, by go_num, by have := Hir.out; omega, rfl⟩
          · have q3 : wr.cell? ⟨gu2, i, none⟩ = some (.int .i64 0) := by rw [hru.cell? i (by rw [List.length_map, Hul.out]; exact hlt)]; simp [Hu9.out i (by omega) hlt]
            have g3 : ((i : Int) != (i : Int)) = false := by simp
            have g4 : decide ((0 : Int) < (i : Int)) = true := by simp; omega
            by_cases his : i ≤ s
            · have q0 : wr.cell? ⟨go, i, none⟩ = some (.int .i64 ((s : Int) - (i : Int))) := by rw [q0']; simp [rowF, his, vN]; omega
              clear q0'
              have g1 : decide ((s : Int) < (i : Int)) = false := by simp; omega
              have g2 : ((s : Int) - (i : Int) != (s : Int) - (i : Int)) = false := by simp
              go_wp2_with fail
              go_roundg (gk - 1)
              case measure => have := Hir.out; omega
              case rel => exact ⟨i + 1, by go_num, by have := Hir.out; omega, rfl⟩
            · have q0 : wr.cell? ⟨go, i, none⟩ = some (.int .i64 (i : Int)) := by rw [q0']; simp [rowF, his, vN]
              clear q0'
              have g1 : decide ((s : Int) < (i : Int)) = true := by simp; omega
              go_wp2_with fail
              go_roundg (gk - 1)
              case measure => have := Hir.out; omega
              case rel => exact ⟨i + 1, by go_num, by have := Hir.out; omega, rfl⟩
        · obtain rfl : i = 200 := by omega
          go_wp2_with (first
            | (go_at_call 20; refine hW5.mono ?_; rintro e w8 ⟨hb8, G, cG, rfl⟩)
            | (go_at_call 10; refine (awake_walk _).mono ?_; rintro e w9 ⟨rfl, hb9⟩))
          go_ret
          exact ⟨rfl, bl_trans hB (bl_trans hb14 (bl_trans hb8 hb9))⟩
namespace walkLong
open Go Go.RowKit Go.ChangeShapes Go.WideShapes Go.ChangeAt
set_option maxRecDepth 100000 in
theorem lifted (os : Os) (started : os.Started) (H : Type) (enc : TypeId × Value → H) :
    ReturnsInHanded {} Try.checked os 6 .any (Rows.walkLongSpec.pre6 enc Try.prog Try.f6 Rows.walkLongRow.domain false) (Rows.walkLongSpec.post enc Try.prog Try.f6 false true false false) := by
  refine returnsInHanded_of_change (C := Try.checked) rowOwn started (by kernel_rfl) Try.func6
    (ChangeSpec.witness6 (enc := enc) (C := Try.checked) false ⟨#[], #[.int .u8 0], []⟩ 8 (by kernel_rfl) (by kernel_rfl) (by kernel_rfl) (by kernel_rfl)) ?_
  intro W base args ds gs before hval0 hW hcnd _
  have hval : ∀ (j : Nat) t v, Try.f6.params[j]? = some t → args[j]? = some v → Value.okWide Try.prog W .any base t v := hval0
  have hW' := hW
  obtain ⟨p, q, hA0, hV, rfl, hfz, hnd⟩ := hW
  have hA : DataW.TrodAll enc Try.prog W 0 (fun _ => true) true Try.f6.params.toList args.toList ds p := hA0
  rw [Try.params6] at hA hval
  obtain ⟨v0, vs0, d0, ds0, p0, q0, hargs, rfl, rfl, h0, r0⟩ := trodAll_cons hA
  obtain ⟨rfl, rfl, rfl⟩ := trodAll_nil r0
  obtain rfl : args = #[v0] := by cases args; simp_all
  obtain ⟨rfl, rfl⟩ := trodVars_none hV
  obtain ⟨x0, rfl, rfl, rfl, wn0⟩ := open_int Try.underlying5 (hval 0 5 v0 rfl rfl) h0
  clear hA0 hval0
  refine (walkLong_walk x0 W wn0).mono fun e W' ⟨he, bel⟩ => ?_
  subst he
  exact ⟨_, rfl, _, _, _, [], _, [], hW', trodAll_mk1 (shut_bool Try.underlying4 _), (trodAll_cons_mk (shut_int Try.underlying5 wn0) trodAll_mk0), rfl, bel.frame _, fun h => by cases h⟩
theorem over : Rows.walkLongRow.holds Try.pinned (OpenSpec.ofChange Rows.walkLongSpec) :=
  OpenClaim.holds_of_wide 6 Try.f6 rfl rfl rfl rfl rfl rfl rfl ⟨rfl, rfl, rfl, rfl, rfl⟩ rfl rfl rfl rfl rfl (by kernel_rfl) Try.func6 (by kernel_rfl)
    (of_decide_eq_true (by kernel_rfl)) (by unfold Func.isWrapper; first | (rw [if_pos (by decide +kernel)]; kernel_rfl) | (rw [if_neg (by decide +kernel)]; exact ⟨rfl, rfl⟩))
    (fun os started H enc _ => lifted os started H enc)
/-- The statement. -/
theorem proved : Rows.WalkLongSaid := over
#print axioms proved
end walkLong
end Go.Proofs.Ytddndhhhmlcgjaa
