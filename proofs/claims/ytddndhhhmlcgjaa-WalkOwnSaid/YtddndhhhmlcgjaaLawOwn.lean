/- WalkOwn returns true at every input, and leaves its arguments alone. No condition. -/
import Derived.Test.YtddndhhhmlcgjaaThere
import Derived.Test.YtddndhhhmlcgjaaRow
import Derived.Test.YtddndhhhmlcgjaaTop
import Derived.Test.YtddndhhhmlcgjaaPath
import Derived.Test.YtddndhhhmlcgjaaParts
import Derived.Test.YtddndhhhmlcgjaaPathQ
import Derived.Test.YtddndhhhmlcgjaaApart
import Derived.Test.YtddndhhhmlcgjaaCopy
import Derived.Test.YtddndhhhmlcgjaaReg2
namespace Go.Proofs.Ytddndhhhmlcgjaa
open Go Go.RowKit

section
variable {P : Program} (w : World)
/-- append of one element at least, asked for by a guard -/
theorem wpList_append_row_g {ops : Array Oper} {rest : List Oper} {o : Oper} {a : Act} {Q : Exit → Act → World → Prop} (hw : Region.wanted o (yielded ops a.tmps) = true) (sl x : Operand) (t : TypeId)
    (ho : o.op = .call { callee := .builtin .append, args := #[sl, x], argTypes := #[t, t] })
    (e : TypeId) (z : Value) (s bytes : Nat) (ht : P.underlying t = some (.slice e)) (hinfo : (P.info? e).map (fun i => (i.zero, i.size, i.bytes)) = some (some z, s, bytes)) (hzs : z.cells.size = s)
    (v : Value) (n : Nat) (vs : List Value) (hs : a.eval sl = v) (hown : Own w v e s n vs)
    (ad : Addr) (m c : Nat) (news : List Value) (hx : a.eval x = .slice (some ad) m c) (hl : news.length = m * s) (hnews : ∀ j u, news[j]? = some u → w.cell? (ad.add j) = some u) (h1 : ∀ u ∈ news, u.oneCell' = true)
    (h0 : 0 < m) (h63 : n + m ≤ maxLen) (hbytes : (n + m) * bytes ≤ 140737488355328)
    (h : ∀ g' cap' w', Row w' g' e s cap' (vs ++ news) → n + m ≤ cap' → w.grownBy w' v.ownBlock → (v.ownBlock = some g' ∨ w.heap.size ≤ g') → wpList P ops Q rest (a.put o.dst (.slice (some ⟨g', 0, none⟩) (n + m) cap')) w') :
    wpList P ops Q (o :: rest) a w := by
  obtain ⟨i, hi, hz, hsize, hby⟩ := info_parts hinfo
  refine wpList_step fun K hK => ?_
  rw [if_pos hw]
  obtain ⟨g', cap', w', hr, h2, h3, h4, h5⟩ := run_append_row (P := P) w t o.type e i z s bytes ht hi hz hsize hby hzs v n vs hown ad m c news hl hnews h1 h0 h63 hbytes
  unfold Oper.wp execOp
  simp only [ho, resolve, invoke, builtin, Sem.run_bind, Sem.run_pure, Result.andThen_ok, List.map_toArray, List.map_cons, List.map_nil, hs, hx, hr]
  exact hK _ _ (h g' cap' w' h2 h3 h4 h5)
end

theorem four_new {W : World} {b : Nat} {x0 x1 x2 x3 : Value} (h0 : W.cell? ⟨b, 0, none⟩ = some x0) (h1 : W.cell? ⟨b, 1, none⟩ = some x1) (h2 : W.cell? ⟨b, 2, none⟩ = some x2) (h3 : W.cell? ⟨b, 3, none⟩ = some x3) :
    ∀ j u, [x0, x1, x2, x3][j]? = some u → W.cell? ((⟨b, 0, none⟩ : Addr).add j) = some u := by
  intro j u hu
  have e : (⟨b, 0, none⟩ : Addr).add j = ⟨b, j, none⟩ := by unfold Addr.add; split <;> simp_all
  rw [e]
  match j with
  | 0 => simp at hu; rw [← hu]; exact h0
  | 1 => simp at hu; rw [← hu]; exact h1
  | 2 => simp at hu; rw [← hu]; exact h2
  | 3 => simp at hu; rw [← hu]; exact h3
  | j + 4 => simp at hu
theorem grown_refl (w : World) (k : Option Nat) : w.grownBy w k := grownBy_of (bl_refl w) k

/-- four rows come behind the others -/
theorem FRows.push4 {w w' : World} {B G G' cap cap' : Nat} {tO e : TypeId} {vals : List Value} {rows : List (List Value)} (h : FRows w B G tO e cap vals rows)
    {g0 g1 g2 g3 c0 c1 c2 c3 : Nat} {r0 r1 r2 r3 : List Value} (h0 : Row w g0 e 1 c0 r0) (h1 : Row w g1 e 1 c1 r1) (h2 : Row w g2 e 1 c2 r2) (h3 : Row w g3 e 1 c3 r3)
    (k0 : B ≤ g0 ∧ g0 ≠ G) (k1 : B ≤ g1 ∧ g1 ≠ G) (k2 : B ≤ g2 ∧ g2 ≠ G) (k3 : B ≤ g3 ∧ g3 ≠ G)
    (n0 : ∀ (i : Nat) (u : Value) (g : Nat), vals[i]? = some u → u.ownBlock = some g → g ≠ g0 ∧ g ≠ g1 ∧ g ≠ g2 ∧ g ≠ g3)
    (d01 : g0 ≠ g1) (d02 : g0 ≠ g2) (d03 : g0 ≠ g3) (d12 : g1 ≠ g2) (d13 : g1 ≠ g3) (d23 : g2 ≠ g3)
    (ho : Row w' G' tO 1 cap' (vals ++ [.slice (some ⟨g0, 0, none⟩) r0.length c0, .slice (some ⟨g1, 0, none⟩) r1.length c1, .slice (some ⟨g2, 0, none⟩) r2.length c2, .slice (some ⟨g3, 0, none⟩) r3.length c3]))
    (hgr : w.grownBy w' (some G)) (hG' : some G = some G' ∨ w.heap.size ≤ G') :
    FRows w' B G' tO e cap' (vals ++ [.slice (some ⟨g0, 0, none⟩) r0.length c0, .slice (some ⟨g1, 0, none⟩) r1.length c1, .slice (some ⟨g2, 0, none⟩) r2.length c2, .slice (some ⟨g3, 0, none⟩) r3.length c3]) (rows ++ [r0, r1, r2, r3]) := by
  have hne : ∀ k, k < w.heap.size → k ≠ G → k ≠ G' := fun k hk hkG e => by
    rcases hG' with h1 | h1
    · have := Option.some.inj h1; omega
    · omega
  have e0 := hne g0 h0.lt k0.2; have e1 := hne g1 h1.lt k1.2; have e2 := hne g2 h2.lt k2.2; have e3 := hne g3 h3.lt k3.2
  have t1 := ho.take (vals.length + 1)
  have t2 := ho.take (vals.length + 2)
  have t3 := ho.take (vals.length + 3)
  rw [List.take_append, List.take_of_length_le (by omega)] at t1 t2 t3
  simp at t1 t2 t3
  have q1 := h1.grown hgr (by simp; exact fun e => k1.2 e.symm)
  have q2 := h2.grown hgr (by simp; exact fun e => k2.2 e.symm)
  have q3 := h3.grown hgr (by simp; exact fun e => k3.2 e.symm)
  have f1 := h.push h0 k0.1 k0.2 (fun i u hu e => (n0 i u g0 hu e).1 rfl) t1 hgr hG'
  have hnth : ∀ {l : List Value} {x : Value} {i : Nat} {u : Value}, (l ++ [x])[i]? = some u → l[i]? = some u ∨ u = x := by
    intro l x i u hu
    have := List.mem_of_getElem? hu
    by_cases hi : i < l.length
    · rw [List.getElem?_append_left hi] at hu; exact .inl hu
    · have h1 := (List.getElem?_eq_some_iff.1 hu).1
      simp at h1
      obtain rfl : i = l.length := by omega
      simp at hu
      exact .inr hu.symm
  have f2 := f1.push q1 k1.1 e1 (fun i u hu e => by
    rcases hnth hu with h | rfl
    · exact (n0 i u g1 h e).2.1 rfl
    · exact d01 (Option.some.inj e)) (by simpa using t2) (grown_refl _ _) (.inl rfl)
  have f3 := f2.push q2 k2.1 e2 (fun i u hu e => by
    rcases hnth hu with h | rfl
    · rcases hnth h with h | rfl
      · exact (n0 i u g2 h e).2.2.1 rfl
      · exact d02 (Option.some.inj e)
    · exact d12 (Option.some.inj e)) (by simpa using t3) (grown_refl _ _) (.inl rfl)
  have f4 := f3.push q3 k3.1 e3 (fun i u hu e => by
    rcases hnth hu with h | rfl
    · rcases hnth h with h | rfl
      · rcases hnth h with h | rfl
        · exact (n0 i u g3 h e).2.2.2 rfl
        · exact d03 (Option.some.inj e)
      · exact d13 (Option.some.inj e)
    · exact d23 (Option.some.inj e)) (by simpa using ho) (grown_refl _ _) (.inl rfl)
  simpa using f4

set_option maxRecDepth 100000 in
set_option maxHeartbeats 4000000 in
theorem walkOwn_walk (n : Int) (a : Option Addr) (cap : Nat) (es : List (Int × Int)) (x : Int) (w : World) (hr : RdP w a es) (hl : es.length ≤ cap) (hm : cap ≤ maxLen) (wn : (Lit.int .i64 n).wf = true) (wx : (Lit.int .i64 x).wf = true) :
    Calls Try.prog 7 #[.agg #[.int .i64 n, .slice a es.length cap], .int .i64 x] w (RetT w true) := by
  have hcap : es.length ≤ 9223372036854775807 := by unfold maxLen at hm; omega
  clear wn wx hm hl
  cases hth : thereB n es [x] with
  | false =>
    have Hth := Lib.hid hth; clear hth
    go_enter Try.func7, Try.ntmps7
    go_wp2_with fail
    refine (there_walk n a cap es _ [x] 1 _ ((hr.below (bl_alloc _ _)).below (bl_alloc _ _)) (rdI_one (by simp)) hcap (by simp)).mono ?_
    rw [Hth.out]
    rintro e w1 ⟨rfl, hb1⟩
    have hB1 : Below w.heap.size w w1 := bl_trans (bl_trans (bl_alloc _ _) (bl_alloc _ _)) hb1
    go_wp2_with (go_at_call 10; refine (awake_walk _).mono ?_; rintro e w2 ⟨rfl, hb2⟩)
    go_ret
    exact ⟨rfl, bl_trans hB1 hb2⟩
  | true =>
    obtain ⟨hright, hin, h60⟩ := there_say hth
    obtain ⟨hx0, hx1⟩ := hin x (by simp)
    obtain ⟨m, rfl⟩ : ∃ m : Nat, n = m := ⟨n.toNat, by omega⟩
    obtain ⟨s, rfl⟩ : ∃ s : Nat, x = s := ⟨x.toNat, by omega⟩
    have hsm : s < m := by omega
    have hds := away_dist hright hsm
    have hd0 : (awayL (besideL m es) s).getD s 0 = 0 := by simp [List.getD, hds.st0]
    have hel := ((rightB_iff _ _).1 hright).2.2.1
    have hri1 : inR (m : Int) (s : Int) = true := (inR_iff _ _).2 ⟨by omega, by omega⟩
    have hpl : (partsL (besideL m es)).length ≤ 60 := by
      have := parts_take_len (bs := besideL m es) (List.range (besideL m es).length) ([], [])
      unfold partsL
      rw [List.length_range, besideL_length] at this
      rw [besideL_length]
      simp at this
      omega
    have Hth := Lib.hid hth; have Hr := Lib.hid hright; have Hd0 := Lib.hid hd0; have Hi1 := Lib.hid hri1; have Hpl := Lib.hid hpl
    clear hth hright hds hd0 hin hri1 hpl
    go_enter Try.func7, Try.ntmps7
    go_wp2_with fail
    refine (there_walk m a cap es _ [(s : Int)] 1 _ ((hr.below (bl_alloc _ _)).below (bl_alloc _ _)) (rdI_one (by simp)) hcap (by simp)).mono ?_
    rw [Hth.out]
    rintro e w1 ⟨rfl, hb1⟩
    have hB1 : Below w.heap.size w w1 := bl_trans (bl_trans (bl_alloc _ _) (bl_alloc _ _)) hb1
    have c0 : w1.cell? ⟨w.heap.size, 0, none⟩ = some (.int .i64 m) := keep_cell hb1 (keep_cell (bl_alloc _ _) (by simp))
    have c1 : w1.cell? ⟨w.heap.size, 1, none⟩ = some (.slice a es.length cap) := keep_cell hb1 (keep_cell (bl_alloc _ _) (by simp))
    have sz1 : w.heap.size < w1.heap.size := by have := hb1.size; simp at this; omega
    have hr1 := hr.below hB1
    clear hb1
    go_upto_region 3 with fail
    go_cut [5] from 19 to 24 (fun p wx => ∃ b a' c', p = .pointer (some ⟨b, 0, none⟩) ∧ wx.cell? ⟨b, 0, none⟩ = some (.int .i64 m) ∧ wx.cell? ⟨b, 1, none⟩ = some (.slice a' es.length c') ∧ RdP wx a' es ∧ Below w1.heap.size w1 wx ∧ b < wx.heap.size)
    case first =>
      refine regionT (fun w' => w'.cell? ⟨w.heap.size, 0, none⟩ = some (.int .i64 m) ∧ w'.cell? ⟨w.heap.size, 1, none⟩ = some (.slice a es.length cap)) 8 (by kernel_rfl) ?_
      have hS : w1.drew.cell? ⟨w.heap.size, 0, none⟩ = some (.int .i64 m) ∧ w1.drew.cell? ⟨w.heap.size, 1, none⟩ = some (.slice a es.length cap) := ⟨c0, c1⟩
      refine takeT (i := 0) (v := ?_) rfl (by kernel_rfl) (fun _ _ _ h => h) (Or.inl ⟨rfl, ?_⟩) hS ?_
      rotate_left
      · (intro wS hSw; (try dsimp only at hSw); go_simp; try (with_reducible rfl))
      simp only [Act.put, List.setIfInBounds_toArray, List.set_cons_zero, List.set_cons_succ]
      refine takeT (i := 1) (v := ?_) rfl (by kernel_rfl) (fun _ _ _ h => h) (Or.inl ⟨rfl, ?_⟩) hS ?_
      rotate_left
      · (intro wS hSw; (try dsimp only at hSw); go_simp; try (with_reducible rfl))
      simp only [Act.put, List.setIfInBounds_toArray, List.set_cons_zero, List.set_cons_succ]
      refine takeT (i := 2) (v := ?_) rfl (by kernel_rfl) (fun _ _ _ h => h) (Or.inl ⟨rfl, ?_⟩) hS ?_
      rotate_left
      · (intro wS hSw; (try dsimp only at hSw); go_simp; try (with_reducible rfl))
      simp only [Act.put, List.setIfInBounds_toArray, List.set_cons_zero, List.set_cons_succ]
      refine takeT (i := 3) (v := ?_) rfl (by kernel_rfl) (fun _ _ _ h => h) (Or.inl ⟨rfl, ?_⟩) hS ?_
      rotate_left
      · (intro wS hSw; (try dsimp only at hSw); go_simp; try (with_reducible rfl))
      simp only [Act.put, List.setIfInBounds_toArray, List.set_cons_zero, List.set_cons_succ]
      refine twoT (i := 4) (i' := 6) rfl rfl (by kernel_rfl) (fun K hK => ?_) (fun K hK => ?_)
      · go_simp
        go_at_call 11
        refine (copyPairs_walk a cap es _ ?_ (by omega)).mono ?_
        exact hr1
        rintro e w' ⟨a', c', rfl, hr', hb', hnew⟩
        go_simp
        have hS' : w'.cell? ⟨w.heap.size, 0, none⟩ = some (.int .i64 m) ∧ w'.cell? ⟨w.heap.size, 1, none⟩ = some (.slice a es.length cap) := ⟨keep_cell hb' hS.1, keep_cell hb' hS.2⟩
        refine hK _ _ (fun _ => hS') ?_
        clear hK K hS
        have hS := hS'; clear hS'
        refine takeT (i := 5) (v := ?_) rfl (by kernel_rfl) (fun _ _ _ h => h) (Or.inl ⟨rfl, ?_⟩) hS ?_
        rotate_left
        · (intro wS hSw; (try dsimp only at hSw); go_simp; try (with_reducible rfl))
        simp only [Act.put, List.setIfInBounds_toArray, List.set_cons_zero, List.set_cons_succ]
        refine oneT (i := 6) rfl (by kernel_rfl) (fun K hK => ?_)
        go_simp
        refine hK _ _ (fun _ => ⟨keep_cell (bl_alloc _ _) hS.1, keep_cell (bl_alloc _ _) hS.2⟩) ?_
        clear hK K
        refine oneT (i := 7) rfl (by kernel_rfl) (fun K hK => ?_)
        go_simp
        refine hK _ _ (fun _ => ⟨keep_cell (bl_alloc _ _) hS.1, keep_cell (bl_alloc _ _) hS.2⟩) ?_
        clear hK K
        refine doneT (by kernel_rfl) ?_ _
        go_wp2_with fail
        go_meet
        exact ⟨w'.heap.size, a', c', rfl, by simp, by simp, hr'.below (bl_alloc _ _), bl_trans (bl_trans (Below.refl w1.heap.size w1).drew hb') (bl_alloc _ _), by simp⟩
      · go_simp
        refine hK _ _ (fun _ => ⟨keep_cell (bl_alloc _ _) hS.1, keep_cell (bl_alloc _ _) hS.2⟩) ?_
        clear hK K
        refine oneT (i := 4) rfl (by kernel_rfl) (fun K hK => ?_)
        go_simp
        go_at_call 11
        refine (copyPairs_walk a cap es _ ?_ (by omega)).mono ?_
        exact (show RdP (w1.alloc _) a es from hr1.below (bl_alloc _ _))
        rintro e w' ⟨a', c', rfl, hr', hb', hnew⟩
        go_simp
        have q0 : w'.cell? ⟨w1.heap.size, 0, none⟩ = some (.int .i64 0) := keep_cell hb' (by simp)
        have q1 : w'.cell? ⟨w1.heap.size, 1, none⟩ = some (.slice none 0 0) := keep_cell hb' (by simp)
        have q2 : w'.frozen? ⟨w1.heap.size, 0, none⟩ = false := (hb'.frozen (by simp)).trans (by simp)
        have q3 : w'.frozen? ⟨w1.heap.size, 1, none⟩ = false := (hb'.frozen (by simp)).trans (by simp)
        replace hS : w'.cell? ⟨w.heap.size, 0, none⟩ = some (.int .i64 m) ∧ w'.cell? ⟨w.heap.size, 1, none⟩ = some (.slice a es.length cap) := ⟨keep_cell hb' (keep_cell (bl_alloc _ _) hS.1), keep_cell hb' (keep_cell (bl_alloc _ _) hS.2)⟩
        refine hK _ _ (fun _ => hS) ?_
        clear hK K
        refine takeT (i := 5) (v := ?_) rfl (by kernel_rfl) (fun _ _ _ h => h) (Or.inl ⟨rfl, ?_⟩) hS ?_
        rotate_left
        · (intro wS hSw; (try dsimp only at hSw); go_simp; try (with_reducible rfl))
        simp only [Act.put, List.setIfInBounds_toArray, List.set_cons_zero, List.set_cons_succ]
        refine oneT (i := 7) rfl (by kernel_rfl) (fun K hK => ?_)
        go_simp
        have hx : w1.heap.size ≠ w.heap.size := by omega
        refine hK _ _ (fun _ => by
          refine ⟨(World.cell?_setCell_far _ _ _ _ hx).trans ((World.cell?_setCell_far _ _ _ _ hx).trans hS.1), (World.cell?_setCell_far _ _ _ _ hx).trans ((World.cell?_setCell_far _ _ _ _ hx).trans hS.2)⟩) ?_
        clear hK K
        refine doneT (by kernel_rfl) ?_ _
        go_wp2_with fail
        go_meet
        have hne : ∀ ad, a' = some ad → w1.heap.size ≠ ad.block := fun ad h => by have := hnew ad h; simp at this; omega
        have hbw : Below w1.heap.size w1 w' := bl_trans (bl_alloc _ _).drew hb'
        have hsz := hb'.size
        simp at hsz
        exact ⟨w1.heap.size, a', c', rfl, (World.cell?_setCell_other _ _ _ _ (by simp)).trans (World.cell?_setCell_same _ _ _ q0), World.cell?_setCell_same _ _ _ ((World.cell?_setCell_other _ _ _ _ (by simp)).trans q1), (hr'.other hne _).other hne _, (hbw.setCell (Nat.le_refl _) _).setCell (Nat.le_refl _) _, by simp; omega⟩
    case rest =>
      obtain ⟨b, a', c', rfl, d0, d1, hrr, hb2, hbl⟩ := hcut
      obtain ⟨w4, hw4, _⟩ : ∃ w4 : World, w4 = _ ∧ Below w1.heap.size w1 w4 := ⟨_, rfl, hb2⟩
      subst hw4
      have hB4 := bl_trans hB1 hb2
      replace c0 := keep_cell hb2 c0; replace c1 := keep_cell hb2 c1
      have sz4 : w.heap.size < w4.heap.size := by have := hb2.size; omega
      have hrg := hr.below hB4
      clear hb2 sz1 hr1
      go_wp2_with fail
      refine (walkFn_walk m a' c' es s _ hrr hcap).mono ?_
      rintro e w5 ⟨hb5, hcase⟩
      rcases hcase with ⟨h1, _⟩ | ⟨_, h1, _⟩ | ⟨_, _, go, co, gu, rfl, hro, hru, hul, hgo, hgu, hne⟩
      · exact absurd Hr.out (by rw [h1]; simp)
      · exact absurd Hi1.out (by rw [h1]; simp)
      simp only [Int.toNat_natCast] at hro hru hul ⊢
      have D0 := d0; have D1 := d1; have C0 := c0; have C1 := c1
      have Hul := Lib.hid hul; clear hul
      replace d0 := keep_cell hb5 d0; replace d1 := keep_cell hb5 d1
      have sz5 : b < w5.heap.size := by have := hb5.size; omega
      go_wp2_with fail
      refine (awayFn_walk m a' c' es s _ (hrr.below hb5) hcap).mono ?_
      rintro e w6 ⟨hb6, hcase⟩
      rcases hcase with ⟨h1, _⟩ | ⟨_, h1, _⟩ | ⟨_, _, gd, cd, rfl, hrd, hgd⟩
      · exact absurd Hr.out (by rw [h1]; simp)
      · exact absurd Hi1.out (by rw [h1]; simp)
      simp only [Int.toNat_natCast] at hrd ⊢
      replace d0 := keep_cell hb6 d0; replace d1 := keep_cell hb6 d1
      have sz6 : b < w6.heap.size := by have := hb6.size; omega
      have hb46 := bl_trans hb5 hb6
      go_wp2_with fail
      refine (pathFn_walk m a' c' es s s _ (hrr.below hb46) hcap).mono ?_
      rintro e w7 ⟨hb7, hcase⟩
      rcases hcase with ⟨h1, _⟩ | ⟨_, h1, _⟩ | ⟨_, _, _, hneg, rfl⟩ | ⟨_, _, _, _, gp, cp, rfl, hrp, hgp⟩
      · exact absurd Hr.out (by rw [h1]; simp)
      · exact absurd h1 (by rw [Hi1.out]; simp)
      · simp only [Int.toNat_natCast] at hneg
        rw [Hd0.out] at hneg; omega
      simp only [Int.toNat_natCast] at hrp ⊢
      replace d0 := keep_cell hb7 d0; replace d1 := keep_cell hb7 d1
      have sz7 : b < w7.heap.size := by have := hb7.size; omega
      have hb47 := bl_trans hb46 hb7
      have c07 := keep_cell hb47 c0; have c17 := keep_cell hb47 c1
      have lo := hro.lt; have lu := hru.lt; have ld := hrd.lt; have lp := hrp.lt
      go_wp2_with (first
        | (go_at_call 20; refine (partsFn_walk m a' c' es _ (hrr.below hb47) hcap).mono ?_; rintro e w8 ⟨hb8, hcase⟩; have hcase2 := hcase.resolve_left (fun h => by have := Hr.out; rw [h.1] at this; cases this); obtain ⟨_, G, cG, vals, rfl, hfr⟩ := hcase2; simp only [Int.toNat_natCast] at hfr ⊢; have hvl : vals.length = (partsL (besideL m es)).length := (by rw [hfr.len]; simp [rowsV]); have hown8 := hfr.outer.own1; rw [hvl] at hown8; have hplm := Hpl.out)
        | (at_builtin; refine wpList_append_row_g _ (by rfl) (.tmp 53) (.tmp 58) 36 rfl 27 (.slice none 0 0) 1 24 Try.underlying36 ints_info rfl _ _ _ rfl (hown8.alloc _) ⟨w8.heap.size, 0, none⟩ 4 4 [_, _, _, _] rfl rfl (four_new (by simp; rfl) (by simp; rfl) (by simp; rfl) (by simp; rfl)) (by intro u hu; simp at hu; rcases hu with rfl | rfl | rfl | rfl <;> rfl) (by omega) (by unfold maxLen; omega) (by omega) ?_; intro g9 c9 w9 hr9 hc9 hgr9 hor9))
      generalize hW8 : w8.alloc _ = W8 at hgr9 hor9
      have hb8' : Below w8.heap.size w8 W8 := by rw [← hW8]; exact bl_alloc _ _
      have hb48 := bl_trans hb47 hb8
      have hb4W := bl_trans hb48 hb8'
      have s45 := hb5.size; have s56 := hb6.size; have s67 := hb7.size; have s78 := hb8.size
      have hfrW := (hfr.ext hb8').mono (B' := w4.heap.size) (by omega)
      have hGlo := hfr.lo
      have hroW := hro.below (bl_trans (bl_trans hb6 hb7) (bl_trans hb8 hb8')) hro.lt
      have hruW := hru.below (bl_trans (bl_trans hb6 hb7) (bl_trans hb8 hb8')) hru.lt
      have hrdW := hrd.below (bl_trans hb7 (bl_trans hb8 hb8')) hrd.lt
      have hrpW := hrp.below (bl_trans hb8 hb8') hrp.lt
      have hul := Hul.out
      have hr9' : Row w9 g9 27 1 c9 (vals ++ [.slice (some ⟨go, 0, none⟩) ((walkL (besideL m es) s).1.map vN).length co, .slice (some ⟨gu, 0, none⟩) ((walkL (besideL m es) s).2.map (Value.int .i64)).length m, .slice (some ⟨gd, 0, none⟩) ((awayL (besideL m es) s).map (Value.int .i64)).length cd, .slice (some ⟨gp, 0, none⟩) ((pathL (besideL m es) s s).map vN).length cp]) := by
        simpa [hul] using hr9
      have hfr9 := hfrW.push4 hroW hruW hrdW hrpW ⟨by omega, by omega⟩ ⟨by omega, by omega⟩ ⟨by omega, by omega⟩ ⟨by omega, by omega⟩
        (fun i u g hu hg => by have := (hfr.lt hu hg).2.1; exact ⟨by omega, by omega, by omega, by omega⟩) hne (by omega) (by omega) (by omega) (by omega) (by omega) hr9' hgr9 hor9
      have hb49 : Below w4.heap.size w4 w9 := hb4W.grown hgr9 hb4W.size (fun k hk => by have : G = k := Option.some.inj hk; omega)
      have hap := apart_walk w4.heap.size g9 c9 _ _ w9 hfr9 (by have := Hpl.out; simp only [List.length_append, hvl, List.length_cons, List.length_nil]; omega) hb49.size
      simp only [List.length_append, hvl, List.length_cons, List.length_nil, Nat.zero_add, Nat.reduceAdd] at hap
      refine hap.mono ?_
      rintro e w10 ⟨rfl, hb10⟩
      have hb410 := hb49.trans hb10
      replace d0 := keep_cell hb410 D0; replace d1 := keep_cell hb410 D1; replace c0 := keep_cell hb410 C0; replace c1 := keep_cell hb410 C1
      have hrr10 := hrr.below hb410
      have hrg10 := hrg.below hb410
      have hB10 := bl_trans hB4 hb410
      have sz10 : w4.heap.size ≤ w10.heap.size := hb410.size
      clear hap hfr9 hr9' hrpW hrdW hruW hroW hfrW hb49 hgr9 hor9 hr9 hW8 hfr hown8 hro hru hrd hrp c07 c17
      go_wp2_with (first
        | (go_at_call 22; refine (sameGraph_walk m a' a c' cap es _ hrr10 hrg10 hcap).mono ?_; rintro e w11 ⟨rfl, hb11⟩)
        | (go_at_call 10; refine (awake_walk _).mono ?_; rintro e w12 ⟨rfl, hb12⟩))
      go_ret
      exact ⟨rfl, bl_trans hB10 (bl_trans hb11 hb12)⟩
namespace walkOwn
open Go Go.RowKit Go.ChangeShapes Go.WideShapes Go.ChangeAt
set_option maxRecDepth 100000 in
theorem lifted (os : Os) (started : os.Started) (H : Type) (enc : TypeId × Value → H) :
    ReturnsInHanded {} Try.checked os 7 .any (Rows.walkOwnSpec.pre6 enc Try.prog Try.f7 Rows.walkOwnRow.domain false) (Rows.walkOwnSpec.post enc Try.prog Try.f7 false true false false) := by
  refine returnsInHanded_of_change (C := Try.checked) rowOwn started (by kernel_rfl) Try.func7
    (ChangeSpec.witness6 (enc := enc) (C := Try.checked) false ⟨#[], #[.agg #[.int .i64 0, .slice none 0 0], .int .i64 0], []⟩ 8 (by kernel_rfl) (by kernel_rfl) (by kernel_rfl) (by kernel_rfl)) ?_
  intro W base args ds gs before hval0 hW hcnd _
  have hval : ∀ (j : Nat) t v, Try.f7.params[j]? = some t → args[j]? = some v → Value.okWide Try.prog W .any base t v := hval0
  have hW' := hW
  obtain ⟨p, q, hA0, hV, rfl, hfz, hnd⟩ := hW
  have hA : DataW.TrodAll enc Try.prog W 0 (fun _ => true) true Try.f7.params.toList args.toList ds p := hA0
  rw [Try.params7] at hA hval
  obtain ⟨v0, vs0, d0, ds0, p0, q0, hargs, rfl, rfl, h0, r0⟩ := trodAll_cons hA
  obtain ⟨v1, vs1, d1, ds1, p1, q1, rfl, rfl, rfl, h1, r1⟩ := trodAll_cons r0
  obtain ⟨rfl, rfl, rfl⟩ := trodAll_nil r1
  obtain rfl : args = #[v0, v1] := by cases args; simp_all
  obtain ⟨rfl, rfl⟩ := trodVars_none hV
  have k0 := h0
  have lt0 : ∀ x ∈ p0, x.block < W.heap.size := by obtain ⟨m, hm⟩ := k0; exact DataW.trod_lt m _ _ _ hm
  obtain ⟨n0, a0, cap0, es0, rfl, rd0, hl0, hm0, wn0⟩ := open_graph (hval 0 24 v0 rfl rfl) h0
  obtain ⟨x1, rfl, rfl, rfl, wn1⟩ := open_int Try.underlying3 (hval 1 3 v1 rfl rfl) h1
  clear hA0 hval0
  refine (walkOwn_walk n0 a0 cap0 es0 x1 W rd0 hl0 hm0 wn0 wn1).mono fun e W' ⟨he, bel⟩ => ?_
  subst he
  exact ⟨_, rfl, _, _, _, [], _, [], hW', trodAll_mk1 (shut_bool Try.underlying4 _), (trodAll_cons_mk (Below.trod rowLaid (by kernel_rfl) (of_decide_eq_true (by kernel_rfl)) k0 bel lt0) (trodAll_cons_mk (shut_int Try.underlying3 wn1) trodAll_mk0)), rfl, bel.frame _, fun h => by cases h⟩
theorem over : Rows.walkOwnRow.holds Try.pinned (OpenSpec.ofChange Rows.walkOwnSpec) :=
  OpenClaim.holds_of_wide 7 Try.f7 rfl rfl rfl rfl rfl rfl rfl ⟨rfl, rfl, rfl, rfl, rfl⟩ rfl rfl rfl rfl rfl (by kernel_rfl) Try.func7 (by kernel_rfl)
    (of_decide_eq_true (by kernel_rfl)) (by unfold Func.isWrapper; first | (rw [if_pos (by decide +kernel)]; kernel_rfl) | (rw [if_neg (by decide +kernel)]; exact ⟨rfl, rfl⟩))
    (fun os started H enc _ => lifted os started H enc)
/-- The statement. -/
theorem proved : Rows.WalkOwnSaid := over
#print axioms proved
end walkOwn
end Go.Proofs.Ytddndhhhmlcgjaa
