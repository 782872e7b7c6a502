/- fretworklow.ApartInts: of rows that are apart. -/
import Derived.Test.YtddndhhhmlcgjaaPartsM
import Derived.Lib.SmallJoins
import Derived.Deep.Slices
import Derived.BigRegion
namespace Go.Proofs.Ytddndhhhmlcgjaa
open Go Go.RowKit Go.Joins Go.Deep

theorem Row.snoc {w : World} {g : Nat} {e : TypeId} {cap : Nat} {vs : List Value} (h : Row w g e 1 cap vs) (hl : vs.length < cap) (u : Value) : Row (w.setCell ⟨g, vs.length, none⟩ u) g e 1 cap (vs ++ [u]) := by
  obtain ⟨cur, hg, hs, hle, hm, ht⟩ := h
  have hfull : Row w g e 1 cap cur.toList := ⟨cur, hg, hs, by simp [hs], hm, List.take_of_length_le (by simp)⟩
  have h2 := (hfull.set vs.length u).take (vs.length + 1)
  have e1 : (cur.toList.set vs.length u).take (vs.length + 1) = vs ++ [u] := by
    have hlt : vs.length < cur.toList.length := by simp; omega
    rw [List.take_succ_eq_append_getElem (by simpa using hlt), List.take_set_of_le (by omega), ht]
    simp
  rwa [e1] at h2
theorem Row.some_cell {w : World} {g : Nat} {e : TypeId} {cap : Nat} {vs : List Value} (h : Row w g e 1 cap vs) {i : Nat} (hi : i < cap) : ∃ y, w.cell? ⟨g, i, none⟩ = some y := by
  obtain ⟨cur, hg, hs, hle, hm, ht⟩ := h
  have hfull : Row w g e 1 cap cur.toList := ⟨cur, hg, hs, by simp [hs], hm, List.take_of_length_le (by simp)⟩
  exact ⟨_, hfull.cell i (by simp; omega)⟩

theorem wrap64_add (a b : Int) : wrap64 (wrap64 a + wrap64 b) = wrap64 (a + b) := by unfold wrap64; omega
theorem wrap64_sub (a b : Int) : wrap64 (wrap64 a - b) = wrap64 (a - b) := by unfold wrap64; omega

/-- what is summed up -/
def sumTo (cs : Nat → Nat) : Nat → Int
  | 0 => 0
  | k + 1 => sumTo cs k + (cs k : Int) * ((k : Int) + 1)

set_option maxRecDepth 100000 in
set_option maxHeartbeats 2000000 in
theorem apart_walk (B G cG : Nat) (vals : List Value) (rows : List (List Value)) (w : World) (hfr : FRows w B G 27 3 cG vals rows) (hlen : vals.length ≤ 1000) (hB : B ≤ w.heap.size) :
    Calls Try.prog 24 #[.slice (some ⟨G, 0, none⟩) vals.length cG] w fun e w' => e = .returned (.bool true) ∧ Below B w w' := by
  obtain ⟨f, hf⟩ := choose_lt (n := vals.length) (p := fun i (p : Nat × Nat × Nat) => vals[i]? = some (.slice (some ⟨p.1, 0, none⟩) p.2.1 p.2.2) ∧ Row w p.1 3 1 p.2.2 [] ∧ B ≤ p.1 ∧ p.1 ≠ G ∧ p.2.1 ≤ p.2.2) (by
    intro i hi
    obtain ⟨u, r, g, c, h1, h2, rfl, h4, h5, h6⟩ := hfr.rowAt hi
    exact ⟨(g, r.length, c), h1, by simpa using h4.take 0, h5, h6, h4.len_le⟩)
  obtain ⟨gs, hgs⟩ : ∃ gs : Nat → Nat, gs = fun i => (f i).1 := ⟨_, rfl⟩
  obtain ⟨ls, hls⟩ : ∃ ls : Nat → Nat, ls = fun i => (f i).2.1 := ⟨_, rfl⟩
  obtain ⟨cs, hcs⟩ : ∃ cs : Nat → Nat, cs = fun i => (f i).2.2 := ⟨_, rfl⟩
  have hv : ∀ i, i < vals.length → vals[i]? = some (.slice (some ⟨gs i, 0, none⟩) (ls i) (cs i)) := fun i hi => by rw [hgs, hls, hcs]; exact (hf i hi).1
  have hro : ∀ i, i < vals.length → Row w (gs i) 3 1 (cs i) [] := fun i hi => by rw [hgs, hcs]; exact (hf i hi).2.1
  have hlo : ∀ i, i < vals.length → B ≤ gs i := fun i hi => by rw [hgs]; exact (hf i hi).2.2.1
  have hnG : ∀ i, i < vals.length → gs i ≠ G := fun i hi => by rw [hgs]; exact (hf i hi).2.2.2.1
  have hlc : ∀ i, i < vals.length → ls i ≤ cs i := fun i hi => by rw [hls, hcs]; exact (hf i hi).2.2.2.2
  have hap : ∀ i j, i < vals.length → j < vals.length → i ≠ j → gs i ≠ gs j := by
    intro i j hi hj hij e
    exact hfr.apart i j (gs i) _ _ hij (hv i hi) (hv j hj) rfl (by show some (gs j) = some (gs i); rw [e])
  have hou := hfr.outer
  have hcm : ∀ i, i < vals.length → cs i ≤ maxLen := fun i hi => (hro i hi).cap_le
  clear hfr hf hgs hls hcs
  have Hv := Lib.hid hv; have Hro := Lib.hid hro; have Hlo := Lib.hid hlo; have HnG := Lib.hid hnG; have Hlc := Lib.hid hlc; have Hap := Lib.hid hap; have Hcm := Lib.hid hcm
  clear hv hro hlo hnG hlc hap hcm f
  go_enter Try.func24, Try.ntmps24
  go_wp2_with fail
  go_loopg [3, 4] vals.length (fun r sm i wr => ∃ k : Nat, i = .int .i64 k ∧ sm = .int .i64 (wrap64 (sumTo cs k)) ∧ k + r = vals.length ∧ (∀ i, i < vals.length → Row wr (gs i) 3 1 (cs i) (if i < k then List.replicate (cs i) (.int .i64 ((i : Int) + 1)) else [])) ∧
    Row wr G 27 1 cG vals ∧ Below B w wr)
  case atStart => exact ⟨0, rfl, by simp [sumTo, wrap64], by omega, fun i hi => by simpa using Hro.out i hi, hou, Below.refl _ _⟩
  case round =>
    obtain ⟨k, rfl, rfl, hkr, hrows, hrou, hb⟩ := hrel
    by_cases hlt : k < vals.length
    · have q0 : wr.cell? ⟨G, k, none⟩ = some (.slice (some ⟨gs k, 0, none⟩) (ls k) (cs k)) := by rw [hrou.cell? k hlt]; exact Hv.out k hlt
      have hrk : Row wr (gs k) 3 1 (cs k) [] := by have := hrows k hlt; simpa using this
      have hck := Hcm.out k hlt
      unfold maxLen at hck
      have hlk := Hlc.out k hlt
      have d1 : (k : Int) < (vals.length : Int) := by omega
      have Hrows := Lib.hid hrows; have Hkr := Lib.hid hkr; clear hrows hkr
      obtain ⟨S, hS⟩ : ∃ S, S = sumTo cs k := ⟨_, rfl⟩
      rw [← hS]
      have HS := Lib.hid hS; clear hS
      go_wp2_with fail
      go_quiet (fail)
      go_wp2_with fail
      generalize hw1 : wr.drewN _ = w1
      have hb1 : Below wr.heap.size wr w1 := by rw [← hw1]; exact below_drewN (Below.refl _ _) _
      replace hrk := hrk.below hb1 hrk.lt
      have hrows1 : ∀ i, i < vals.length → Row w1 (gs i) 3 1 (cs i) (if i < k then List.replicate (cs i) (.int .i64 ((i : Int) + 1)) else []) := fun i hi => (Hrows.out i hi).below hb1 (Hrows.out i hi).lt
      have hrou1 := hrou.below hb1 hrou.lt
      have hbw := hb.trans (hb1.mono (Nat.le_trans hB hb.size))
      have Hrows1 := Lib.hid hrows1
      clear hw1 q0 hrows1 hrou hb
      clear hb1
      go_loopg [6] (cs k) (fun r v wi => ∃ (j : Nat), v = .int .i64 j ∧ j + r = cs k ∧ Row wi (gs k) 3 1 (cs k) (List.replicate j (.int .i64 ((k : Int) + 1))) ∧ w1.grownBy wi (some (gs k)))
      case atStart => exact ⟨0, rfl, by omega, by simpa using hrk, grownBy_of (bl_refl _) _⟩
      case round =>
        obtain ⟨j, rfl, hjr, hrj, hgr⟩ := hrel
        by_cases hj : j < cs k
        · obtain ⟨y, q1⟩ := hrj.some_cell hj
          have q2 : wr.frozen? ⟨gs k, j, none⟩ = false := hrj.frozen j
          have d2 : (j : Int) < (cs k : Int) := by omega
          have hjr2 : j + 1 + (gk - 1) = cs k := by omega
          have Hjr := Lib.hid hjr; have Hjr2 := Lib.hid hjr2; clear hjr hjr2
          go_wp2_with fail
          go_roundg (gk - 1)
          case measure => have := Hjr.out; omega
          case rel =>
            refine ⟨j + 1, by go_num, Hjr2.out, ?_, grownBy_trans hgr (grownBy_set _ _ _ _)⟩
            have h := hrj.snoc (by simpa using hj) (.int .i64 ((k : Int) + 1))
            rw [List.length_replicate] at h
            rwa [List.replicate_succ']
        · have hjc : j = cs k := by omega
          subst hjc
          clear hjr
          go_wp2_with fail
          go_roundg (vals.length - (k + 1))
          case measure => have := Hkr.out; omega
          case rel =>
            refine ⟨k + 1, by go_num, ?_, by omega, ?_, hrou1.grown hgr (by simp; exact HnG.out k hlt), hbw.grown hgr (Nat.le_trans hB hbw.size) (fun q hq => by cases hq; exact Hlo.out k hlt)⟩
            · rw [sumTo, ← HS.out]; simp [wrap64_add]
            · intro i hi
              by_cases hik : i = k
              · subst hik
                rw [if_pos (by omega)]; exact hrj
              · have h := (Hrows1.out i hi).grown hgr (by simp; exact Hap.out k i hlt hi (fun e => hik e.symm))
                by_cases hlk' : i < k
                · rw [if_pos hlk'] at h; rw [if_pos (by omega)]; exact h
                · rw [if_neg hlk'] at h; rw [if_neg (by omega)]; exact h
    · have hk : k = vals.length := by omega
      subst hk
      have hrows' : ∀ i, i < vals.length → Row wr (gs i) 3 1 (cs i) (List.replicate (cs i) (.int .i64 ((i : Int) + 1))) := fun i hi => by have := hrows i hi; rwa [if_pos hi] at this
      have Hrows := Lib.hid hrows'; clear hrows hrows' hkr
      obtain ⟨S, hS⟩ : ∃ S, S = sumTo cs vals.length := ⟨_, rfl⟩
      rw [← hS]
      have HS := Lib.hid hS; clear hS
      obtain ⟨wo, rfl⟩ : ∃ wo : World, wo = wr := ⟨_, rfl⟩
      go_wp2_with fail
      go_loopg [3, 7] vals.length (fun r sm i wr => ∃ k : Nat, i = .int .i64 k ∧ sm = .int .i64 (wrap64 (S - sumTo cs k)) ∧ k + r = vals.length ∧ ∃ d, wr = wo.drewN d)
      case atStart => exact ⟨0, rfl, by simp [sumTo], by omega, 0, rfl⟩
      case round =>
        obtain ⟨k, rfl, rfl, hkr, dd, hwr⟩ := hrel
        have hb2 : Below wo.heap.size wo wr := by rw [hwr]; exact below_drewN (Below.refl _ _) _
        by_cases hlt : k < vals.length
        · have hrou2 := hrou.below hb2 hrou.lt
          have hrk := (Hrows.out k hlt).below hb2 (Hrows.out k hlt).lt
          have q0 : wr.cell? ⟨G, k, none⟩ = some (.slice (some ⟨gs k, 0, none⟩) (ls k) (cs k)) := by rw [hrou2.cell? k hlt]; exact Hv.out k hlt
          have hck := Hcm.out k hlt
          unfold maxLen at hck
          have hlk := Hlc.out k hlt
          have d1 : (k : Int) < (vals.length : Int) := by omega
          have Hkr := Lib.hid hkr; have Hwr := Lib.hid hwr; clear hkr hwr
          obtain ⟨T, hT⟩ : ∃ T, T = S - sumTo cs k := ⟨_, rfl⟩
          rw [← hT]
          have HT := Lib.hid hT; clear hT
          go_wp2_with fail
          go_quiet (fail)
          go_wp2_with fail
          generalize hw1 : wr.drewN _ = w1
          have hb1 : Below wr.heap.size wr w1 := by rw [← hw1]; exact below_drewN (Below.refl _ _) _
          replace hrk := hrk.below hb1 hrk.lt
          have Hw1 := Lib.hid hw1
          clear hw1 q0 hb1 hrou2 hb2
          go_loopg [3, 9] (cs k) (fun r sm v wi => ∃ (j : Nat), v = .int .i64 j ∧ sm = .int .i64 (wrap64 (T - (j : Int) * ((k : Int) + 1))) ∧ j + r = cs k ∧ wi = w1)
          case atStart => exact ⟨0, rfl, by simp, by omega, rfl⟩
          case round =>
            obtain ⟨j, rfl, rfl, hjr, rfl⟩ := hrel
            by_cases hj : j < cs k
            · have q1 : wr.cell? ⟨gs k, j, none⟩ = some (.int .i64 ((k : Int) + 1)) := by rw [hrk.cell? j (by simpa using hj)]; simp [hj]
              have d2 : (j : Int) < (cs k : Int) := by omega
              have hjr2 : j + 1 + (gk - 1) = cs k := by omega
              have Hjr := Lib.hid hjr; have Hjr2 := Lib.hid hjr2; clear hjr hjr2
              go_wp2_with fail
              go_roundg (cs k - (j + 1))
              case measure => have := Hjr.out; omega
              case rel =>
                refine ⟨j + 1, by go_num, ?_, by omega, rfl⟩
                rw [wrap64_sub]
                congr 2
                have e : ((j + 1 : Nat) : Int) * ((k : Int) + 1) = (j : Int) * ((k : Int) + 1) + ((k : Int) + 1) := by rw [Int.natCast_add, Int.add_mul]; simp
                rw [e]; omega
            · have hjc : j = cs k := by omega
              subst hjc
              clear hjr
              go_wp2_with fail
              go_roundg (vals.length - (k + 1))
              case measure => have := Hkr.out; omega
              case rel =>
                refine ⟨k + 1, by go_num, ?_, by omega, dd + nq, by rw [← Hw1.out, Hwr.out, World.drewN_drewN]⟩
                rw [sumTo, HT.out]
                congr 2
                omega
        · have hk : k = vals.length := by omega
          subst hk
          clear hkr
          subst hwr
          have e0 : wrap64 (S - sumTo cs vals.length) = 0 := by rw [HS.out]; simp [wrap64]
          rw [e0]
          go_wp2_with fail
          go_ret
          exact ⟨rfl, hb.trans (hb2.mono (Nat.le_trans hB hb.size))⟩
end Go.Proofs.Ytddndhhhmlcgjaa
