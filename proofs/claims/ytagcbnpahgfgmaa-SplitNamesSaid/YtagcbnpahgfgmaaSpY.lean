/- slices.Grow of nothing, and slices.Concat, over links. -/
import Derived.Test.YtagcbnpahgfgmaaSpX
namespace Go.Proofs.Ytagcbnpahgfgmaa
open Go Go.RowKit

/-- nothing is appended -/
theorem run_append_zero {P : Program} (w : World) (t ty e : TypeId) (i : TypeInfo) (ht : P.underlying t = some (.slice e)) (hi : P.info? e = some i) (base : Option Addr) (n c : Nat) (hle : n ≤ c) (p : Option Addr) (c' : Nat) :
    (Builtin.append_ #[t, t] ty #[.slice base n c, .slice p 0 c']).run P w = .ok (.slice base n c) w := by
  cases base <;> cases p <;> simp [Builtin.append_, run_underlying ht, sizeOf, typeInfo, hi, Builtin.lenOf, Builtin.firstCells, hle, storeCells, loadCells, loadCellsFrom, Result.andThen]
theorem own_empty {w : World} {v : Value} {e : TypeId} {s : Nat} (h : Own w v e s 0 []) : ∃ a c, v = .slice a 0 c := by
  rcases h.2 with ⟨rfl, _⟩ | ⟨g, cap, rfl, _, _⟩
  · exact ⟨_, _, rfl⟩
  · exact ⟨_, _, rfl⟩
theorem own_shape {w : World} {v : Value} {e : TypeId} {s n : Nat} {vs : List Value} (h : Own w v e s n vs) : ∃ a c, v = .slice a n c ∧ n ≤ c := by
  rcases h.2 with ⟨rfl, rfl⟩ | ⟨g, cap, rfl, hc, _⟩
  · exact ⟨_, _, rfl, Nat.le_refl _⟩
  · exact ⟨_, _, rfl, hc⟩
/-- What Grow hands back. -/
def RetGrow (w : World) (e : Ending) (w' : World) : Prop :=
  ∃ v, e = .returned v ∧ Own w' v 25 3 0 [] ∧ (∀ g, v.ownBlock = some g → w.heap.size ≤ g) ∧ Below w.heap.size w w'
theorem zeroC_size (z : Value) (n : Nat) : (Builtin.zeroCells z.cells n).size = n * z.cells.size := by unfold Builtin.zeroCells; simp
set_option maxRecDepth 100000 in
set_option maxHeartbeats 1000000 in
theorem grow_walk (n : Nat) (w : World) (hn : n ≤ 100000) :
    Calls Try.prog 37 #[.slice none 0 0, .int .i64 n] w (RetGrow w) := by
  by_cases h0 : n = 0
  · subst h0
    go_enter Try.func37, Try.ntmps37
    go_wp2_with fail
    go_ret
    exact ⟨_, rfl, own_nil _ _ _, fun g hg => by simp [Value.ownBlock] at hg, bl_refl _⟩
  · have i1 : IntKind.i64.wrap (n : Int) = (n : Int) := IntWalk.i64_in _ (by omega)
    have q1 : decide ((0 : Int) < (n : Int)) = true := by simp; omega
    have q2 : decide (0 < n) = true := by simp; omega
    obtain ⟨i, hi, hz, hsize, hby⟩ := info_parts link_info
    have hap := Lib.run_append_nil_zeros (P := Try.prog) w 22 3 22 25 i _ .i64 .i64 Try.underlying22 Try.underlying3 hi hz n (by omega) (by omega) (by omega) (by rw [hby]; omega)
    have hge := grownCap_ge w n 0 25
    have hcm := grownCap_le_maxLen w n 0 25 (by unfold maxLen; omega)
    have hrow : Row (w.drew.alloc (.cells (Builtin.zeroCells (Value.agg #[.int .i64 0, .int .i64 0, .int .i64 0]).cells n ++ Builtin.zeroCells (Value.agg #[.int .i64 0, .int .i64 0, .int .i64 0]).cells (grownCap w n 0 25 - n)) 25)) w.heap.size 25 3 (grownCap w n 0 25) [] := by
      refine ⟨_, heap_alloc_new w.drew _, ?_, by simp, hcm, rfl⟩
      rw [Array.size_append, zeroC_size, zeroC_size, show (Value.agg #[.int .i64 0, .int .i64 0, .int .i64 0]).cells.size = 3 from rfl]
      omega
    have hb : Below w.heap.size w (w.drew.alloc (.cells (Builtin.zeroCells (Value.agg #[.int .i64 0, .int .i64 0, .int .i64 0]).cells n ++ Builtin.zeroCells (Value.agg #[.int .i64 0, .int .i64 0, .int .i64 0]).cells (grownCap w n 0 25 - n)) 25)) := by
      have h1 := bl_alloc w.drew (.cells (Builtin.zeroCells (Value.agg #[.int .i64 0, .int .i64 0, .int .i64 0]).cells n ++ Builtin.zeroCells (Value.agg #[.int .i64 0, .int .i64 0, .int .i64 0]).cells (grownCap w n 0 25 - n)) 25)
      exact (below_drewN (bl_refl w) 1).trans h1
    have HR := Lib.hid hrow; have HB := Lib.hid hb; have HA := Lib.hid hap
    clear hrow hb hap hi hz hsize hby
    generalize (w.drew.alloc (.cells (Builtin.zeroCells (Value.agg #[.int .i64 0, .int .i64 0, .int .i64 0]).cells n ++ Builtin.zeroCells (Value.agg #[.int .i64 0, .int .i64 0, .int .i64 0]).cells (grownCap w n 0 25 - n)) 25)) = w1 at HR HB HA
    generalize grownCap w n 0 25 = C at HR HA hge hcm
    have hC0 : 0 < C := by omega
    clear hcm
    go_enter Try.func37, Try.ntmps37
    go_wp2_with (at_builtin; refine Lib.wpList_append_run _ rfl (.tmp 20) (.tmp 21) 22 3 rfl (.slice none 0 0) (.int .i64 n) rfl rfl _ _ HA.out ?_)
    go_ret
    exact ⟨_, rfl, HR.out.own (by simp) (Nat.zero_le _), fun g hg => by cases hg; exact Nat.le_refl _, HB.out⟩

def sumN (G : List (List Lk)) (i : Nat) : Nat := ((G.take i).map List.length).sum
theorem sumN_succ (G : List (List Lk)) (i : Nat) (h : i < G.length) : sumN G (i + 1) = sumN G i + G[i].length := by
  unfold sumN
  rw [List.take_succ_eq_append_getElem h, List.map_append, List.sum_append]; simp
theorem sumN_le (G : List (List Lk)) (i : Nat) : sumN G i ≤ sumN G G.length := by
  unfold sumN
  have h := congrArg (fun l : List (List Lk) => (l.map List.length).sum) (List.take_append_drop i G)
  simp only [List.map_append, List.sum_append] at h
  rw [List.take_length]
  omega
def flatN (G : List (List Lk)) (i : Nat) : List Lk := (G.take i).flatten
theorem flatN_succ (G : List (List Lk)) (i : Nat) (h : i < G.length) : flatN G (i + 1) = flatN G i ++ G[i] := by
  unfold flatN
  rw [List.take_succ_eq_append_getElem h, List.flatten_append]; simp
theorem flatN_len (G : List (List Lk)) (i : Nat) : (flatN G i).length = sumN G i := by unfold flatN sumN; rw [List.length_flatten]
set_option maxRecDepth 100000 in
set_option maxHeartbeats 4000000 in
theorem concat_walk (a : Option Addr) (cap : Nat) (G : List (List Lk)) (w : World) (hr : RdLs w a G) (hl : G.length ≤ 1000) (hs : sumN G G.length ≤ 100000) :
    Calls Try.prog 24 #[.slice a G.length cap] w (RetLk w G.flatten) := by
  have Hs := Lib.hid hs; clear hs
  go_enter Try.func24, Try.ntmps24
  go_wp2_with fail
  go_loopg [3, 11] G.length (fun r sv iv wj => ∃ i : Nat, i + r = G.length ∧ iv = .int .i64 i ∧ sv = .int .i64 (sumN G i : Nat) ∧ w = wj)
  case atStart => exact ⟨0, by omega, rfl, by simp [sumN], rfl⟩
  case round =>
    obtain ⟨i, hi, rfl, rfl, rfl⟩ := hrel
    have Hi := Lib.hid hi
    by_cases hil : i < G.length
    · clear hi
      obtain ⟨R, hR⟩ : ∃ R, G[i] = R := ⟨_, rfl⟩
      have hRi : G[i]? = some R := by rw [List.getElem?_eq_getElem hil, hR]
      obtain ⟨bo, oo, au, cu, rfl, p0, _, _, _⟩ := hr i R hRi
      have e1 := sumN_succ G i hil
      rw [hR] at e1
      have h1 := sumN_le G (i + 1)
      have h2 := Hs.out
      obtain ⟨S, hS⟩ : ∃ S, S = sumN G i := ⟨_, rfl⟩
      rw [← hS] at e1 ⊢
      have b1 : S + R.length ≤ 100000 := by omega
      have i1 : IntKind.i64.wrap ((S : Int) + (R.length : Int)) = (S : Int) + (R.length : Int) := IntWalk.i64_in _ (by omega)
      have q1 : decide ((S : Int) + (R.length : Int) < 0) = false := by simp; omega
      have HE := Lib.hid e1; have HS := Lib.hid hS
      clear hRi hR e1 h1 h2 hS
      go_wp2_with fail
      go_roundg (gk - 1)
      case measure => have := Hi.out; omega
      case rel => exact ⟨i + 1, by have := Hi.out; omega, by go_num, by rw [HE.out]; go_num, rfl⟩
    · have hin : i = G.length := by omega
      subst hin
      have h2 := Hs.out
      obtain ⟨S, hS⟩ : ∃ S, S = sumN G G.length := ⟨_, rfl⟩
      rw [← hS] at h2 ⊢
      clear hi Hi
      have HS := Lib.hid hS; clear hS
      go_wp2_with fail
      refine (grow_walk S _ h2).mono ?_
      rintro e w1 ⟨v1, rfl, ho1, hg1, hb1⟩
      have Ho1 := Lib.hid ho1; have Hg1 := Lib.hid hg1
      clear ho1 hg1
      go_wp2_with fail
      go_loopg [6, 27] G.length (fun r ov iv wj => ∃ (i : Nat) (v : Value), i + r = G.length ∧ iv = .int .i64 i ∧ v = ov ∧ OwnL wj v (flatN G i) ∧ (∀ g, v.ownBlock = some g → w.heap.size ≤ g) ∧ Below w.heap.size w wj)
      case atStart => exact ⟨0, v1, by omega, rfl, rfl, Ho1.out, Hg1.out, hb1⟩
      case round =>
        obtain ⟨i, v, hi, rfl, rfl, hv, hlo, hbj⟩ := hrel
        have Hi := Lib.hid hi; have Hlo := Lib.hid hlo
        clear hlo hb1 Ho1 Hg1
        by_cases hil : i < G.length
        · clear hi
          obtain ⟨R, hR⟩ : ∃ R, G[i] = R := ⟨_, rfl⟩
          have hRi : G[i]? = some R := by rw [List.getElem?_eq_getElem hil, hR]
          obtain ⟨bo, oo, au, cu, rfl, p0G, hrR, hRc, hcm⟩ := hr i R hRi
          have p0 := keep_cell hbj p0G
          have e1 := flatN_succ G i hil
          rw [hR] at e1
          have e2 := flatN_len G (i + 1)
          rw [e1, List.length_append] at e2
          have e3 := sumN_le G (i + 1)
          obtain ⟨F, hF⟩ : ∃ F, F = flatN G i := ⟨_, rfl⟩
          rw [← hF] at hv e1 e2
          have hFl : F.length + R.length ≤ 100000 := by have := Hs.out; omega
          have HE := Lib.hid e1; have Hv := Lib.hid hv
          clear hRi hR hF e1 e2 e3 hv
          by_cases hR0 : R.length = 0
          · have hRn := List.eq_nil_of_length_eq_zero hR0
            subst hRn
            obtain ⟨av, cv, hve, hvc⟩ := own_shape Hv.out
            subst hve
            obtain ⟨i0, hi0, _, _, _⟩ := info_parts link_info
            have hap := run_append_zero (P := Try.prog) wr 22 22 25 i0 Try.underlying22 hi0 av F.length cv hvc au cu
            have HA := Lib.hid hap
            clear hap hi0
            go_wp2_with (at_builtin; refine Lib.wpList_append_run _ rfl (.tmp 31) (.tmp 32) 22 22 rfl (.slice av F.length cv) (.slice au 0 cu) rfl rfl _ _ HA.out ?_)
            go_roundg (gk - 1)
            case measure => have := Hi.out; omega
            case rel => exact ⟨i + 1, _, by have := Hi.out; omega, by go_num, rfl, by rw [HE.out, List.append_nil]; exact Hv.out, Hlo.out, hbj⟩
          · obtain ⟨b1, o1, rfl, _⟩ := hrR.at 0 (by omega)
            have hnews : ∀ (j : Nat) v, (lkCells R)[j]? = some v → wr.cell? ((⟨b1, o1, none⟩ : Addr).add j) = some v := fun j v hj => by
              obtain ⟨b', o', e1, e2⟩ := (hrR.below hbj) j v hj
              cases e1
              rw [addr_add]; exact e2
            have Hone := Lib.hid (lkCells_one R); have Hnews := Lib.hid hnews; have Hlen := Lib.hid (lkCells_length R)
            clear hnews
            go_wp2_with (at_builtin; refine wpList_append_row _ rfl (.tmp 31) (.tmp 32) 22 rfl 25 (.agg #[.int .i64 0, .int .i64 0, .int .i64 0]) 3 24 Try.underlying22 link_info rfl v F.length _ rfl Hv.out ⟨b1, o1, none⟩ R.length cu (lkCells R) rfl Hlen.out Hnews.out Hone.out (by omega) (by unfold maxLen; omega) (by omega) ?_)
            intro g5 c5 w5 hr5 hc5 hg5 hor5
            have hb5 : Below w.heap.size w w5 := hbj.grown hg5 hbj.size (fun j hj => Hlo.out j hj)
            have hg6 : w.heap.size ≤ g5 := by
              rcases hor5 with h | h
              · exact Hlo.out g5 h
              · have := hbj.size; omega
            have hr6 : OwnL w5 (.slice (some ⟨g5, 0, none⟩) (F.length + R.length) c5) (F ++ R) := by
              have h1 : Row w5 g5 25 3 c5 (lkCells (F ++ R)) := by rw [lkCells_append]; exact hr5
              have := h1.own (n := F.length + R.length) (by rw [lkCells_length]; simp) hc5
              unfold OwnL
              rw [List.length_append]
              exact this
            have Hr6 := Lib.hid hr6
            clear hr5 hg5 hor5 hr6
            go_wp2_with fail
            go_roundg (gk - 1)
            case measure => have := Hi.out; omega
            case rel => exact ⟨i + 1, _, by have := Hi.out; omega, by go_num, rfl, by rw [HE.out]; exact Hr6.out, (fun g hg => by cases hg; exact hg6), hb5⟩
        · have hin : i = G.length := by omega
          subst hin
          have hfl : flatN G G.length = G.flatten := by unfold flatN; rw [List.take_length]
          have Hfl := Lib.hid hfl; have Hv := Lib.hid hv
          clear hi hfl hv
          go_wp2_with fail
          go_ret
          exact ⟨v, rfl, by rw [← Hfl.out]; exact Hv.out, Hlo.out, hbj⟩
end Go.Proofs.Ytagcbnpahgfgmaa
