/- fretworklow.CopyPairs, SamePairs, SameGraph: of the same list in another place. -/
import Derived.Test.YtddndhhhmlcgjaaAwake
import Derived.Test.YtddndhhhmlcgjaaMem
import Derived.Test.YtddndhhhmlcgjaaSame
import Derived.BigRegion
namespace Go.Proofs.Ytddndhhhmlcgjaa
open Go Go.RowKit

theorem pair_info : (Try.prog.info? 43).map (fun i => (i.zero, i.size, i.bytes)) = some (some (.agg #[.int .i64 0, .int .i64 0]), 2, 16) := by kernel_rfl

theorem pairCells_one (es : List (Int × Int)) : ∀ u ∈ pairCells es, u.oneCell' = true := by
  intro u hu
  unfold pairCells at hu
  obtain ⟨e, _, he⟩ := List.mem_flatMap.1 hu
  simp at he
  rcases he with rfl | rfl <;> rfl

/-- nothing behind nothing -/
theorem wpList_append_zero {w : World} {ops : Array Oper} {rest : List Oper} {o : Oper} {a : Act} {Q : Exit → Act → World → Prop} (hgd : o.guard = none) (sl x : Operand)
    (ho : o.op = .call { callee := .builtin .append, args := #[sl, x], argTypes := #[22, 22] }) (ad : Option Addr) (c : Nat)
    (hs : a.eval sl = .slice none 0 0) (hx : a.eval x = .slice ad 0 c) (h : wpList Try.prog ops Q rest (a.put o.dst (.slice none 0 0)) w) : wpList Try.prog ops Q (o :: rest) a w := by
  refine wpList_plain hgd fun K hK => ?_
  have hrun : (Builtin.append_ #[22, 22] o.type #[.slice none 0 0, .slice ad 0 c]).run Try.prog w = .ok (.slice none 0 0) w := by
    obtain ⟨i, hi, _⟩ := info_parts pair_info
    cases ad <;> simp [Builtin.append_, run_underlying Try.underlying22, sizeOf, typeInfo, hi, Builtin.lenOf, Builtin.firstCells, storeCells, loadCells, loadCellsFrom]
  unfold Oper.wp
  simp [execOp, ho, resolve, invoke, builtin, hs, hx, hrun, Result.andThen]
  exact hK _ _ h

theorem RdP.other {w : World} {a : Option Addr} {es : List (Int × Int)} (h : RdP w a es) {p : Addr} (hne : ∀ ad, a = some ad → p.block ≠ ad.block) (u : Value) : RdP (w.setCell p u) a es := by
  intro i v hv
  obtain ⟨b, o, ha, hc⟩ := h i v hv
  exact ⟨b, o, ha, (World.cell?_setCell_far w p ⟨b, o + i, none⟩ u (hne ⟨b, o, none⟩ ha)).trans hc⟩

def RetCopy (w : World) (es : List (Int × Int)) (e : Ending) (w' : World) : Prop :=
  ∃ a' c', e = .returned (.slice a' es.length c') ∧ RdP w' a' es ∧ Below w.heap.size w w' ∧ ∀ ad, a' = some ad → w.heap.size ≤ ad.block

theorem copyPairs_walk (a : Option Addr) (cap : Nat) (es : List (Int × Int)) (w : World) (hr : RdP w a es) (hle : es.length ≤ 1000) :
    Calls Try.prog 11 #[.slice a es.length cap] w (RetCopy w es) := by
  by_cases h0 : es.length = 0
  · obtain rfl := List.eq_nil_of_length_eq_zero h0
    go_enter Try.func11, Try.ntmps11
    go_wp2_with (at_builtin; refine wpList_append_zero rfl _ _ rfl a cap rfl rfl ?_)
    go_ret
    exact ⟨none, 0, rfl, by intro i u hu; simp [pairCells] at hu, bl_refl _, fun ad h => by cases h⟩
  · obtain ⟨b, o, rfl, _, _⟩ := hr.at 0 (by omega)
    have hcells : ∀ j u, (pairCells es)[j]? = some u → w.cell? ((⟨b, o, none⟩ : Addr).add j) = some u := by
      intro j u hu
      obtain ⟨b', o', e, hc⟩ := hr j u hu
      simp at e
      obtain ⟨rfl, rfl⟩ := e
      unfold Addr.add; split <;> simp_all
    go_enter Try.func11, Try.ntmps11
    go_wp2_with (at_builtin; refine wpList_append_row _ rfl (.tmp 4) (.tmp 5) 22 rfl 43 (.agg #[.int .i64 0, .int .i64 0]) 2 16 Try.underlying22 pair_info rfl (.slice none 0 0) 0 [] rfl (own_nil _ _ _) ⟨b, o, none⟩ es.length cap (pairCells es) rfl (pairCells_length es) hcells (pairCells_one es) (by omega) (by unfold maxLen; omega) (by omega) ?_; intro g c w1 hr1 hc1 hgr1 hor1)
    have hb1 : Below w.heap.size w w1 := Below.ofGrown hgr1 (Nat.le_refl _) (fun k hk => by simp [Value.ownBlock] at hk)
    go_wp2_with fail
    go_ret
    have hat := hr1.at_
    rw [List.nil_append] at hat
    exact ⟨some ⟨g, 0, none⟩, c, by simp, hat, hb1, fun ad h => by cases h; exact hor1.resolve_left (by simp [Value.ownBlock])⟩

theorem pair_eq_any (d : Nat) (x y x' y' : Int) (w : World) : (Op.equalIn (d + 1 + 1) 43 (.agg #[.int .i64 x, .int .i64 y]) (.agg #[.int .i64 x', .int .i64 y'])).run Try.prog w = .ok (x == x' && y == y') w := by
  have hi1 : ∀ w, (sizeOf 3).run Try.prog w = .ok 1 w := fun w => by kernel_rfl
  have hi2 : ∀ w, (isAgg 3).run Try.prog w = .ok false w := fun w => by kernel_rfl
  have h1 : ∀ (a b : Int) (w : World), (Op.equalIn (d + 1) 3 (.int .i64 a) (.int .i64 b)).run Try.prog w = .ok (a == b) w := fun a b w => run_equalIn_int w d 3 .i64 .i64 a b Try.underlying3
  rw [Op.equalIn]
  generalize Op.equalIn (d + 1) = E at h1
  simp [run_underlying Try.underlying43, hi1, part, hi2, h1, List.range', List.forIn_cons]
  by_cases hx : x = x' <;> by_cases hy : y = y' <;> simp [hx, hy]
theorem pair_eq (x y x' y' : Int) (w : World) : (Op.equalIn 10000 43 (.agg #[.int .i64 x, .int .i64 y]) (.agg #[.int .i64 x', .int .i64 y'])).run Try.prog w = .ok (x == x' && y == y') w := pair_eq_any 9998 x y x' y' w

set_option maxHeartbeats 1000000 in
theorem samePairs_walk (a b : Option Addr) (ca cb : Nat) (es : List (Int × Int)) (w : World) (hx : RdP w a es) (hy : RdP w b es) (hxl : es.length ≤ 9223372036854775807) :
    Calls Try.prog 36 #[.slice a es.length ca, .slice b es.length cb] w (RetB w true) := by
  have hpe := pair_eq
  have hgt : Try.prog.eqGuardType Try.prog.depth 43 = false := by kernel_rfl
  have l0 : ((es.length : Int) != (es.length : Int)) = false := by simp
  go_enter Try.func36, Try.ntmps36
  go_wp2_with fail
  go_loopg [5] es.length (fun r i wr => ∃ k : Nat, i = .int .i64 k ∧ k + r = es.length ∧ ∃ d, wr = w.drewN d)
  case atStart => exact ⟨0, rfl, by omega, 0, rfl⟩
  case round =>
    obtain ⟨k, rfl, hkr, d, hwr⟩ := hrel
    by_cases h1 : k < es.length
    · have hx2 : RdP wr a es := by rw [hwr]; exact hx.drewN d
      have hy2 : RdP wr b es := by rw [hwr]; exact hy.drewN d
      obtain ⟨b1, o1, rfl, p0, p1⟩ := hx2.at k h1
      obtain ⟨b2, o2, rfl, q0, q1⟩ := hy2.at k h1
      obtain ⟨x, hxe⟩ : ∃ x, es[k].1 = x := ⟨_, rfl⟩
      obtain ⟨y, hye⟩ : ∃ y, es[k].2 = y := ⟨_, rfl⟩
      rw [hxe] at p0 q0
      rw [hye] at p1 q1
      have i1 : (k : Int) < (es.length : Int) := by omega
      have Hkr := Lib.hid hkr; have Hwr := Lib.hid hwr
      clear hxe hye hkr hwr
      go_wp2_with fail
      go_quiet (fail)
      go_wp2_with fail
      go_roundg (gk - 1)
      case measure => have := Hkr.out; omega
      case rel => exact ⟨k + 1, by go_num, by have := Hkr.out; omega, d + nq, by rw [Hwr.out, World.drewN_drewN]⟩
    · go_wp2_with fail
      go_ret
      exact ⟨rfl, d, rfl⟩

set_option maxHeartbeats 1000000 in
theorem sameGraph_walk (n : Int) (a b : Option Addr) (ca cb : Nat) (es : List (Int × Int)) (w : World) (hx : RdP w a es) (hy : RdP w b es) (hxl : es.length ≤ 9223372036854775807) :
    Calls Try.prog 22 #[.agg #[.int .i64 n, .slice a es.length ca], .agg #[.int .i64 n, .slice b es.length cb]] w (RetT w true) := by
  have g1 : (n == n) = true := by simp
  have hb2 := bl_trans (bl_alloc w (.cells #[.int .i64 n, .slice a es.length ca] 24)) (bl_alloc _ (.cells #[.int .i64 n, .slice b es.length cb] 24))
  have hx2 := hx.below hb2
  have hy2 := hy.below hb2
  go_enter Try.func22, Try.ntmps22
  go_wp2_with (go_at_call 36; refine (samePairs_walk a b ca cb es _ hx2 hy2 hxl).mono ?_; rintro e w' ⟨rfl, d, rfl⟩)
  go_ret
  exact ⟨rfl, below_drewN hb2 d⟩
end Go.Proofs.Ytddndhhhmlcgjaa
