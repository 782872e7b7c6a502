/- A map[int]int of the call's own, keys any ints: what it holds, as a function. -/
import Derived.Test.YtagcbnpahgfgmaaLib
import Derived.Test.YtagcbnpahgfgmaaChecked
import Derived.Maps.Own
import Derived.Maps.OwnOps
import Derived.Maps.OwnSet
import Derived.WalkKit
namespace Go.Proofs.Ytagcbnpahgfgmaa
open Go Go.RowKit Go.Maps

theorem mapLawZ : Keyed Try.prog 3 := int_keyed Try.underlying3
theorem mapZeroZ (w : World) : (zeroValue 3).run Try.prog w = .ok (.int .i64 0) w := by kernel_rfl
def WfZ (v : Int) : Prop := (Lit.int .i64 v).wf = true
theorem wfZ_of {v : Int} (h : -9223372036854775808 ≤ v ∧ v ≤ 9223372036854775807) : WfZ v := WalkArith.wf_i64 h
theorem keyZ {v : Int} (h : WfZ v) : keyOf Try.prog 3 (.int .i64 v) = some (.int .i64 v) := keyOf_int_mk Try.underlying3 h
def updF (F : Int → Option Int) (k v : Int) : Int → Option Int := fun j => if j = k then some v else F j
theorem updF_same (F : Int → Option Int) (k v : Int) : updF F k v k = some v := by simp [updF]
theorem updF_ne (F : Int → Option Int) {k j : Int} (v : Int) (h : j ≠ k) : updF F k v j = F j := by simp [updF, h]

def MZs (D : DataW Unit) (F : Int → Option Int) (c : Nat) : Prop :=
  Tidy D ∧ Maps.size D = c ∧ (∀ v, Maps.has D (.int .i64 v) = (F v).isSome) ∧ ∀ v x, F v = some x → ∀ z, D.atKey (.int .i64 v) z = .lit (.int .i64 x)
/-- Block B is a map of c entries that reads as F. -/
def MZ (w : World) (B c : Nat) (F : Int → Option Int) : Prop :=
  ∃ D : DataW Unit, w.ownsMap Try.prog 3 (plainElem Try.prog 3) B c D ∧ MZs D F c

theorem MZs.none : MZs (.map []) (fun _ => none) 0 := ⟨tidy_empty, rfl, fun v => rfl, fun v x h => by cases h⟩
theorem MZs.put {D : DataW Unit} {F : Int → Option Int} {c : Nat} (h : MZs D F c) (k v : Int) : MZs (D.put (.int .i64 k) (.lit (.int .i64 v))) (updF F k v) (if (F k).isSome then c else c + 1) := by
  obtain ⟨h1, h2, h3, h4⟩ := h
  have hk : WideAt.IsKeyLit (.int .i64 k) := by simp [WideAt.IsKeyLit]
  refine ⟨h1.put hk _, ?_, fun j => ?_, fun j x hj z => ?_⟩
  · rw [size_put h1, h3 k, h2]
  · by_cases e : j = k
    · subst e; rw [has_put_same h1.isMap hk, updF_same]; rfl
    · rw [has_put_other (by simp; omega), h3 j, updF_ne _ _ e]
  · by_cases e : j = k
    · subst e; rw [updF_same] at hj; cases hj; rw [atKey_put_same h1.isMap hk]
    · rw [updF_ne _ _ e] at hj
      rw [atKey_put_other (by simp; omega)]
      exact h4 j x hj z
theorem ownsMap_exact {w : World} {B n : Nat} {D : DataW Unit} (h : w.ownsMap Try.prog 3 (plainElem Try.prog 3) B n D) : w.ownsMap Try.prog 3 (plainElem Try.prog 3) B (Maps.size D) D := by
  obtain ⟨es, clock, hb, F, hs, rfl⟩ := h
  exact ⟨es, clock, hb, F, by rw [size_eq, length_read]; exact Nat.le_refl _, rfl⟩
theorem MZ.lt {w : World} {B c : Nat} {F : Int → Option Int} (h : MZ w B c F) : B < w.heap.size := by obtain ⟨D, h1, _⟩ := h; exact h1.lt
theorem MZ.made (w : World) : MZ (w.alloc (.map #[] 0)) w.heap.size 0 (fun _ => none) := ⟨_, World.ownsMap_made _ _ _ _, MZs.none⟩
theorem MZ.block {w w' : World} {B c : Nat} {F : Int → Option Int} (h : MZ w B c F) (e : w'.heap[B]? = w.heap[B]?) : MZ w' B c F := by
  obtain ⟨D, ⟨es, clock, hb, r⟩, h2⟩ := h
  exact ⟨D, ⟨es, clock, e.trans hb, r⟩, h2⟩
theorem MZ.below {w w' : World} {B c : Nat} {F : Int → Option Int} (h : MZ w B c F) (hb : Below w.heap.size w w') : MZ w' B c F := h.block (hb.block B h.lt)
theorem MZ.grown {w w' : World} {B c : Nat} {F : Int → Option Int} {k : Option Nat} (h : MZ w B c F) (hg : w.grownBy w' k) (hne : k ≠ some B) : MZ w' B c F := h.block (hg.block B h.lt (fun e => hne e.symm))
theorem MZ.alloc {w : World} {B c : Nat} {F : Int → Option Int} (h : MZ w B c F) (o : Obj) : MZ (w.alloc o) B c F := h.block (Below.heap_alloc w o B h.lt)
theorem MZ.other {w : World} {B c : Nat} {F : Int → Option Int} (h : MZ w B c F) {a : Addr} (hne : B ≠ a.block) (u : Value) : MZ (w.setCell a u) B c F :=
  h.block (RowKit.Below.heap_setCell _ _ _ _ hne)

/-- 'm[v]' -/
theorem MZ.look {w : World} {B c : Nat} {F : Int → Option Int} (h : MZ w B c F) {v : Int} (hv : WfZ v) :
    (Instr.lookup 40 (.map (some B)) (.int .i64 v) false).run Try.prog w = .ok (.int .i64 ((F v).getD 0)) w := by
  obtain ⟨D, hown, _, _, h3, h4⟩ := h
  obtain ⟨c, hrun, hat, _⟩ := hown.lookup_int mapLawZ Try.underlying40 Try.underlying3 (mapZeroZ w) (keyZ hv)
  rw [hrun]
  cases hF : F v with
  | none =>
    have hh := h3 v; rw [hF] at hh
    rw [atKey_of_not_has hh] at hat
    simp at hat; rw [← hat]; rfl
  | some x =>
    rw [h4 v x hF] at hat
    simp at hat; rw [← hat]; rfl
/-- 'x, ok := m[v]' -/
theorem MZ.lookOk {w : World} {B c : Nat} {F : Int → Option Int} (h : MZ w B c F) {v : Int} (hv : WfZ v) :
    (Instr.lookup 40 (.map (some B)) (.int .i64 v) true).run Try.prog w = .ok (.tuple #[.int .i64 ((F v).getD 0), .bool (F v).isSome]) w := by
  obtain ⟨D, hown, _, _, h3, h4⟩ := h
  obtain ⟨u, ps, hrun, hu⟩ := hown.look_ok mapLawZ Try.underlying40 (mapZeroZ w) (plainElem_int Try.underlying3 (by decide)) (keyZ hv)
  obtain ⟨c, rfl, hc, _⟩ := plainElem_int_inv Try.underlying3 hu
  simp only [Prod.mk.injEq] at hc
  rw [hrun, h3 v]
  have hat := hc.1
  cases hF : F v with
  | none =>
    have hh := h3 v; rw [hF] at hh
    rw [atKey_of_not_has hh] at hat
    simp at hat; rw [← hat]; rfl
  | some x =>
    rw [h4 v x hF] at hat
    simp at hat; rw [← hat]; rfl
/-- 'len(m)' -/
theorem MZ.len {w : World} {B c : Nat} {F : Int → Option Int} (h : MZ w B c F) (ty : TypeId) :
    (Builtin.len_ #[40] ty #[.map (some B)]).run Try.prog w = .ok (.int .i64 c) w := by
  obtain ⟨D, hown, _, h2, _⟩ := h
  rw [hown.len Try.underlying40 ty, h2]
/-- 'm[k] = v' -/
theorem MZ.store {w : World} {B c : Nat} {F : Int → Option Int} (h : MZ w B c F) {k v : Int} (hk : WfZ k) (hv : WfZ v) (hc : c ≤ 100000000) :
    ∃ w', (Instr.mapUpdate 40 (.map (some B)) (.int .i64 k) (.int .i64 v)).run Try.prog w = .ok () w' ∧ MZ w' B (if (F k).isSome then c else c + 1) (updF F k v) ∧ w.grownBy w' (some B) := by
  obtain ⟨D, hown, h2⟩ := h
  obtain ⟨w', hrun, r1, r2⟩ := hown.update mapLawZ Try.underlying40 (by unfold maxLen; omega) (keyZ hk) (plainElem_int Try.underlying3 hv)
  have h3 := h2.put k v
  have h4 := ownsMap_exact r1
  rw [h3.2.1] at h4
  exact ⟨w', hrun, ⟨_, h4, h3⟩, r2⟩
theorem wpList_put_MZ {w : World} {ops : Array Oper} {rest : List Oper} {o : Oper} {a : Act} {Q : Exit → Act → World → Prop} (hg : o.guard = none) (m x y : Operand) (hop : o.op = Op.mapUpdate 40 m x y) {B c : Nat} {F : Int → Option Int} (h : MZ w B c F) {k v : Int}
    (hm : a.eval m = .map (some B)) (hx : a.eval x = .int .i64 k) (hy : a.eval y = .int .i64 v) (hk : WfZ k) (hv : WfZ v) (hc : c ≤ 100000000)
    (hK : ∀ w', MZ w' B (if (F k).isSome then c else c + 1) (updF F k v) → w.grownBy w' (some B) → wpList Try.prog ops Q rest (a.put o.dst undef) w') : wpList Try.prog ops Q (o :: rest) a w := by
  refine wpList_plain hg fun K' hK' => ?_
  obtain ⟨w', hrun, r1, r2⟩ := h.store hk hv hc
  unfold Oper.wp
  simp [execOp, hop, hm, hx, hy, hrun, Result.andThen]
  exact hK' _ _ (hK w' r1 r2)
theorem step_put_MZ {w : World} {ops : Array Oper} {o : Oper} {a : Act} {K : Act → World → Prop} {Q : Exit → Act → World → Prop} {E : Prop} (hg : o.guard = none) (m x y : Operand) (hop : o.op = Op.mapUpdate 40 m x y) {B c : Nat} {F : Int → Option Int} (h : MZ w B c F) {k v : Int}
    (hm : a.eval m = .map (some B)) (hx : a.eval x = .int .i64 k) (hy : a.eval y = .int .i64 v) (hk : WfZ k) (hv : WfZ v) (hc : c ≤ 100000000)
    (hK : ∀ w', MZ w' B (if (F k).isSome then c else c + 1) (updF F k v) → w.grownBy w' (some B) → K (a.put o.dst undef) w') :
    if Region.wanted o (yielded ops a.tmps) = true then Oper.wp Try.prog o a w K Q else E := by
  rw [if_pos (by simp [Region.wanted, hg])]
  obtain ⟨w', hrun, r1, r2⟩ := h.store hk hv hc
  unfold Oper.wp
  simp [execOp, hop, hm, hx, hy, hrun, Result.andThen]
  exact hK w' r1 r2
theorem run_makeMapZ (n : Int) (w : World) : (Instr.makeMap 40 (some (.int .i64 n))).run Try.prog w = .ok (.map (some w.heap.size)) (w.alloc (.map #[] 0)) := by
  simp [Instr.makeMap, run_underlying Try.underlying40, asInt, asIntOf, Result.andThen]
/-- the map of those that are gone -/
def goneF (l : List Int) : Int → Option Int := fun v => if v ∈ l then some 1 else none
theorem goneF_nil : goneF [] = fun _ => none := by funext v; simp [goneF]
theorem goneF_snoc (l : List Int) (x : Int) : updF (goneF l) x 1 = goneF (l ++ [x]) := by
  funext v
  unfold updF goneF
  by_cases e : v = x
  · simp [e]
  · simp [e]
theorem MZ.goneYes {w : World} {B c : Nat} {l : List Int} (h : MZ w B c (goneF l)) {v : Int} (hv : WfZ v) (hm : v ∈ l) :
    (Instr.lookup 40 (.map (some B)) (.int .i64 v) false).run Try.prog w = .ok (.int .i64 1) w := by
  have := h.look hv; unfold goneF at this; rw [if_pos hm] at this; exact this
theorem MZ.goneNo {w : World} {B c : Nat} {l : List Int} (h : MZ w B c (goneF l)) {v : Int} (hv : WfZ v) (hm : v ∉ l) :
    (Instr.lookup 40 (.map (some B)) (.int .i64 v) false).run Try.prog w = .ok (.int .i64 0) w := by
  have := h.look hv; unfold goneF at this; rw [if_neg hm] at this; exact this
end Go.Proofs.Ytagcbnpahgfgmaa
