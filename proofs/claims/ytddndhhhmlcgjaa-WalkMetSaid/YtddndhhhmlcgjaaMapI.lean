/- A map[int]int of the call's own: which vertices it has, and what of each. -/
import Derived.Test.YtddndhhhmlcgjaaLib
import Derived.Test.YtddndhhhmlcgjaaChecked
import Derived.Maps.Own
import Derived.Maps.OwnOps
import Derived.Maps.OwnSet
import Derived.WalkKit
namespace Go.Proofs.Ytddndhhhmlcgjaa
open Go Go.RowKit Go.Maps

theorem mapLaw : Keyed Try.prog 3 := int_keyed Try.underlying3
theorem mapZero (w : World) : (zeroValue 3).run Try.prog w = .ok (.int .i64 0) w := by kernel_rfl
theorem wfN {v : Nat} (h : v ≤ 1000000) : (Lit.int .i64 (v : Int)).wf = true := WalkArith.wf_i64 (by omega)
theorem keyN {v : Nat} (h : v ≤ 1000000) : keyOf Try.prog 3 (.int .i64 (v : Int)) = some (.int .i64 (v : Int)) := keyOf_int_mk Try.underlying3 (wfN h)

/-- Block B is a map of those of L, each once; at v it holds f v. -/
def MIs (D : DataW Unit) (L : List Nat) (f : Nat → Nat) : Prop :=
  Tidy D ∧ Maps.size D = L.length ∧ (∀ v : Nat, Maps.has D (.int .i64 (v : Int)) = L.contains v) ∧ ∀ v : Nat, v ∈ L → ∀ z, D.atKey (.int .i64 (v : Int)) z = .lit (.int .i64 (f v : Int))
def MI (w : World) (B : Nat) (L : List Nat) (f : Nat → Nat) : Prop :=
  ∃ D : DataW Unit, w.ownsMap Try.prog 3 (plainElem Try.prog 3) B L.length D ∧ MIs D L f

theorem MIs.none (f : Nat → Nat) : MIs (.map []) [] f := ⟨tidy_empty, rfl, fun v => rfl, fun v h => absurd h (by simp)⟩
theorem MIs.put {D : DataW Unit} {L : List Nat} {f : Nat → Nat} (h : MIs D L f) {x : Nat} (hx : x ∉ L) : MIs (D.put (.int .i64 (x : Int)) (.lit (.int .i64 (f x : Int)))) (L ++ [x]) f := by
  obtain ⟨h1, h2, h3, h4⟩ := h
  have hk : WideAt.IsKeyLit (.int .i64 (x : Int)) := by simp [WideAt.IsKeyLit]
  refine ⟨h1.put hk _, ?_, fun v => ?_, fun v hv z => ?_⟩
  · rw [size_put h1, h3 x, if_neg (by simpa using hx), h2]; simp
  · by_cases e : v = x
    · subst e; rw [has_put_same h1.isMap hk]; simp
    · rw [has_put_other (by simp; omega), h3 v]; simp [e]
  · by_cases e : v = x
    · subst e; rw [atKey_put_same h1.isMap hk]
    · rw [atKey_put_other (by simp; omega)]
      exact h4 v (by simpa [e] using hv) z
theorem MI.lt {w : World} {B : Nat} {L : List Nat} {f : Nat → Nat} (h : MI w B L f) : B < w.heap.size := by obtain ⟨D, h1, _⟩ := h; exact h1.lt
theorem MI.made (w : World) (f : Nat → Nat) : MI (w.alloc (.map #[] 0)) w.heap.size [] f := ⟨_, World.ownsMap_made _ _ _ _, MIs.none f⟩
theorem MI.block {w w' : World} {B : Nat} {L : List Nat} {f : Nat → Nat} (h : MI w B L f) (e : w'.heap[B]? = w.heap[B]?) : MI w' B L f := by
  obtain ⟨D, ⟨es, clock, hb, r⟩, h2⟩ := h
  exact ⟨D, ⟨es, clock, e.trans hb, r⟩, h2⟩
theorem MI.below {w w' : World} {B : Nat} {L : List Nat} {f : Nat → Nat} (h : MI w B L f) (hb : Below w.heap.size w w') : MI w' B L f := h.block (hb.block B h.lt)
theorem MI.drew {w : World} {B : Nat} {L : List Nat} {f : Nat → Nat} (h : MI w B L f) : MI w.drew B L f := h
theorem MI.alloc {w : World} {B : Nat} {L : List Nat} {f : Nat → Nat} (h : MI w B L f) (o : Obj) : MI (w.alloc o) B L f := h.block (Below.heap_alloc w o B h.lt)
theorem MI.other {w : World} {B : Nat} {L : List Nat} {f : Nat → Nat} (h : MI w B L f) {a : Addr} (hne : B ≠ a.block) (u : Value) : MI (w.setCell a u) B L f :=
  h.block (RowKit.Below.heap_setCell _ _ _ _ hne)

/-- 'm[v]' -/
theorem MI.look {w : World} {B : Nat} {L : List Nat} {f : Nat → Nat} (h : MI w B L f) {v : Nat} (hv : v ∈ L) (hb : v ≤ 1000000) :
    (Instr.lookup 41 (.map (some B)) (.int .i64 (v : Int)) false).run Try.prog w = .ok (.int .i64 (f v : Int)) w := by
  obtain ⟨D, hown, _, _, _, h4⟩ := h
  obtain ⟨c, hrun, hat, _⟩ := hown.lookup_int mapLaw Try.underlying41 Try.underlying3 (mapZero w) (keyN hb)
  rw [h4 v hv] at hat
  simp at hat
  rw [hrun, ← hat]
/-- 'len(m)' -/
theorem MI.len {w : World} {B : Nat} {L : List Nat} {f : Nat → Nat} (h : MI w B L f) (ty : TypeId) :
    (Builtin.len_ #[41] ty #[.map (some B)]).run Try.prog w = .ok (.int .i64 L.length) w := by
  obtain ⟨D, hown, _, h2, _⟩ := h
  rw [hown.len Try.underlying41 ty, h2]

section
variable {w : World} {ops : Array Oper} {rest : List Oper} {o : Oper} {a : Act} {Q : Exit → Act → World → Prop}
theorem wpList_look_MI (hg : o.guard = none) (m x : Operand) (hop : o.op = Op.lookup 41 m x false) {B : Nat} {L : List Nat} {f : Nat → Nat} (h : MI w B L f) {v : Nat} (hm : a.eval m = .map (some B)) (hx : a.eval x = .int .i64 (v : Int)) (hv : v ∈ L) (hb : v ≤ 1000000)
    (hK : wpList Try.prog ops Q rest (a.put o.dst (.int .i64 (f v : Int))) w) : wpList Try.prog ops Q (o :: rest) a w := by
  refine wpList_plain hg fun K' hK' => ?_
  have hrun := h.look hv hb
  unfold Oper.wp
  simp [execOp, hop, hm, hx, hrun, Result.andThen]
  exact hK' _ _ hK
theorem wpList_ok_MI (hg : o.guard = none) (m x : Operand) (hop : o.op = Op.lookup 41 m x true) {B : Nat} {L : List Nat} {f : Nat → Nat} (h : MI w B L f) {v : Nat} (hm : a.eval m = .map (some B)) (hx : a.eval x = .int .i64 (v : Int)) (hb : v ≤ 1000000)
    (hK : ∀ c : Int, (v ∈ L → c = f v) → wpList Try.prog ops Q rest (a.put o.dst (.tuple #[.int .i64 c, .bool (L.contains v)])) w) : wpList Try.prog ops Q (o :: rest) a w := by
  obtain ⟨D, hown, _, _, h3, h4⟩ := h
  refine wpList_lookup_own_ok_int w hg m x 41 hop 3 3 .i64 mapLaw Try.underlying41 Try.underlying3 (mapZero w) B _ D hm hown _ _ hx (keyN hb) fun c hat _ => ?_
  rw [h3 v]
  exact hK c fun hv => by rw [h4 v hv] at hat; simpa using hat.symm
theorem wpList_no_MI (hg : o.guard = none) (m x : Operand) (hop : o.op = Op.lookup 41 m x true) {B : Nat} {L : List Nat} {f : Nat → Nat} (h : MI w B L f) {v : Nat} (hm : a.eval m = .map (some B)) (hx : a.eval x = .int .i64 (v : Int)) (hv : v ∉ L) (hb : v ≤ 1000000)
    (hK : ∀ c : Int, wpList Try.prog ops Q rest (a.put o.dst (.tuple #[.int .i64 c, .bool false])) w) : wpList Try.prog ops Q (o :: rest) a w := by
  refine wpList_ok_MI hg m x hop h hm hx hb fun c _ => ?_
  rw [show L.contains v = false by simpa using hv]
  exact hK c
theorem wpList_yes_MI (hg : o.guard = none) (m x : Operand) (hop : o.op = Op.lookup 41 m x true) {B : Nat} {L : List Nat} {f : Nat → Nat} (h : MI w B L f) {v : Nat} (hm : a.eval m = .map (some B)) (hx : a.eval x = .int .i64 (v : Int)) (hv : v ∈ L) (hb : v ≤ 1000000)
    (hK : wpList Try.prog ops Q rest (a.put o.dst (.tuple #[.int .i64 (f v : Int), .bool true])) w) : wpList Try.prog ops Q (o :: rest) a w := by
  refine wpList_ok_MI hg m x hop h hm hx hb fun c hc => ?_
  rw [show L.contains v = true by simpa using hv, hc hv]
  exact hK
theorem wpList_put_MI (hg : o.guard = none) (m x y : Operand) (hop : o.op = Op.mapUpdate 41 m x y) {B : Nat} {L : List Nat} {f : Nat → Nat} (h : MI w B L f) {v : Nat} (hm : a.eval m = .map (some B)) (hx : a.eval x = .int .i64 (v : Int)) {z : Int} (hy : a.eval y = .int .i64 z)
    (hz : z = f v) (hv : v ∉ L) (hb : v ≤ 1000000) (hf : f v ≤ 1000000) (hl : L.length ≤ 1000000)
    (hK : ∀ w', MI w' B (L ++ [v]) f → w.grownBy w' (some B) → wpList Try.prog ops Q rest (a.put o.dst undef) w') : wpList Try.prog ops Q (o :: rest) a w := by
  obtain ⟨D, hown, h2⟩ := h
  subst hz
  refine wpList_mapUpdate_own w hg m x y 41 hop 3 3 mapLaw Try.underlying41 _ B _ D hm hown (by unfold maxLen; omega) _ _ _ hx hy (keyN hb) _ [] (plainElem_int Try.underlying3 (wfN hf)) fun w' hown' hg' => ?_
  exact hK w' ⟨_, by simpa using hown', h2.put hv⟩ hg'
theorem wpList_len_MI (hg : o.guard = none) (m : Operand) (hop : o.op = Op.call { callee := Callee.builtin Builtin.len, args := #[m], argTypes := #[41] }) {B : Nat} {L : List Nat} {f : Nat → Nat} (h : MI w B L f) (hm : a.eval m = .map (some B))
    (hK : wpList Try.prog ops Q rest (a.put o.dst (.int .i64 L.length)) w) : wpList Try.prog ops Q (o :: rest) a w := by
  obtain ⟨D, hown, _, h2, _⟩ := h
  refine wpList_len_own w hg m 41 hop 3 3 Try.underlying41 _ B _ D hm hown ?_
  rw [h2]; exact hK
end
end Go.Proofs.Ytddndhhhmlcgjaa
