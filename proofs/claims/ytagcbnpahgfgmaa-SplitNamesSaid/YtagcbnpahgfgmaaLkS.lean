/- slices.Clone, SortFunc of links; links.Sorted; links.Verts. -/
import Derived.Test.YtagcbnpahgfgmaaLkM
import Derived.Test.YtagcbnpahgfgmaaVn
import Derived.Test.YtagcbnpahgfgmaaShelf
import Derived.Sort.OwnSortedInts
import Derived.BigRegion
namespace Go.Proofs.Ytagcbnpahgfgmaa
open Go Go.RowKit Go.Sort

theorem link_info : (Try.prog.info? 25).map (fun i => (i.zero, i.size, i.bytes)) = some (some (.agg #[.int .i64 0, .int .i64 0, .int .i64 0]), 3, 24) := by kernel_rfl
theorem lkCells_one (ls : List Lk) : ∀ u ∈ lkCells ls, u.oneCell' = true := by
  intro u hu
  unfold lkCells at hu
  obtain ⟨e, _, he⟩ := List.mem_flatMap.1 hu
  simp at he
  rcases he with rfl | rfl | rfl <;> rfl
theorem lkCells_set (ls : List Lk) (i : Nat) (h : i < ls.length) (a b : Int) : ((lkCells ls).set (i * 3) (.int .i64 a)).set (i * 3 + 1) (.int .i64 b) = lkCells (ls.set i (a, b, ls[i].2.2)) := by
  induction ls generalizing i with
  | nil => simp at h
  | cons e ls ih =>
    cases i with
    | zero => simp [lkCells]
    | succ i =>
      have := ih i (by simpa using h)
      have e1 : (i + 1) * 3 = i * 3 + 1 + 1 + 1 := by omega
      simp only [lkCells, List.flatMap_cons, List.cons_append, List.nil_append, List.getElem_cons_succ, List.set_cons_succ] at this ⊢
      rw [e1]
      simp only [List.set_cons_succ]
      rw [this]

/-- a slice of the call's own, of links -/
def OwnL (w : World) (v : Value) (ls : List Lk) : Prop := Own w v 25 3 ls.length (lkCells ls)
/-- What a call hands back that tells links in memory of its own. -/
def RetLk (w : World) (ls : List Lk) (e : Ending) (w' : World) : Prop :=
  ∃ v, e = .returned v ∧ OwnL w' v ls ∧ (∀ g, v.ownBlock = some g → w.heap.size ≤ g) ∧ Below w.heap.size w w'
theorem OwnL.read {w : World} {v : Value} {ls : List Lk} (h : OwnL w v ls) : ∃ a c, v = .slice a ls.length c ∧ RdL w a ls ∧ (∀ g, a = some g → v.ownBlock = some g.block) ∧ c ≤ maxLen ∧ ls.length ≤ c := by
  rcases h.2 with ⟨rfl, h0⟩ | ⟨g, cap, rfl, hc, hr⟩
  · obtain rfl := List.eq_nil_of_length_eq_zero h0
    exact ⟨none, 0, rfl, rdL_nil _ _, (fun g hg => by cases hg), by unfold maxLen; omega, by simp⟩
  · exact ⟨_, cap, rfl, hr.at_, fun g hg => by cases hg; rfl, hr.cap_le, hc⟩

/-- nothing comes behind it -/
theorem wpList_append_idle {w : World} {ops : Array Oper} {rest : List Oper} {o : Oper} {a : Act} {Q : Exit → Act → World → Prop} (hgd : o.guard = none) (sl x : Operand)
    (ho : o.op = .call { callee := .builtin .append, args := #[sl, x], argTypes := #[22, 22] }) (a0 ad : Option Addr) (n c0 c : Nat)
    (hs : a.eval sl = .slice a0 n c0) (hx : a.eval x = .slice ad 0 c) (hn : n ≤ c0) (h : wpList Try.prog ops Q rest (a.put o.dst (.slice a0 n c0)) w) : wpList Try.prog ops Q (o :: rest) a w := by
  refine wpList_plain hgd fun K hK => ?_
  have hrun : (Builtin.append_ #[22, 22] o.type #[.slice a0 n c0, .slice ad 0 c]).run Try.prog w = .ok (.slice a0 n c0) w := by
    obtain ⟨i, hi, _⟩ := info_parts link_info
    cases ad <;> cases a0 <;> simp [Builtin.append_, run_underlying Try.underlying22, sizeOf, typeInfo, hi, Builtin.lenOf, Builtin.firstCells, storeCells, loadCells, loadCellsFrom, hn]
  unfold Oper.wp
  simp [execOp, ho, resolve, invoke, builtin, hs, hx, hrun, Result.andThen]
  exact hK _ _ h

theorem clone_walk (a : Option Addr) (cap : Nat) (ls : List Lk) (w : World) (hr : RdL w a ls) (hle : ls.length ≤ 1000000) :
    Calls Try.prog 15 #[.slice a ls.length cap] w (RetLk w ls) := by
  have q22 : ∀ (w : World) (a : Option Addr) (n c n' c' : Nat), (binOp .eql 22 (.slice a n c) (.slice none n' c')).run Try.prog w = .ok (.bool a.isNone) w := fun w a n c n' c' => Lib.run_eql_slice_nil w _ _ a n c n' c' Try.underlying22
  have hrow : Row (w.alloc (.cells #[] 25)) w.heap.size 25 3 0 [] := by
    have := row_new w #[] 25 3 0 rfl (by unfold maxLen; omega)
    simpa using this
  by_cases h0 : ls.length = 0
  · obtain rfl := List.eq_nil_of_length_eq_zero h0
    cases a with
    | none =>
      go_enter Try.func15, Try.ntmps15
      go_wp2_with fail
      go_ret
      exact ⟨_, rfl, own_nil _ _ _, fun g hg => by simp [Value.ownBlock] at hg, bl_refl _⟩
    | some ad =>
      go_enter Try.func15, Try.ntmps15
      go_wp2_with (at_builtin; refine wpList_append_idle rfl _ _ rfl (some ⟨w.heap.size, 0, none⟩) (some ad) 0 0 cap rfl rfl (Nat.le_refl _) ?_)
      go_ret
      exact ⟨_, rfl, Row.own hrow rfl (Nat.le_refl _), fun g hg => by simp [Value.ownBlock] at hg; omega, bl_alloc _ _⟩
  · obtain ⟨b, o, rfl, _⟩ := hr.at 0 (by omega)
    have hcells : ∀ j u, (lkCells ls)[j]? = some u → (w.alloc (.cells #[] 25)).cell? ((⟨b, o, none⟩ : Addr).add j) = some u := by
      intro j u hu
      obtain ⟨b', o', e, hc⟩ := hr j u hu
      simp at e
      obtain ⟨rfl, rfl⟩ := e
      have hc' := keep_cell (bl_alloc w (.cells #[] 25)) hc
      unfold Addr.add; split <;> simp_all
    have hown : Own (w.alloc (.cells #[] 25)) (.slice (some ⟨w.heap.size, 0, none⟩) 0 0) 25 3 0 [] := Row.own hrow rfl (Nat.le_refl _)
    have HC := Lib.hid hcells; clear hcells hr
    go_enter Try.func15, Try.ntmps15
    go_wp2_with (at_builtin; refine wpList_append_row _ rfl (.tmp 5) (.tmp 6) 22 rfl 25 (.agg #[.int .i64 0, .int .i64 0, .int .i64 0]) 3 24 Try.underlying22 link_info rfl _ 0 [] rfl hown ⟨b, o, none⟩ ls.length cap (lkCells ls) rfl (lkCells_length ls) HC.out (lkCells_one ls) (by omega) (by unfold maxLen; omega) (by omega) ?_)
    intro g c w1 hr1 hc1 hgr1 hor1
    have hb1 : Below w.heap.size w w1 := (bl_alloc _ _).grown hgr1 (by simp) (fun k hk => by simp [Value.ownBlock] at hk; omega)
    have hor2 : w.heap.size ≤ g := by
      rcases hor1 with h | h
      · simp [Value.ownBlock] at h; omega
      · omega
    go_wp2_with fail
    go_ret
    refine ⟨_, rfl, ?_, fun k hk => by simp [Value.ownBlock] at hk; omega, hb1⟩
    have := hr1.own (n := ls.length) (lkCells_length ls) (by simpa using hc1)
    simpa [OwnL] using this

/-! ### the sort -/
def lkEnc (k : Lk) : List Value := [.int .i64 k.1, .int .i64 k.2.1, .int .i64 k.2.2]
theorem flatK_lk (ls : List Lk) : (flatK lkEnc 3 ls.toArray).toList = lkCells ls := by
  apply List.ext_getElem?
  intro i
  by_cases hi : i < ls.length * 3
  · have hk : i / 3 < ls.length := by omega
    have h1 : (flatK lkEnc 3 ls.toArray).toList[i]? = some ((lkEnc ls[i / 3])[i % 3]!) := by
      rw [Array.getElem?_toList, Array.getElem?_eq_getElem (by simpa using hi)]
      simp [flatK, hk]
    rw [h1]
    obtain ⟨g1, g2, g3⟩ := lkCells_get ls (i / 3) hk
    have h3 : i % 3 = 0 ∨ i % 3 = 1 ∨ i % 3 = 2 := by omega
    rcases h3 with h | h | h
    · rw [show i / 3 * 3 = i by omega] at g1; rw [g1, h]; rfl
    · rw [show i / 3 * 3 + 1 = i by omega] at g2; rw [g2, h]; rfl
    · rw [show i / 3 * 3 + 2 = i by omega] at g3; rw [g3, h]; rfl
  · rw [List.getElem?_eq_none (by simp; omega), List.getElem?_eq_none (by rw [lkCells_length]; omega)]
theorem Row.holdsK {w : World} {g cap : Nat} {e : TypeId} {ls : List Lk} (h : Row w g e 3 cap (lkCells ls)) : HoldsK lkEnc 3 w g 0 ls.toArray := by
  intro j hj
  have hj' : j < (lkCells ls).length := by rw [lkCells_length]; simpa using hj
  refine ⟨?_, h.frozen _⟩
  rw [Nat.zero_add, h.cell j hj']
  have := flatK_lk ls
  congr 1
  have h2 : (flatK lkEnc 3 ls.toArray).toList[j]? = some ((lkCells ls)[j]) := by rw [this]; simp [hj']
  rw [Array.getElem?_toList] at h2
  simp [getElem!_def, h2]
theorem Row.sortedK {w : World} {g cap n : Nat} {e : TypeId} {os : Array Obj} {ls ts : List Lk} (h : Row w g e 3 cap (lkCells ls)) (hl : ts.length = ls.length) :
    Row (sortWorldK lkEnc 3 w g 0 n ts.toArray os) g e 3 cap (lkCells ts) ∧ w.grownBy (sortWorldK lkEnc 3 w g 0 n ts.toArray os) (some g) := by
  obtain ⟨cur, hg, hs, hle, hm, ht⟩ := h
  have hlt : g < w.heap.size := (Array.getElem?_eq_some_iff.1 hg).1
  have hcur : (sortWorldK lkEnc 3 w g 0 n ts.toArray os).heap[g]? = some (.cells (putCells id 0 (flatK lkEnc 3 ts.toArray) cur) e (0, 0)) := by
    unfold sortWorldK
    rw [heap_grow_old _ _ (by simpa [putRowK, putRow, mapBlock, Sort.ahead] using hlt)]
    simp [putRowK, putRow, mapBlock, Sort.ahead, Array.getElem?_modify, hg, onCells]
  have hlen : (lkCells ts).length = (lkCells ls).length := by rw [lkCells_length, lkCells_length, hl]
  refine ⟨⟨_, hcur, by simpa [putCells] using hs, by rw [hlen]; exact hle, hm, ?_⟩, ⟨rfl, rfl, rfl, by simp [sortWorldK, grow, putRowK, putRow, mapBlock, Sort.ahead], fun k hk hne => ?_⟩⟩
  · apply List.ext_getElem?
    intro j
    by_cases hj : j < (lkCells ts).length
    · rw [List.getElem?_take_of_lt hj, Array.getElem?_toList]
      have hjc : j < cur.size := by rw [hlen] at hj; omega
      have hf : j < (flatK lkEnc 3 ts.toArray).size := by rw [lkCells_length] at hj; simpa using hj
      have h2 : (flatK lkEnc 3 ts.toArray)[j]? = (lkCells ts)[j]? := by rw [← Array.getElem?_toList, flatK_lk]
      rw [← h2]
      have hf' : j < ts.length * 3 := by simpa using hf
      simp [putCells, hf', hjc]
    · rw [List.getElem?_take_eq_none (by omega), List.getElem?_eq_none (by omega)]
  · unfold sortWorldK
    rw [heap_grow_old _ _ (by simpa [putRowK, putRow, mapBlock, Sort.ahead] using hk)]
    have : g ≠ k := fun e => hne (by rw [e])
    simp [putRowK, putRow, mapBlock, Sort.ahead, Array.getElem?_modify, this]

theorem drewN_grow' (w : World) (os : Array Obj) (q : Nat) : (grow w os).drewN q = grow (w.drewN q) os := by
  rfl
theorem closure_grow (x y : Lk) (w : World) :
    Calls Try.prog 19 #[lkV x, lkV y] w
      fun e w' => e = .returned (.int .i64 (cmpL x y)) ∧ ∃ q os, w' = grow (w.drewN q) os := by
  have hcon := fun w' => lcompare_grow x y w'
  unfold lkV at hcon ⊢
  generalize cmpL x y = r at hcon ⊢
  go_enter Try.func19, Try.ntmps19
  go_wp2_with fail
  refine (hcon _).mono ?_
  rintro e w' ⟨rfl, q, os, rfl⟩
  go_wp2_with fail
  go_ret
  exact ⟨rfl, q, _, by rw [alloc_eq_grow, alloc_eq_grow, grow_grow, drewN_grow', grow_grow]⟩
theorem ltOf_cmpL (x y : Lk) : ltOf cmpL x y = decide (LtL x y) := by unfold ltOf; simp [cmpL_neg]
theorem swo_cmpL : SWO (ltOf cmpL) where
  irrefl x := by rw [ltOf_cmpL]; simpa using LtL.irrefl x
  trans x y z h1 h2 := by rw [ltOf_cmpL] at *; simp only [decide_eq_true_eq] at *; exact h1.trans h2
  ntrans x y z h1 h2 := by
    rw [ltOf_cmpL] at *; simp only [decide_eq_false_iff_not] at *
    unfold LtL at *; omega
theorem sortF_walk (g cap : Nat) (ls : List Lk) (w : World) (h : Row w g 25 3 cap (lkCells ls)) (hsz : ls.length ≤ 1000000) :
    Calls Try.prog 18 #[.slice (some ⟨g, 0, none⟩) ls.length cap, .func (.func 19) #[] #[]] w
      fun e w' => e = .returned (.tuple #[]) ∧ Row w' g 25 3 cap (lkCells (ls.mergeSort fun x y => !decide (cmpL y x < 0))) ∧ w.grownBy w' (some g) := by
  have eg : ∀ args w, (callFunc 19 args).run Try.prog w = .ok (.enter 19 args) w := enters_of Try.func19 (by kernel_rfl) rfl
  have hcon := AnyQ.slices_SortFunc_total Try.laySortL 3 Try.isAgg25 Try.sizeOf25 lkEnc (fun _ => rfl) (fun x v hv => by simp [lkEnc] at hv; rcases hv with rfl | rfl | rfl <;> rfl) cmpL swo_cmpL 19 #[] g 0 cap ls.toArray w eg
    (fun _ _ _ _ x y => closure_grow x y _) h.holdsK h.lt (by simp; omega) (fun x y h1 h2 => by rw [ltOf_cmpL] at h1 h2; simp only [decide_eq_false_iff_not] at h1 h2; exact LtL.total x y h1 h2)
  change Calls Try.prog 18 _ _ _ at hcon
  simp only [List.size_toArray] at hcon
  refine hcon.mono ?_
  rintro e w' ⟨rfl, n, os, rfl⟩
  have := h.sortedK (n := n) (os := os) (ts := ls.mergeSort fun x y => !ltOf cmpL y x) (by simp)
  exact ⟨rfl, this⟩
theorem addr_add (b o j : Nat) : (⟨b, o, none⟩ : Addr).add j = ⟨b, o + j, none⟩ := by
  unfold Addr.add
  split <;> simp_all
theorem flat_take_succ {α : Type} (g : List (List α)) (i : Nat) (h : i < g.length) : (g.take (i + 1)).flatten = (g.take i).flatten ++ g[i] := by
  rw [List.take_succ_eq_append_getElem h, List.flatten_append]; simp
theorem one3 (x y z : Int) : ∀ u ∈ [Value.int .i64 x, Value.int .i64 y, Value.int .i64 z], u.oneCell' = true := by
  intro u hu; simp only [List.mem_cons, List.not_mem_nil, or_false] at hu; rcases hu with rfl | rfl | rfl <;> rfl
theorem news3 (W : World) (t : TypeId) (x y z : Int) : ∀ (j : Nat) v, [Value.int .i64 x, Value.int .i64 y, Value.int .i64 z][j]? = some v → (W.alloc (.cells #[.int .i64 x, .int .i64 y, .int .i64 z] t)).cell? ((⟨W.heap.size, 0, none⟩ : Addr).add j) = some v := by
  intro j v hj
  match j with
  | 0 => simp at hj; subst hj; simp [Addr.add]
  | 1 => simp at hj; subst hj; simp [Addr.add]
  | 2 => simp at hj; subst hj; simp [Addr.add]
  | j + 3 => simp at hj
end Go.Proofs.Ytagcbnpahgfgmaa
