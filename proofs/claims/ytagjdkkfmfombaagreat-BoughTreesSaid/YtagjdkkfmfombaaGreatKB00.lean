/- Facts that the claim rests on, part 1. -/
import Derived.Tactics
import Derived.Tactics2
import Derived.WalkKit
import Derived.WalkSpells
import Derived.WalkLawsBesides
import Derived.KernelRfl
import Derived.Lib.Hide
import Derived.Deep.OwnRows
import Derived.WalkSmall
import Derived.Laws.CopyOwn
import Derived.Test.YtagjdkkfmfombaaGreatChecked
import Derived.BigQuiet
import Derived.Deep.QuietTactic
import Derived.Deep.RegionHeld3
import Derived.Deep.DeepCutAuto
import Derived.Deep.LoopGhost
import Derived.Shelf.Small.Bits
import Derived.Shelf.Small.Wraps
import Derived.Shelf.Strconv.Itoa0
import Derived.Shelf.Sort.Plain
import Derived.Shelf.Bits.Mul64
import Derived.Shelf.Slices.Reverse
import Derived.Ground.Names2Prog
import Derived.Shelf.Slices.Clone
import Derived.Shelf.Slices.CompactI
import Derived.Shelf.Slices.SearchI
import Derived.Shelf.Slices.Cells
import Derived.Shelf.Slices.In.SortNone
import Derived.Shelf.Slices.Empties
import Derived.Ground.SlgnProg
import Derived.Shelf.SlicesE.Index
import Derived.Shelf.SlicesE.Compact
import Derived.Shelf.SlicesE.Clone
import Derived.Ground.SlsfProg
import Derived.Shelf.SlSortCmp.Insertion
import Derived.Shelf.SlSortCmp.InsertionK
import Derived.Shelf.SlSortCmp.SiftDownK
import Derived.Shelf.SlSortCmp.HeapSortK
import Derived.Shelf.SlSortCmp.MedianK
import Derived.Shelf.SlSortCmp.PivotK
import Derived.Shelf.SlSortCmp.ReverseRangeK
import Derived.Shelf.SlSortCmp.PartialInsertionK
import Derived.Shelf.SlSortCmp.PartitionEqualK
import Derived.Shelf.SlSortCmp.PartitionK
import Derived.Shelf.SlSortCmp.PdqK
import Derived.Shelf.SlSortCmp.WholeK
import Derived.Shelf.SlSortCmp.SiftDown1
import Derived.Shelf.SlSortCmp.HeapSort1
import Derived.Shelf.SlSortCmp.Insertion1
import Derived.Shelf.SlSortCmp.Median1
import Derived.Shelf.SlSortCmp.Pivot1
import Derived.Shelf.SlSortCmp.ReverseRange1
import Derived.Shelf.SlSortCmp.PartialInsertion1
import Derived.Shelf.SlSortCmp.PartitionEqual1
import Derived.Shelf.SlSortCmp.Partition1
import Derived.Shelf.SlSortCmp.Pdq1
import Derived.Shelf.SlSortCmp.Whole1
import Derived.Shelf.SlSortCmp.NoneTotal
import Derived.Test.YtagjdkkfmfombaaGreatProg
import Derived.OrdersHeld
import Derived.RegionTactic
import Derived.Deep.Cut
import Derived.Sort.OwnSortedInts
import Derived.Lib.SlicesCompact
import Derived.Sort.Grow
import Derived.BigRegion
import Derived.Maps.Own
import Derived.Maps.OwnOps
import Derived.Maps.OwnSet
import Derived.RangeFuncNested
import Derived.RangeFuncBound
import Derived.RangeFuncCalls
import Derived.RangeFuncLeaves
import Derived.RangeFuncFrom
import Derived.Shelf.Abstract
import Derived.Shelf.RegionOpen
import Derived.OwnWalkIn
import Derived.TacticsInMore
import Derived.LoopNIn
import Derived.LoopIn
import Derived.OrdersIn
import Derived.Maps.RangeWalk
import Derived.DeepKeys4
import Derived.WideKeyEntry
import Derived.Lib.SliceRun
import Derived.Deep.RegionLaw
import Derived.IntWalk
import Derived.Laws.Concat
import Derived.Laws.BytesString
import Derived.Laws.IdiomStrings
import Derived.Laws.Strings
import Derived.Laws.EntriesVeiled
import Derived.Test.YtagjdkkfmfombaaGreatRows
import Derived.ProofKit
import Derived.OpenShut
import Derived.ShutString
import Derived.Lib.SmallJoins
import Derived.Deep.Slices
import Derived.Deep.Fields
namespace Go.Proofs.YtagjdkkfmfombaaGreat
open Go Go.RowKit
def CellsAt (w : World) (a : Option Addr) (vs : List Value) : Prop :=
 ∀ i u, vs[i]? = some u → ∃ b o, a = some ⟨b, o, none⟩ ∧ w.cell? ⟨b, o + i, none⟩ = some u
def RdI (w : World) (a : Option Addr) (xs : List Int) : Prop := CellsAt w a (xs.map (Value.int .i64))
def pairCells (es : List (Int × Int)) : List Value := es.flatMap fun e => [.int .i64 e.1, .int .i64 e.2]
def RdP (w : World) (a : Option Addr) (es : List (Int × Int)) : Prop := CellsAt w a (pairCells es)
theorem pairCells_length (es : List (Int × Int)) : (pairCells es).length = es.length * 2 := by
 induction es with
 | nil => rfl
 | cons e es ih => simp only [pairCells, List.flatMap_cons, List.length_append, List.length_cons, List.length_nil] at ih ⊢; omega
theorem pairCells_get (es : List (Int × Int)) (i : Nat) (h : i < es.length) :
  (pairCells es)[i * 2]? = some (.int .i64 es[i].1) ∧ (pairCells es)[i * 2 + 1]? = some (.int .i64 es[i].2) := by
 induction es generalizing i with
 | nil => simp at h
 | cons e es ih =>
  cases i with
  | zero => simp [pairCells]
  | succ i =>
   have := ih i (by simpa using h); have e1 : (i + 1) * 2 = i * 2 + 1 + 1 := by omega
   simp only [pairCells, List.flatMap_cons, List.cons_append, List.nil_append, List.getElem_cons_succ] at this ⊢; rw [e1]; simpa using this
theorem RdP.at {w : World} {a : Option Addr} {es : List (Int × Int)} (h : RdP w a es) (i : Nat) (hi : i < es.length) :
  ∃ b o, a = some ⟨b, o, none⟩ ∧ w.cell? ⟨b, o + i * 2, none⟩ = some (.int .i64 es[i].1) ∧ w.cell? ⟨b, o + i * 2 + 1, none⟩ = some (.int .i64 es[i].2) := by
 obtain ⟨h1, h2⟩ := pairCells_get es i hi
 obtain ⟨b, o, ha, hc⟩ := h _ _ h1
 obtain ⟨b', o', ha', hc'⟩ := h _ _ h2
 rw [ha] at ha'
 simp only [Option.some.injEq, Addr.mk.injEq, and_true] at ha'
 obtain ⟨rfl, rfl⟩ := ha'
 exact ⟨b, o, ha, hc, by simpa [Nat.add_assoc] using hc'⟩
theorem RdI.at {w : World} {a : Option Addr} {xs : List Int} (h : RdI w a xs) (i : Nat) (hi : i < xs.length) :
  ∃ b o, a = some ⟨b, o, none⟩ ∧ w.cell? ⟨b, o + i, none⟩ = some (.int .i64 xs[i]) :=
 h i _ (by simp [hi])
theorem CellsAt.below {w w' : World} {a : Option Addr} {vs : List Value} (h : CellsAt w a vs) (hb : Below w.heap.size w w') : CellsAt w' a vs := by
 intro i u hu
 obtain ⟨b, o, ha, hc⟩ := h i u hu
 exact ⟨b, o, ha, (hb.cell (World.block_lt_of_cell? w _ hc)).trans hc⟩
theorem RdI.below {w w' : World} {a : Option Addr} {xs : List Int} (h : RdI w a xs) (hb : Below w.heap.size w w') : RdI w' a xs := CellsAt.below h hb
theorem RdP.below {w w' : World} {a : Option Addr} {xs : List (Int × Int)} (h : RdP w a xs) (hb : Below w.heap.size w w') : RdP w' a xs := CellsAt.below h hb
theorem keep_cell {w w' : World} {a : Addr} {v : Value} (hb : Below w.heap.size w w') (h : w.cell? a = some v) : w'.cell? a = some v :=
 (hb.cell (World.block_lt_of_cell? w _ h)).trans h
theorem bl_trans {w w1 w2 : World} (h : Below w.heap.size w w1) (k : Below w1.heap.size w1 w2) : Below w.heap.size w w2 := h.trans (k.mono h.size)
theorem bl_refl (w : World) : Below w.heap.size w w := Below.refl _ _
theorem bl_alloc (w : World) (o : Obj) : Below w.heap.size w (w.alloc o) := (Below.refl _ _).alloc (Nat.le_refl _) o
end Go.Proofs.YtagjdkkfmfombaaGreat
namespace Go.Proofs.YtagjdkkfmfombaaGreat
open Go Go.RowKit
def Row (w : World) (g : Nat) (e : TypeId) (s cap : Nat) (vs : List Value) : Prop :=
 ∃ cur : Array Value, w.heap[g]? = some (.cells cur e (0, 0)) ∧ cur.size = cap * s ∧ vs.length ≤ cap * s ∧ cap ≤ maxLen ∧ cur.toList.take vs.length = vs
namespace Row
variable {w w' : World} {g g' : Nat} {e : TypeId} {s cap : Nat} {vs : List Value}
theorem lt (h : Row w g e s cap vs) : g < w.heap.size := by
 obtain ⟨cur, hg, _⟩ := h
 exact (Array.getElem?_eq_some_iff.1 hg).1
theorem cell? (h : Row w g e s cap vs) (i : Nat) (hi : i < vs.length) : w.cell? ⟨g, i, none⟩ = vs[i]? := by
 obtain ⟨cur, hg, hs, hl, hm, ht⟩ := h
 rw [cell_of_row w g i cur e (0, 0) hg]
 conv => rhs; rw [← ht]
 rw [List.getElem?_take, if_pos hi]
 simp
theorem cell (h : Row w g e s cap vs) (i : Nat) (hi : i < vs.length) : w.cell? ⟨g, i, none⟩ = some vs[i] := by
 rw [h.cell? i hi]; simp [hi]
theorem frozen (h : Row w g e s cap vs) (i : Nat) : w.frozen? ⟨g, i, none⟩ = false := by
 obtain ⟨cur, hg, _⟩ := h
 exact frozen_of_row w g i cur e hg
theorem block (h : Row w g e s cap vs) (e' : w'.heap[g]? = w.heap[g]?) : Row w' g e s cap vs := by
 obtain ⟨cur, hg, r⟩ := h
 exact ⟨cur, by rw [e']; exact hg, r⟩
theorem grown (h : Row w g e s cap vs) {r : Option Nat} (hg : w.grownBy w' r) (hne : r ≠ some g) : Row w' g e s cap vs :=
 h.block (hg.block g h.lt (fun e => hne e.symm))
theorem below {B : Nat} (h : Row w g e s cap vs) (hb : Below B w w') (hlt : g < B) : Row w' g e s cap vs := h.block (hb.block g hlt)
theorem alloc (h : Row w g e s cap vs) (o : Obj) : Row (w.alloc o) g e s cap vs := h.block (Below.heap_alloc w o g h.lt)
theorem drew (h : Row w g e s cap vs) : Row w.drew g e s cap vs := h
theorem drewN (h : Row w g e s cap vs) (n : Nat) : Row (w.drewN n) g e s cap vs := h
theorem other (h : Row w g e s cap vs) {a : Addr} (hne : g ≠ a.block) (u : Value) : Row (w.setCell a u) g e s cap vs :=
 h.block (Below.heap_setCell w a u g hne)
theorem set (h : Row w g e s cap vs) (i : Nat) (u : Value) : Row (w.setCell ⟨g, i, none⟩ u) g e s cap (vs.set i u) := by
 obtain ⟨cur, hg, hs, hl, hm, ht⟩ := h
 refine ⟨cur.setIfInBounds i u, heap_setCell_same w g i cur e u hg, by simpa using hs, by simpa using hl, hm, ?_⟩
 rw [Array.toList_setIfInBounds, List.length_set]
 conv => rhs; rw [← ht]
 rw [List.take_set]
theorem take (h : Row w g e s cap vs) (k : Nat) : Row w g e s cap (vs.take k) := by
 obtain ⟨cur, hg, hs, hl, hm, ht⟩ := h
 refine ⟨cur, hg, hs, ?_, hm, ?_⟩
 · rw [List.length_take]; omega
 ·
  rw [List.length_take]
  by_cases hk : k ≤ vs.length
  ·
   rw [Nat.min_eq_left hk]; conv => rhs; rw [← ht]
   rw [List.take_take, Nat.min_eq_left hk]
  · rw [Nat.min_eq_right (by omega), ht, List.take_of_length_le (by omega)]
theorem at_ (h : Row w g e s cap vs) : CellsAt w (some ⟨g, 0, none⟩) vs := by
 intro i u hu
 have hi : i < vs.length := (List.getElem?_eq_some_iff.1 hu).1
 exact ⟨g, 0, rfl, by rw [Nat.zero_add, h.cell? i hi, hu]⟩
theorem len_le (h : Row w g e 1 cap vs) : vs.length ≤ cap := by obtain ⟨_, _, _, h, _⟩ := h; omega
theorem cap_le (h : Row w g e s cap vs) : cap ≤ maxLen := by obtain ⟨_, _, _, _, h, _⟩ := h; exact h
end Row
theorem row_new (w : World) (cs : Array Value) (e : TypeId) (s n : Nat) (hs : cs.size = n * s) (hm : n ≤ maxLen) :
  Row (w.alloc (.cells cs e)) w.heap.size e s n cs.toList :=
 ⟨cs, heap_alloc_new w _, hs, by simp [hs], hm, List.take_of_length_le (by simp)⟩
theorem row_lit (w : World) (vs : List Value) (e : TypeId) (hm : vs.length ≤ maxLen) : Row (w.alloc (.cells vs.toArray e)) w.heap.size e 1 vs.length vs := by
 simpa using row_new w vs.toArray e 1 vs.length (by simp) hm
theorem row_made (w : World) (z : Value) (n : Nat) (e : TypeId) (hm : n ≤ maxLen) :
  Row (w.alloc (.cells (madeCells #[z] n) e)) w.heap.size e 1 n (List.replicate n z) := by
 have := row_new w (madeCells #[z] n) e 1 n (by simp [size_madeCells]) hm
 rwa [toList_madeCells_one] at this
def Own (w : World) (v : Value) (e : TypeId) (s n : Nat) (vs : List Value) : Prop :=
 vs.length = n * s ∧ ((v = .slice none 0 0 ∧ n = 0) ∨ ∃ g cap, v = .slice (some ⟨g, 0, none⟩) n cap ∧ n ≤ cap ∧ Row w g e s cap vs)
theorem Row.own {w : World} {g : Nat} {e : TypeId} {s cap n : Nat} {vs : List Value} (h : Row w g e s cap vs) (hn : vs.length = n * s) (hc : n ≤ cap) :
  Own w (.slice (some ⟨g, 0, none⟩) n cap) e s n vs := ⟨hn, .inr ⟨g, cap, rfl, hc, h⟩⟩
theorem Row.own1 {w : World} {g : Nat} {e : TypeId} {cap : Nat} {vs : List Value} (h : Row w g e 1 cap vs) :
  Own w (.slice (some ⟨g, 0, none⟩) vs.length cap) e 1 vs.length vs := h.own (by simp) h.len_le
theorem own_nil (w : World) (e : TypeId) (s : Nat) : Own w (.slice none 0 0) e s 0 [] := ⟨by simp, .inl ⟨rfl, rfl⟩⟩
section
variable {P : Program} (w : World)
theorem run_append_row (t ty e : TypeId) (i : TypeInfo) (z : Value) (s bytes : Nat) (ht : P.underlying t = some (.slice e)) (hi : P.info? e = some i) (hz : i.zero = some z)
  (hsize : i.size = s) (hby : i.bytes = bytes) (hzs : z.cells.size = s)
  (v : Value) (n : Nat) (vs : List Value) (hown : Own w v e s n vs)
  (a : Addr) (m c : Nat) (news : List Value) (hl : news.length = m * s) (hnews : ∀ j u, news[j]? = some u → w.cell? (a.add j) = some u) (h1 : ∀ u ∈ news, u.oneCell' = true)
  (h0 : 0 < m) (h63 : n + m ≤ maxLen) (hbytes : (n + m) * bytes ≤ 140737488355328) :
  ∃ g' cap' w', (Builtin.append_ #[t, t] ty #[v, .slice (some a) m c]).run P w = .ok (.slice (some ⟨g', 0, none⟩) (n + m) cap') w' ∧
   Row w' g' e s cap' (vs ++ news) ∧ n + m ≤ cap' ∧ w.grownBy w' v.ownBlock ∧ (v.ownBlock = some g' ∨ w.heap.size ≤ g') := by
 subst hsize
 subst hby
 have hsmall : n + m ≤ 9223372036854775807 := by simp only [maxLen] at h63; omega
 have hlen : (vs ++ news).length = (n + m) * i.size := by rw [List.length_append, hown.1, hl, Nat.add_mul]
 have fresh : ∀ old, old < n + m → ∀ r : Option Nat,
   Row (w.drew.alloc (.cells (vs.toArray ++ news.toArray ++ Builtin.zeroCells z.cells (grownCap w (n + m) old e - (n + m))) e)) w.heap.size e i.size (grownCap w (n + m) old e) (vs ++ news) ∧
   w.grownBy (w.drew.alloc (.cells (vs.toArray ++ news.toArray ++ Builtin.zeroCells z.cells (grownCap w (n + m) old e - (n + m))) e)) r := by
  intro old ho r
  have hge := grownCap_ge w (n + m) old e
  have hcm := grownCap_le_maxLen w (n + m) old e h63
  refine ⟨⟨_, heap_alloc_new w.drew _, ?_, ?_, hcm, ?_⟩, ⟨rfl, rfl, rfl, by simp, fun k hk _ => Below.heap_alloc w.drew _ k hk⟩⟩
  ·
   simp only [Array.size_append, List.size_toArray, size_zeroCells, hzs, hown.1, hl, ← Nat.add_mul]; congr 1; omega
  · rw [hlen]; exact Nat.mul_le_mul_right _ hge
  ·
   simp only [Array.toList_append, List.append_assoc]; rw [← List.append_assoc]; exact List.take_left
 rcases hown.2 with ⟨rfl, rfl⟩ | ⟨g, cap, rfl, hnc, cur, hg, hcs, hvl, hcm, htake⟩
 ·
  have hx : vs = [] := List.eq_nil_of_length_eq_zero (by simpa using hown.1)
  subst hx
  have hr := run_append_nil (P := P) w t ty e i z ht hi hz a m c news hl hnews h0 (by omega) (by have hb := hbytes; simp only [Nat.zero_add] at hb; omega)
  have hgr := fresh 0 (by omega) (Value.ownBlock (.slice none 0 0))
  have hge := grownCap_ge w m 0 e
  simp only [Nat.zero_add, List.nil_append, Array.empty_append] at hgr ⊢
  exact ⟨_, _, _, hr, hgr.1, hge, hgr.2, .inr (Nat.le_refl _)⟩
 ·
  by_cases hroom : n + m ≤ cap
  ·
   have hfit : n * i.size + news.length ≤ cur.size := by rw [hl, hcs, ← Nat.add_mul]; exact Nat.mul_le_mul_right _ hroom
   have hr := run_append_room (P := P) w t ty e i ht hi g n cap cur hg a m c news hl hnews h1 hroom hfit; refine ⟨_, _, _, hr, ⟨_, setRow_heap w g cur _ e _ hg, ?_, ?_, hcm, ?_⟩, hroom, ⟨rfl, rfl, rfl, by simp, fun k _ hk => setRow_other w g k _ (fun e => hk (by simp [Value.ownBlock, e]))⟩, .inl rfl⟩
   ·
    simp only [List.size_toArray, List.length_append, List.length_take, List.length_drop, Array.length_toList]; omega
   · rw [hlen]; exact Nat.mul_le_mul_right _ hroom
   ·
    rw [← hown.1, htake]; exact List.take_left
  ·
   have holds : ∀ j u, vs[j]? = some u → w.cell? ((⟨g, 0, none⟩ : Addr).add j) = some u := by
    intro j u hu; have hj : j < vs.length := (List.getElem?_eq_some_iff.1 hu).1; have hadd : (⟨g, 0, none⟩ : Addr).add j = ⟨g, j, none⟩ := by unfold Addr.add; split <;> simp_all
    rw [hadd, cell_of_row w g j cur e (0, 0) hg]; rw [← htake, List.getElem?_take, if_pos hj] at hu; simpa using hu
   have hr := run_append_grow (P := P) w t ty e i z ht hi hz ⟨g, 0, none⟩ n cap vs hown.1 holds a m c news hl hnews (by omega) (by omega) (growslice_fits (by omega) hbytes); have hgr := fresh cap (by omega) (Value.ownBlock (.slice (some ⟨g, 0, none⟩) n cap)); exact ⟨_, _, _, hr, hgr.1, grownCap_ge w (n + m) cap e, hgr.2, .inr (Nat.le_refl _)⟩
theorem wpList_append_row {ops : Array Oper} {rest : List Oper} {o : Oper} {a : Act} {Q : Exit → Act → World → Prop} (hgd : o.guard = none) (sl x : Operand) (t : TypeId)
  (ho : o.op = .call { callee := .builtin .append, args := #[sl, x], argTypes := #[t, t] })
  (e : TypeId) (z : Value) (s bytes : Nat) (ht : P.underlying t = some (.slice e)) (hinfo : (P.info? e).map (fun i => (i.zero, i.size, i.bytes)) = some (some z, s, bytes)) (hzs : z.cells.size = s)
  (v : Value) (n : Nat) (vs : List Value) (hs : a.eval sl = v) (hown : Own w v e s n vs)
  (ad : Addr) (m c : Nat) (news : List Value) (hx : a.eval x = .slice (some ad) m c) (hl : news.length = m * s) (hnews : ∀ j u, news[j]? = some u → w.cell? (ad.add j) = some u) (h1 : ∀ u ∈ news, u.oneCell' = true)
  (h0 : 0 < m) (h63 : n + m ≤ maxLen) (hbytes : (n + m) * bytes ≤ 140737488355328)
  (h : ∀ g' cap' w', Row w' g' e s cap' (vs ++ news) → n + m ≤ cap' → w.grownBy w' v.ownBlock → (v.ownBlock = some g' ∨ w.heap.size ≤ g') → wpList P ops Q rest (a.put o.dst (.slice (some ⟨g', 0, none⟩) (n + m) cap')) w') :
  wpList P ops Q (o :: rest) a w := by
 obtain ⟨i, hi, hz, hsize, hby⟩ := info_parts hinfo
 refine wpList_plain hgd fun K hK => ?_
 obtain ⟨g', cap', w', hr, h2, h3, h4, h5⟩ := run_append_row (P := P) w t o.type e i z s bytes ht hi hz hsize hby hzs v n vs hown ad m c news hl hnews h1 h0 h63 hbytes
 unfold Oper.wp execOp
 simp only [ho, resolve, invoke, builtin, Sem.run_bind, Sem.run_pure, Result.andThen_ok, List.map_toArray, List.map_cons, List.map_nil, hs, hx, hr]
 exact hK _ _ (h g' cap' w' h2 h3 h4 h5)
end
theorem step_append_row {P : Program} {w : World} {ops : Array Oper} {o : Oper} {a : Act} {K : Act → World → Prop} {Q : Exit → Act → World → Prop} {E : Prop} (hgd : o.guard = none) (sl x : Operand) (t : TypeId)
  (ho : o.op = .call { callee := .builtin .append, args := #[sl, x], argTypes := #[t, t] })
  (e : TypeId) (z : Value) (s bytes : Nat) (ht : P.underlying t = some (.slice e)) (hinfo : (P.info? e).map (fun i => (i.zero, i.size, i.bytes)) = some (some z, s, bytes)) (hzs : z.cells.size = s)
  (v : Value) (n : Nat) (vs : List Value) (hs : a.eval sl = v) (hown : Own w v e s n vs)
  (ad : Addr) (m c : Nat) (news : List Value) (hx : a.eval x = .slice (some ad) m c) (hl : news.length = m * s) (hnews : ∀ j u, news[j]? = some u → w.cell? (ad.add j) = some u) (h1 : ∀ u ∈ news, u.oneCell' = true)
  (h0 : 0 < m) (h63 : n + m ≤ maxLen) (hbytes : (n + m) * bytes ≤ 140737488355328)
  (h : ∀ g' cap' w', Row w' g' e s cap' (vs ++ news) → n + m ≤ cap' → w.grownBy w' v.ownBlock → (v.ownBlock = some g' ∨ w.heap.size ≤ g') → K (a.put o.dst (.slice (some ⟨g', 0, none⟩) (n + m) cap')) w') :
  if Region.wanted o (yielded ops a.tmps) = true then Oper.wp P o a w K Q else E := by
 rw [if_pos (by simp [Region.wanted, hgd])]
 obtain ⟨i, hi, hz, hsize, hby⟩ := info_parts hinfo
 obtain ⟨g', cap', w', hr, h2, h3, h4, h5⟩ := run_append_row (P := P) w t o.type e i z s bytes ht hi hz hsize hby hzs v n vs hown ad m c news hl hnews h1 h0 h63 hbytes
 unfold Oper.wp execOp
 simp only [ho, resolve, invoke, builtin, Sem.run_bind, Sem.run_pure, Result.andThen_ok, List.map_toArray, List.map_cons, List.map_nil, hs, hx, hr]
 exact h g' cap' w' h2 h3 h4 h5
def spliced (vs : List Value) (off : Nat) (cs : List Value) : List Value := vs.take off ++ (cs ++ vs.drop (off + cs.length))
theorem spliced_length {vs cs : List Value} {off : Nat} (h : off + cs.length ≤ vs.length) : (spliced vs off cs).length = vs.length := by simp [spliced]; omega
theorem Row.spliced {w : World} {g : Nat} {e : TypeId} {cap : Nat} {vs : List Value} (h : Row w g e 1 cap vs) (off : Nat) (cs : List Value) (hfit : off + cs.length ≤ vs.length) :
  ∃ cur : Array Value, w.heap[g]? = some (.cells cur e (0, 0)) ∧ off + cs.length ≤ cur.size ∧ w.grownBy (w.setRow g (cur.toList.take off ++ (cs ++ cur.toList.drop (off + cs.length))).toArray) (some g) ∧
   Row (w.setRow g (cur.toList.take off ++ (cs ++ cur.toList.drop (off + cs.length))).toArray) g e 1 cap (spliced vs off cs) := by
 obtain ⟨cur, hg, hs, hl, hm, ht⟩ := h
 have hcl : vs.length ≤ cur.toList.length := by simp; omega
 refine ⟨cur, hg, by omega, ⟨rfl, rfl, rfl, by simp [World.setRow], fun k _ hk => setRow_other w g k _ (fun e => hk (by simp [e]))⟩, ⟨_, setRow_heap w g cur _ e _ hg, ?_, ?_, hm, ?_⟩⟩
 · simp; omega
 · rw [spliced_length hfit]; exact hl
 ·
  rw [spliced_length hfit]
  conv => rhs; rw [← ht]
  unfold Go.Proofs.YtagjdkkfmfombaaGreat.spliced
  rw [List.take_append, List.take_append, List.take_take, List.take_take]
  rw [List.drop_take, List.length_take, Nat.min_eq_left (by omega : off ≤ cur.toList.length)]
  rw [Nat.min_eq_right (by omega : off ≤ vs.length), Nat.min_eq_left (by omega : off ≤ vs.length)]
  rw [List.take_of_length_le (by omega : cs.length ≤ vs.length - off)]
  congr 3
  omega
theorem wpList_copy_row {P : Program} {w : World} {ops : Array Oper} {rest : List Oper} {o : Oper} {a : Act} {Q : Exit → Act → World → Prop} (hgd : o.guard = none) (d s : Operand) (dT sT : TypeId)
  (ho : o.op = .call { callee := .builtin .copy, args := #[d, s], argTypes := #[dT, sT] }) (e : TypeId) (hu : P.underlying dT = some (.slice e)) (hsz : (P.info? e).map (·.size) = some 1)
  (dp sp : Option Addr) (dLen dCap sLen sCap : Nat) (hd : a.eval d = .slice dp dLen dCap) (hs : a.eval s = .slice sp sLen sCap)
  (g off cap : Nat) (vs : List Value) (hrow : Row w g e 1 cap vs) (cs : List Value) (hn : cs.length = Nat.min sLen dLen)
  (hpos : 0 < cs.length → dp = some ⟨g, off, none⟩ ∧ ∃ ad, sp = some ad ∧ ∀ j v, cs[j]? = some v → w.cell? (ad.add j) = some v)
  (hfit : off + cs.length ≤ vs.length) (h1 : ∀ v ∈ cs, v.oneCell' = true)
  (h : ∀ w', Row w' g e 1 cap (spliced vs off cs) → w.grownBy w' (some g) → wpList P ops Q rest (a.put o.dst (goInt cs.length)) w') :
  wpList P ops Q (o :: rest) a w := by
 by_cases h0 : cs.length = 0
 ·
  obtain rfl : cs = [] := List.eq_nil_of_length_eq_zero h0
  refine wpList_copy_nothing hgd d s dT sT ho e hu hsz dp sp dLen dCap sLen sCap hd hs (by simpa using hn.symm) ?_
  have := h w (by simpa [Go.Proofs.YtagjdkkfmfombaaGreat.spliced] using hrow) (World.grownBy.refl _ _)
  simpa using this
 ·
  obtain ⟨rfl, ad, rfl, hsrc⟩ := hpos (by omega)
  obtain ⟨cur, hg, hc, hgr, hr⟩ := hrow.spliced off cs hfit
  exact wpList_copy_own hgd d s dT sT ho e hu hsz g off dLen dCap ad sLen sCap hd hs cur e hg cs hn hsrc hc h1 (h _ hr hgr)
theorem step_copy_row {P : Program} {w : World} {ops : Array Oper} {o : Oper} {a : Act} {K : Act → World → Prop} {Q : Exit → Act → World → Prop} {E : Prop} (hgd : o.guard = none) (d s : Operand) (dT sT : TypeId)
  (ho : o.op = .call { callee := .builtin .copy, args := #[d, s], argTypes := #[dT, sT] }) (e : TypeId) (hu : P.underlying dT = some (.slice e)) (hsz : (P.info? e).map (·.size) = some 1)
  (dp sp : Option Addr) (dLen dCap sLen sCap : Nat) (hd : a.eval d = .slice dp dLen dCap) (hs : a.eval s = .slice sp sLen sCap)
  (g off cap : Nat) (vs : List Value) (hrow : Row w g e 1 cap vs) (cs : List Value) (hn : cs.length = Nat.min sLen dLen)
  (hpos : 0 < cs.length → dp = some ⟨g, off, none⟩ ∧ ∃ ad, sp = some ad ∧ ∀ j v, cs[j]? = some v → w.cell? (ad.add j) = some v)
  (hfit : off + cs.length ≤ vs.length) (h1 : ∀ v ∈ cs, v.oneCell' = true)
  (h : ∀ w', Row w' g e 1 cap (spliced vs off cs) → w.grownBy w' (some g) → K (a.put o.dst (goInt cs.length)) w') :
  if Region.wanted o (yielded ops a.tmps) = true then Oper.wp P o a w K Q else E := by
 rw [if_pos (by simp [Region.wanted, hgd])]
 by_cases h0 : cs.length = 0
 ·
  obtain rfl : cs = [] := List.eq_nil_of_length_eq_zero h0
  have hrun := run_copy_none (P := P) w dT sT o.type e dp sp dLen dCap sLen sCap hu hsz (by simpa using hn.symm)
  unfold Oper.wp
  simp [execOp, ho, resolve, invoke, builtin, hd, hs, hrun, Result.andThen]
  exact h w (by simpa [Go.Proofs.YtagjdkkfmfombaaGreat.spliced] using hrow) (World.grownBy.refl _ _)
 ·
  obtain ⟨rfl, ad, rfl, hsrc⟩ := hpos (by omega)
  obtain ⟨cur, hg, hc, hgr, hr⟩ := hrow.spliced off cs hfit
  have hrun := run_copy_row (P := P) w dT sT o.type e g off dLen dCap ad sLen sCap cur e cs hu hsz hg hn hsrc hc h1
  unfold Oper.wp
  simp [execOp, ho, resolve, invoke, builtin, hd, hs, hrun, Result.andThen]
  exact h _ hr hgr
theorem Own.below {w w' : World} {v : Value} {e : TypeId} {s n : Nat} {vs : List Value} (h : Own w v e s n vs) (hb : ∀ g, v.ownBlock = some g → w'.heap[g]? = w.heap[g]?) : Own w' v e s n vs := by
 refine ⟨h.1, ?_⟩
 rcases h.2 with h2 | ⟨g, cap, rfl, hc, hr⟩
 · exact .inl h2
 · exact .inr ⟨g, cap, rfl, hc, hr.block (hb g rfl)⟩
theorem Own.lt {w : World} {v : Value} {e : TypeId} {s n : Nat} {vs : List Value} (h : Own w v e s n vs) {g : Nat} (hg : v.ownBlock = some g) : g < w.heap.size := by
 rcases h.2 with ⟨rfl, _⟩ | ⟨g', cap, rfl, hc, hr⟩
 · simp [Value.ownBlock] at hg
 · simp [Value.ownBlock] at hg; subst hg; exact hr.lt
theorem Own.ext {w w' : World} {v : Value} {e : TypeId} {s n : Nat} {vs : List Value} (h : Own w v e s n vs) (hb : Below w.heap.size w w') : Own w' v e s n vs :=
 h.below fun g hg => hb.block g (h.lt hg)
theorem Own.alloc {w : World} {v : Value} {e : TypeId} {s n : Nat} {vs : List Value} (h : Own w v e s n vs) (o : Obj) : Own (w.alloc o) v e s n vs := h.ext (bl_alloc _ _)
theorem Own.drew {w : World} {v : Value} {e : TypeId} {s n : Nat} {vs : List Value} (h : Own w v e s n vs) : Own w.drew v e s n vs := h
structure OwnRows (w : World) (G : Nat) (tO e : TypeId) (cap : Nat) (vals : List Value) (rows : List (List Value)) : Prop where
 len : vals.length = rows.length
 outer : Row w G tO 1 cap vals
 own : ∀ (v : Nat) (u : Value) (r : List Value), vals[v]? = some u → rows[v]? = some r → Own w u e 1 r.length r
 young : ∀ (v : Nat) (u : Value) (g : Nat), vals[v]? = some u → u.ownBlock = some g → G < g
 apart : ∀ (v v' : Nat) (u u' : Value) (g : Nat), v ≠ v' → vals[v]? = some u → vals[v']? = some u' → u.ownBlock = some g → u'.ownBlock ≠ some g
namespace OwnRows
variable {w w' : World} {G : Nat} {tO e : TypeId} {cap : Nat} {vals : List Value} {rows : List (List Value)}
theorem lt (h : OwnRows w G tO e cap vals rows) {v : Nat} {u : Value} {g : Nat} (hu : vals[v]? = some u) (hg : u.ownBlock = some g) : g < w.heap.size := by
 have hv : v < vals.length := (List.getElem?_eq_some_iff.1 hu).1
 obtain ⟨r, hr⟩ : ∃ r, rows[v]? = some r := ⟨rows[v]'(by rw [← h.len]; exact hv), by simp⟩
 exact (h.own v u r hu hr).lt hg
theorem keep (h : OwnRows w G tO e cap vals rows) (hb : ∀ g, G ≤ g → g < w.heap.size → w'.heap[g]? = w.heap[g]?) : OwnRows w' G tO e cap vals rows where
 len := h.len
 outer := h.outer.block (hb G (Nat.le_refl _) h.outer.lt)
 own v u r hu hr := (h.own v u r hu hr).below fun g hg => hb g (Nat.le_of_lt (h.young v u g hu hg)) (h.lt hu hg)
 young := h.young
 apart := h.apart
theorem below (h : OwnRows w G tO e cap vals rows) (hb : Below w.heap.size w w') : OwnRows w' G tO e cap vals rows := h.keep fun g _ hg => hb.block g hg
theorem alloc (h : OwnRows w G tO e cap vals rows) (o : Obj) : OwnRows (w.alloc o) G tO e cap vals rows := h.keep fun g _ hg => Below.heap_alloc w o g hg
theorem drewN (h : OwnRows w G tO e cap vals rows) (n : Nat) : OwnRows (w.drewN n) G tO e cap vals rows := h.keep fun _ _ _ => rfl
theorem stored (h : OwnRows w G tO e cap vals rows) {v : Nat} {u : Value} {r r' : List Value} (hu : vals[v]? = some u) (_hr : rows[v]? = some r)
  {g' cap' : Nat} (hrow : Row w' g' e 1 cap' r') (hgr : w.grownBy w' u.ownBlock) (hg' : u.ownBlock = some g' ∨ w.heap.size ≤ g') :
  OwnRows (w'.setCell ⟨G, v, none⟩ (.slice (some ⟨g', 0, none⟩) r'.length cap')) G tO e cap (vals.set v (.slice (some ⟨g', 0, none⟩) r'.length cap')) (rows.set v r') := by
 have hv : v < vals.length := (List.getElem?_eq_some_iff.1 hu).1
 have hGg : G < g' := by
  rcases hg' with hg' | hg'
  · exact h.young v u g' hu hg'
  · exact Nat.lt_of_lt_of_le h.outer.lt hg'
 have houter : Row w' G tO 1 cap vals := h.outer.grown hgr (fun e => by have := h.young v u G hu e; omega)
 have hother : ∀ (v' : Nat) (u' : Value) (g : Nat), v' ≠ v → vals[v']? = some u' → u'.ownBlock = some g → g ≠ g' ∧ (w'.heap[g]? = w.heap[g]?) := by
  intro v' u' g hne hu' hg
  refine ⟨?_, hgr.block g (h.lt hu' hg) (fun e => h.apart v' v u' u g hne hu' hu hg e.symm)⟩
  rintro rfl
  rcases hg' with hg' | hg'
  · exact h.apart v' v u' u g hne hu' hu hg hg'
  · have := h.lt hu' hg; omega
 refine ⟨by simpa using h.len, houter.set v _, ?_, ?_, ?_⟩
 ·
  intro v' u' r1 hu' hr'
  rw [List.getElem?_set] at hu' hr'
  by_cases hvv : v = v'
  ·
   subst hvv; rw [if_pos rfl, if_pos hv] at hu'; rw [if_pos rfl, if_pos (by rw [← h.len]; exact hv)] at hr'; cases hu'; cases hr'; exact (hrow.other (a := ⟨G, v, none⟩) (by simp; omega) _).own1
  ·
   rw [if_neg hvv] at hu' hr'; refine (h.own v' u' r1 hu' hr').below fun g hg => ?_; obtain ⟨h1, h2⟩ := hother v' u' g (Ne.symm hvv) hu' hg; rw [Below.heap_setCell _ _ _ _ (by have := h.young v' u' g hu' hg; simp; omega)]; exact h2
 ·
  intro v' u' g hu' hg
  rw [List.getElem?_set] at hu'
  by_cases hvv : v = v'
  ·
   subst hvv; rw [if_pos rfl, if_pos hv] at hu'; cases hu'; simp [Value.ownBlock] at hg; omega
  ·
   rw [if_neg hvv] at hu'; exact h.young v' u' g hu' hg
 ·
  intro v1 v2 u1 u2 g hne h1 h2 hg
  rw [List.getElem?_set] at h1 h2
  by_cases e1 : v = v1
  ·
   subst e1; rw [if_pos rfl, if_pos hv] at h1; cases h1; simp [Value.ownBlock] at hg; subst hg; rw [if_neg hne] at h2; intro hc; exact (hother v2 u2 _ (Ne.symm hne) h2 hc).1 rfl
  ·
   rw [if_neg e1] at h1; by_cases e2 : v = v2
   ·
    subst e2; rw [if_pos rfl, if_pos hv] at h2; cases h2; simp [Value.ownBlock]; exact fun e => (hother v1 u1 g (Ne.symm e1) h1 hg).1 e.symm
   ·
    rw [if_neg e2] at h2; exact h.apart v1 v2 u1 u2 g hne h1 h2 hg
theorem ne_outer (h : OwnRows w G tO e cap vals rows) {v : Nat} {u : Value} (hu : vals[v]? = some u) : u.ownBlock ≠ some G := fun hg => by
 have := h.young v u G hu hg; omega
theorem ne_new (h : OwnRows w G tO e cap vals rows) {v : Nat} {u : Value} (hu : vals[v]? = some u) {b : Nat} (hb : w.heap.size ≤ b) : u.ownBlock ≠ some b := fun hg => by
 have := h.lt hu hg; omega
end OwnRows
theorem ownRows_made (w : World) (n : Nat) (tO e : TypeId) (hm : n ≤ maxLen) :
  OwnRows (w.alloc (.cells (madeCells #[.slice none 0 0] n) tO)) w.heap.size tO e n (List.replicate n (.slice none 0 0)) (List.replicate n []) where
 len := by simp
 outer := row_made w _ n tO hm
 own v u r hu hr := by
  obtain ⟨_, hu⟩ := List.getElem?_eq_some_iff.1 hu
  obtain ⟨_, hr⟩ := List.getElem?_eq_some_iff.1 hr
  simp at hu hr
  subst hu; subst hr
  exact own_nil _ _ _
 young v u g hu hg := by
  obtain ⟨_, hu⟩ := List.getElem?_eq_some_iff.1 hu
  simp at hu; subst hu; simp [Value.ownBlock] at hg
 apart v v' u u' g _ hu _ hg := by
  obtain ⟨_, hu⟩ := List.getElem?_eq_some_iff.1 hu
  simp at hu; subst hu; simp [Value.ownBlock] at hg
theorem one_new {W : World} {b : Nat} {x : Value} (h : W.cell? ⟨b, 0, none⟩ = some x) : ∀ j u, [x][j]? = some u → W.cell? ((⟨b, 0, none⟩ : Addr).add j) = some u := by
 intro j u hj
 cases j with
 | zero => simp at hj; subst hj; simpa [Addr.add] using h
 | succ j => simp at hj
theorem one_ok (k : IntKind) (x : Int) : ∀ u ∈ [Value.int k x], u.oneCell' = true := by intro u hu; simp at hu; subst hu; rfl
theorem grown_cell {w w' : World} {r : Option Nat} {b o : Nat} {x : Value} (hg : w.grownBy w' r) (h : w.cell? ⟨b, o, none⟩ = some x) (hne : r ≠ some b) : w'.cell? ⟨b, o, none⟩ = some x :=
 hg.cell h (fun e => hne e.symm)
theorem grown_frozen {w w' : World} {r : Option Nat} {b o : Nat} (hg : w.grownBy w' r) (hlt : b < w.heap.size) (h : w.frozen? ⟨b, o, none⟩ = false) (hne : r ≠ some b) : w'.frozen? ⟨b, o, none⟩ = false :=
 (World.frozen?_of_block (w := w) (w' := w') (a := ⟨b, o, none⟩) (hg.block b hlt (fun e => hne e.symm))).trans h
end Go.Proofs.YtagjdkkfmfombaaGreat
namespace Go.Proofs.YtagjdkkfmfombaaGreat
open Go Go.RowKit
def vN (k : Nat) : Value := .int .i64 (k : Int)
theorem map_vN (l : List Nat) : l.map vN = (l.map (fun (x : Nat) => (x : Int))).map (Value.int .i64) := by rw [List.map_map]; rfl
theorem int_info : (Tryz.prog.info? 3).map (fun i => (i.zero, i.size, i.bytes)) = some (some (.int .i64 0), 1, 8) := by kernel_rfl
theorem bool_info : (Tryz.prog.info? 4).map (fun i => (i.zero, i.size, i.bytes)) = some (some (.bool false), 1, 1) := by kernel_rfl
theorem grownBy_trans {a b c : World} {k : Option Nat} (h : a.grownBy b k) (h2 : b.grownBy c k) : a.grownBy c k :=
 ⟨h2.os.trans h.os, h2.tape.trans h.tape, h2.output.trans h.output, Nat.le_trans h.size h2.size, fun i hi hne => (h2.block i (Nat.lt_of_lt_of_le hi h.size) hne).trans (h.block i hi hne)⟩
theorem grownBy_set (w : World) (b o : Nat) (u : Value) : w.grownBy (w.setCell ⟨b, o, none⟩ u) (some b) :=
 ⟨rfl, rfl, rfl, by simp [World.setCell], fun k _ hne => Below.heap_setCell w ⟨b, o, none⟩ u k (fun e => hne (by rw [e]))⟩
end Go.Proofs.YtagjdkkfmfombaaGreat
namespace Go.Proofs.YtagjdkkfmfombaaGreat
def cmpI (a b : Int) : Int := if a < b then -1 else if b < a then 1 else 0
def orI (x y : Int) : Int := if x = 0 then y else x
def cmpP (a b : Int × Int) : Int := orI (cmpI a.1 b.1) (cmpI a.2 b.2)
def lessP (a b : Int × Int) : Prop := a.1 < b.1 ∨ (a.1 = b.1 ∧ a.2 < b.2)
theorem cmpP_neg (a b : Int × Int) : cmpP a b < 0 ↔ lessP a b := by
 unfold cmpP cmpI orI lessP
 repeat' split
 all_goals omega
def okE (n : Int) (e : Int × Int) : Bool := decide (0 ≤ e.1) && decide (e.1 < e.2) && decide (e.2 < n)
def risB : List (Int × Int) → Bool
 | a :: b :: r => decide (cmpP a b < 0) && risB (b :: r)
 | _ => true
def rightB (n : Int) (es : List (Int × Int)) : Bool :=
 decide (0 ≤ n) && decide (n ≤ 200) && decide (es.length ≤ 594) && es.all (okE n) && risB es
theorem risB_iff (es : List (Int × Int)) : risB es = true ↔ ∀ k (h : k + 1 < es.length), cmpP es[k] es[k+1] < 0 := by
 induction es with
 | nil => simp [risB]
 | cons a r ih =>
  cases r with
  | nil => simp [risB]
  | cons b r =>
   rw [risB, Bool.and_eq_true, ih]; constructor
   ·
    rintro ⟨h1, h2⟩ k h; cases k with
    | zero => simpa using h1
    | succ k => exact h2 k (by simpa using h)
   ·
    intro h; exact ⟨by simpa using h 0 (by simp), fun k hk => h (k + 1) (by simpa using hk)⟩
theorem okE_iff (n : Int) (e : Int × Int) : okE n e = true ↔ 0 ≤ e.1 ∧ e.1 < e.2 ∧ e.2 < n := by
 simp [okE, and_assoc]
theorem rightB_iff (n : Int) (es : List (Int × Int)) : rightB n es = true ↔
  0 ≤ n ∧ n ≤ 200 ∧ es.length ≤ 594 ∧ (∀ k (h : k < es.length), 0 ≤ es[k].1 ∧ es[k].1 < es[k].2 ∧ es[k].2 < n) ∧ (∀ k (h : k + 1 < es.length), cmpP es[k] es[k+1] < 0) := by
 unfold rightB
 simp only [Bool.and_eq_true, decide_eq_true_eq, risB_iff, List.all_eq_true, okE_iff, and_assoc]
 constructor
 · rintro ⟨a, b, c, d, e⟩; exact ⟨a, b, c, fun k h => d _ (List.getElem_mem h), e⟩
 ·
  rintro ⟨a, b, c, d, e⟩
  refine ⟨a, b, c, fun x hx => ?_, e⟩
  obtain ⟨k, hk, rfl⟩ := List.getElem_of_mem hx
  exact d k hk
theorem right_no {n : Int} {es : List (Int × Int)} (h : ¬ (0 ≤ n ∧ n ≤ 200 ∧ es.length ≤ 594)) : rightB n es = false := by
 rw [Bool.eq_false_iff, Ne, rightB_iff]; rintro ⟨a, b, c, _⟩; exact h ⟨a, b, c⟩
theorem right_no_edge {n : Int} {es : List (Int × Int)} (k : Nat) (hk : k < es.length) (h : ¬ (0 ≤ es[k].1 ∧ es[k].1 < es[k].2 ∧ es[k].2 < n)) : rightB n es = false := by
 rw [Bool.eq_false_iff, Ne, rightB_iff]; rintro ⟨a, b, c, d, _⟩; exact h (d k hk)
theorem right_no_ris {n : Int} {es : List (Int × Int)} (k : Nat) (hk : k + 1 < es.length) (h : ¬ cmpP es[k] es[k+1] < 0) : rightB n es = false := by
 rw [Bool.eq_false_iff, Ne, rightB_iff]; rintro ⟨a, b, c, d, e⟩; exact h (e k hk)
def adj1 (e : Int × Int) (v : Nat) : List Nat := if e.1 = v then [e.2.toNat] else if e.2 = v then [e.1.toNat] else []
def adj (es : List (Int × Int)) (v : Nat) : List Nat := es.flatMap fun e => adj1 e v
def besideL (n : Nat) (es : List (Int × Int)) : List (List Nat) := (List.range n).map (adj es)
theorem besideL_length (n : Nat) (es : List (Int × Int)) : (besideL n es).length = n := by simp [besideL]
theorem besideL_get (n : Nat) (es : List (Int × Int)) (v : Nat) : (besideL n es)[v]? = if v < n then some (adj es v) else none := by
 unfold besideL
 rw [List.getElem?_map]
 split
 · rename_i h; rw [List.getElem?_range h]; rfl
 · rename_i h; rw [List.getElem?_eq_none (by simpa using h)]; rfl
theorem adj_take (es : List (Int × Int)) (k : Nat) (h : k < es.length) (v : Nat) : adj (es.take (k + 1)) v = adj (es.take k) v ++ adj1 es[k] v := by
 unfold adj
 rw [List.take_succ_eq_append_getElem h, List.flatMap_append]
 simp
theorem adj1_len (e : Int × Int) (v : Nat) : (adj1 e v).length ≤ 1 := by unfold adj1; split <;> (try split) <;> simp
theorem adj_len (es : List (Int × Int)) (v : Nat) : (adj es v).length ≤ es.length := by
 unfold adj
 induction es with
 | nil => simp
 | cons e es ih => have := adj1_len e v; simp only [List.flatMap_cons, List.length_append, List.length_cons]; omega
theorem adj_take_len (es : List (Int × Int)) (k v : Nat) : (adj (es.take k) v).length ≤ es.length := by
 have := adj_len (es.take k) v
 rw [List.length_take] at this
 omega
end Go.Proofs.YtagjdkkfmfombaaGreat
namespace Go.Proofs.YtagjdkkfmfombaaGreat
open Go Go.RowKit
theorem compare_any (a b : Int) (w : World) :
  Calls Tryz.prog 40 #[.int .i64 a, .int .i64 b] w fun e w' => e = .returned (.int .i64 (cmpI a b)) ∧ w = w' := by
 go_enter Tryz.func40, Tryz.ntmps40
 go_wp2
 ·
  have h : a < b := by assumption
  go_ret
  exact ⟨by simp [cmpI, h], rfl⟩
 ·
  have h : b < a := by assumption
  go_ret
  exact ⟨by simp [cmpI, h, show ¬ a < b by omega], rfl⟩
 ·
  have h : a ≤ b := by assumption
  have h : b ≤ a := by assumption
  go_ret
  exact ⟨by simp [cmpI, show ¬ a < b by omega, show ¬ b < a by omega], rfl⟩
theorem or_two (b : Nat) (x y : Int) (w : World) (h0 : w.cell? ⟨b, 0, none⟩ = some (.int .i64 x)) (h1 : w.cell? ⟨b, 1, none⟩ = some (.int .i64 y)) :
  Calls Tryz.prog 39 #[.slice (some ⟨b, 0, none⟩) 2 2] w fun e w' => e = .returned (.int .i64 (orI x y)) ∧ w = w' := by
 by_cases hx : x = 0
 ·
  subst hx
  by_cases hy : y = 0
  ·
   subst hy; go_enter Tryz.func39, Tryz.ntmps39; go_wp2; refine wp_loop_rounds 3 ?_; rw [rounds_succ]; go_wp2; rw [rounds_succ]; go_wp2; rw [rounds_succ]; go_wp2; go_ret; exact ⟨rfl, rfl⟩
  ·
   have hy' : (y != 0) = true := by simpa using hy
   go_enter Tryz.func39, Tryz.ntmps39; go_wp2; refine wp_loop_rounds 2 ?_; rw [rounds_succ]; go_wp2; rw [rounds_succ]; go_wp2; go_ret; exact ⟨rfl, rfl⟩
 ·
  have hx' : (x != 0) = true := by simpa using hx
  go_enter Tryz.func39, Tryz.ntmps39
  go_wp2
  refine wp_loop_rounds 1 ?_
  rw [rounds_succ]
  go_wp2
  go_ret
  exact ⟨by simp [orI, hx], rfl⟩
theorem gcompare_any (a0 a1 b0 b1 : Int) (w : World) :
  Calls Tryz.prog 49 #[.agg #[.int .i64 a0, .int .i64 a1], .agg #[.int .i64 b0, .int .i64 b1]] w
   fun e w' => e = .returned (.int .i64 (cmpP (a0, a1) (b0, b1))) ∧ Below w.heap.size w w' := by
 go_enter Tryz.func49, Tryz.ntmps49
 go_wp2_with fail
 go_region_held3 (fun w' => w'.cell? ⟨w.heap.size, 0, none⟩ = some (.int .i64 a0) ∧ w'.cell? ⟨w.heap.size, 1, none⟩ = some (.int .i64 a1) ∧
   w'.cell? ⟨w.heap.size+1, 0, none⟩ = some (.int .i64 b0) ∧ w'.cell? ⟨w.heap.size+1, 1, none⟩ = some (.int .i64 b1)) (go_keep)
  (first | (go_at_call 40; refine (compare_any _ _ _).mono ?_; rintro e w' ⟨rfl, rfl⟩) | (go_at_call 39; refine (or_two _ (cmpI a0 b0) (cmpI a1 b1) _ ?_ ?_).mono ?_; go_simp; go_simp; rintro e w' ⟨rfl, rfl⟩))
 go_wp2
 go_ret
 exact ⟨rfl, ((bl_trans (bl_trans (bl_alloc _ _) (bl_alloc _ _)) (Below.refl _ _)).drew).alloc (by simp; omega) _⟩
end Go.Proofs.YtagjdkkfmfombaaGreat
namespace Go.Proofs.YtagjdkkfmfombaaGreat
open Go Go.RowKit
set_option maxHeartbeats 1000000 in
theorem right_walk (n : Int) (a : Option Addr) (cap : Nat) (es : List (Int × Int)) (w : World) (hr : RdP w a es) (hcap : es.length ≤ 9223372036854775807) :
  Calls Tryz.prog 30 #[.agg #[.int .i64 n, .slice a es.length cap]] w
   fun e w' => e = .returned (.bool (rightB n es)) ∧ Below w.heap.size w w' := by
 by_cases hg : 0 ≤ n ∧ n ≤ 200 ∧ es.length ≤ 594
 ·
  obtain ⟨h0, h1, h2⟩ := hg
  go_enter Tryz.func30, Tryz.ntmps30
  go_wp2_with fail
  go_loopg [22] es.length (fun r i wr => ∃ k : Nat, k + r = es.length ∧ i = .int .i64 k ∧ Below (w.heap.size + 1) (w.alloc (.cells #[.int .i64 n, .slice a es.length cap] 24)) wr ∧
   (∀ j (h : j < es.length), j < k → 0 ≤ es[j].1 ∧ es[j].1 < es[j].2 ∧ es[j].2 < n) ∧ (∀ j (h : j + 1 < es.length), j + 1 < k → cmpP es[j] es[j+1] < 0))
  case atStart => exact ⟨0, by omega, rfl, Below.refl _ _, fun j _ h => absurd h (by omega), fun j _ h => absurd h (by omega)⟩
  case round =>
   obtain ⟨k, hk, rfl, hb, hok, hris⟩ := hrel; have hB : Below w.heap.size w wr := (bl_alloc w _).trans (hb.mono (by omega)); have hsz : w.heap.size < wr.heap.size := by have := hb.size; simp at this; omega
   have d0 : wr.cell? ⟨w.heap.size, 0, none⟩ = some (.int .i64 n) := by rw [hb.cell (by simp)]; simp
   have d1 : wr.cell? ⟨w.heap.size, 1, none⟩ = some (.slice a es.length cap) := by rw [hb.cell (by simp)]; simp
   by_cases hlt : k < es.length
   ·
    obtain ⟨b, o, rfl, c0, c1⟩ := (hr.below hB).at k hlt; obtain ⟨x, hx⟩ : ∃ x, x = es[k].1 := ⟨_, rfl⟩
    obtain ⟨y, hy⟩ : ∃ y, y = es[k].2 := ⟨_, rfl⟩
    rw [← hx] at c0; rw [← hy] at c1; by_cases he : 0 ≤ x ∧ x < y ∧ y < n
    ·
     obtain ⟨e0, e1, e2⟩ := he; by_cases hk0 : k = 0
     ·
      subst hk0; simp only [Nat.zero_mul, Nat.add_zero] at c0 c1; have hend : ∀ j (h : j < es.length), j < 0 + 1 → 0 ≤ es[j].1 ∧ es[j].1 < es[j].2 ∧ es[j].2 < n := by
       intro j h hj; obtain rfl : j = 0 := by omega
       rw [← hx, ← hy]; exact ⟨e0, e1, e2⟩
      have Hx := Lib.hid hx; have Hy := Lib.hid hy; clear hx hy; have Hend := Lib.hid hend; have Hok := Lib.hid hok; have Hris := Lib.hid hris; clear hend hok hris; go_wp2_with fail; go_quiet (fail)
      go_wp2; go_roundg (gk - 1)
      case measure => omega
      case rel => exact ⟨0 + 1, by omega, rfl, below_drewN (hb.alloc (by omega) _) _, Hend.out, fun j _ h => absurd h (by omega)⟩
     ·
      obtain ⟨m, rfl⟩ : ∃ m, k = m + 1 := ⟨k - 1, by omega⟩
      obtain ⟨b', o', hbo, p0, p1⟩ := (hr.below hB).at m (by omega); simp only [Option.some.injEq, Addr.mk.injEq, and_true] at hbo; obtain ⟨rfl, rfl⟩ := hbo; have hz : cmpP es[m] es[m+1] = cmpP (es[m].1, es[m].2) (x, y) := by rw [hx, hy]
      have hend : ∀ j (h : j < es.length), j < m + 1 + 1 → 0 ≤ es[j].1 ∧ es[j].1 < es[j].2 ∧ es[j].2 < n := by
       intro j h hj; by_cases hjm : j < m + 1
       · exact hok j h hjm
       ·
        obtain rfl : j = m + 1 := by omega
        rw [← hx, ← hy]; exact ⟨e0, e1, e2⟩
      have hmr : m + 1 < es.length := hlt; obtain ⟨p, hp⟩ : ∃ p, p = es[m].1 := ⟨_, rfl⟩
      obtain ⟨q, hq⟩ : ∃ q, q = es[m].2 := ⟨_, rfl⟩
      rw [← hp] at p0; rw [← hq] at p1; rw [← hp, ← hq] at hz; have Hx := Lib.hid hx; have Hy := Lib.hid hy; have Hp := Lib.hid hp; have Hq := Lib.hid hq; have Hz := Lib.hid hz; clear hx hy hp hq hz; have Hend := Lib.hid hend; have Hok := Lib.hid hok; have Hris := Lib.hid hris; clear hend hok hris; go_wp2_with fail; have i1 : IntKind.i64.wrap ((m : Int) + 1 - 1) = (m : Int) := by rw [show ((m : Int) + 1 - 1) = m by omega]; exact IntWalk.i64_in _ (by omega)
      have i2 : IntKind.i64.wrap (m : Int) = (m : Int) := IntWalk.i64_in _ (by omega); have i3 : (0 : Int) ≤ (m : Int) := by omega
      have i4 : (m : Int) < (es.length : Int) := by omega
      have i5 : m < es.length := by omega
      go_region_held3 (fun w' => w'.cell? ⟨b, o + m * 2, none⟩ = some (.int .i64 p) ∧ w'.cell? ⟨b, o + m * 2 + 1, none⟩ = some (.int .i64 q) ∧
       w'.cell? ⟨wr.heap.size, 0, none⟩ = some (.int .i64 x) ∧ w'.cell? ⟨wr.heap.size, 1, none⟩ = some (.int .i64 y) ∧ w'.cell? ⟨w.heap.size, 1, none⟩ = some (.slice (some ⟨b, o, none⟩) es.length cap)) (first | (refine ⟨?_, ?_, ?_, ?_, ?_⟩ <;> (refine keep_cell (by assumption) ?_; simp [*]; done)) | go_keep)
       (first | (go_at_call 49; refine (gcompare_any _ _ _ _ _).mono ?_; rintro e w' ⟨rfl, hbw⟩))
      go_wp2
      ·
       have hge : 0 ≤ cmpP (p, q) (x, y) := by assumption
       go_ret; exact ⟨by rw [right_no_ris m hmr (by rw [Hz.out]; omega)]; rfl, bl_trans ((hB.alloc (by omega) _).drew) hbw⟩
      ·
       have hge : cmpP (p, q) (x, y) < 0 := by assumption
       go_roundg (gk - 1)
       case measure => omega
       case rel =>
        refine ⟨m + 1 + 1, by omega, by go_num, ?_, Hend.out, ?_⟩
        · exact (hb.alloc (by omega) _).drew.trans (hbw.mono (by simp; omega))
        ·
         intro j h hj; by_cases hjm : j + 1 < m + 1
         · exact Hris.out j h hjm
         ·
          obtain rfl : j = m := by omega
          rw [Hz.out]; exact hge
    ·
     have hno := right_no_edge (n := n) k hlt (by rw [← hx, ← hy]; exact he); have Hx := Lib.hid hx; have Hy := Lib.hid hy; clear hx hy; have Hno := Lib.hid hno; clear hno; go_wp2_with fail; all_goals
      go_ret; exact ⟨by rw [Hno.out]; rfl, hB.alloc (by omega) _⟩
   ·
    have hkl : k = es.length := by omega
    have hyes : rightB n es = true := by
     rw [rightB_iff]; exact ⟨h0, h1, h2, fun j h => hok j h (by omega), fun j h => hris j h (by omega)⟩
    have Hyes := Lib.hid hyes; clear hyes hok hris hkl; go_wp2_with fail; go_ret; exact ⟨by rw [Hyes.out]; rfl, hB⟩
 ·
  have hno := right_no hg
  rw [hno]
  go_enter Tryz.func30, Tryz.ntmps30
  go_wp2_with fail
  all_goals
   go_ret; exact ⟨rfl, bl_alloc _ _⟩
end Go.Proofs.YtagjdkkfmfombaaGreat
namespace Go.Proofs
open Go.Shelf
def Tryz.lays189_ren : Go.Shelf.Ren := ⟨fun | 189 => 52 | 125 => 69 | 257 => 82 | 128 => 100 | 129 => 101 | 294 => 110 | 295 => 111 | 296 => 112 | 297 => 113 | 298 => 114 | 299 => 115 | 216 => 85 | 300 => 116 | 301 => 117 | 328 => 140 | 329 => 130 | 330 => 131 | 331 => 141 | 332 => 142 | 215 => 70 | 343 => 149 | n => n, fun | 28 => 25 | 3 => 3 | 46 => 96 | 0 => 0 | 51 => 184 | 53 => 150 | 4 => 4 | 183 => 178 | 182 => 177 | 131 => 66 | 5 => 5 | 9 => 9 | 218 => 216 | 222 => 220 | 228 => 234 | 229 => 235 | n => n, fun | n => n⟩
theorem Tryz.lays189 : Go.Proofs.Lays.n189 Tryz.prog Tryz.lays189_ren := {
 mixed := by kernel_rfl
 f125 := Tryz.func69.trans (congrArg some (by kernel_rfl))
 f128 := Tryz.func100.trans (congrArg some (by kernel_rfl))
 f129 := Tryz.func101.trans (congrArg some (by kernel_rfl))
 f189 := Tryz.func52.trans (congrArg some (by kernel_rfl))
 f215 := Tryz.func70.trans (congrArg some (by kernel_rfl))
 f216 := Tryz.func85.trans (congrArg some (by kernel_rfl))
 f257 := Tryz.func82.trans (congrArg some (by kernel_rfl))
 f294 := Tryz.func110.trans (congrArg some (by kernel_rfl))
 f295 := Tryz.func111.trans (congrArg some (by kernel_rfl))
 f296 := Tryz.func112.trans (congrArg some (by kernel_rfl))
 f297 := Tryz.func113.trans (congrArg some (by kernel_rfl))
 f298 := Tryz.func114.trans (congrArg some (by kernel_rfl))
 f299 := Tryz.func115.trans (congrArg some (by kernel_rfl))
 f300 := Tryz.func116.trans (congrArg some (by kernel_rfl))
 f301 := Tryz.func117.trans (congrArg some (by kernel_rfl))
 f328 := Tryz.func140.trans (congrArg some (by kernel_rfl))
 f329 := Tryz.func130.trans (congrArg some (by kernel_rfl))
 f330 := Tryz.func131.trans (congrArg some (by kernel_rfl))
 f331 := Tryz.func141.trans (congrArg some (by kernel_rfl))
 f332 := Tryz.func142.trans (congrArg some (by kernel_rfl))
 f343 := Tryz.func149.trans (congrArg some (by kernel_rfl))
 t0 := Tryz.underlying0
 a0 := Tryz.isAgg0
 z0 := Tryz.sizeOf0
 v0 := Tryz.zeroValue0
 t3 := Tryz.underlying3
 a3 := Tryz.isAgg3
 z3 := Tryz.sizeOf3
 v3 := Tryz.zeroValue3
 t4 := Tryz.underlying4
 a4 := Tryz.isAgg4
 z4 := Tryz.sizeOf4
 v4 := Tryz.zeroValue4
 t5 := Tryz.underlying5
 a5 := Tryz.isAgg5
 z5 := Tryz.sizeOf5
 v5 := Tryz.zeroValue5
 t9 := Tryz.underlying9
 a9 := Tryz.isAgg9
 z9 := Tryz.sizeOf9
 v9 := Tryz.zeroValue9
 t28 := Tryz.underlying25
 a28 := Tryz.isAgg25
 z28 := Tryz.sizeOf25
 v28 := Tryz.zeroValue25
 t46 := Tryz.underlying96
 a46 := Tryz.isAgg96
 z46 := Tryz.sizeOf96
 v46 := Tryz.zeroValue96
 t51 := Tryz.underlying184
 a51 := Tryz.isAgg184
 z51 := Tryz.sizeOf184
 v51 := Tryz.zeroValue184
 t53 := Tryz.underlying150
 a53 := Tryz.isAgg150
 z53 := Tryz.sizeOf150
 v53 := Tryz.zeroValue150
 t131 := Tryz.underlying66
 a131 := Tryz.isAgg66
 z131 := Tryz.sizeOf66
 v131 := Tryz.zeroValue66
 t182 := Tryz.underlying177
 a182 := Tryz.isAgg177
 z182 := Tryz.sizeOf177
 v182 := Tryz.zeroValue177
 t183 := Tryz.underlying178
 a183 := Tryz.isAgg178
 z183 := Tryz.sizeOf178
 v183 := Tryz.zeroValue178
 t218 := Tryz.underlying216
 a218 := Tryz.isAgg216
 z218 := Tryz.sizeOf216
 v218 := Tryz.zeroValue216
 t222 := Tryz.underlying220
 a222 := Tryz.isAgg220
 z222 := Tryz.sizeOf220
 v222 := Tryz.zeroValue220
 t228 := Tryz.underlying234
 a228 := Tryz.isAgg234
 z228 := Tryz.sizeOf234
 v228 := Tryz.zeroValue234
 t229 := Tryz.underlying235
 a229 := Tryz.isAgg235
 z229 := Tryz.sizeOf235
 v229 := Tryz.zeroValue235 }
open Go.Sort Go.RowKit in
theorem Tryz.slices_Sort_int (blk off cap : Nat) (zs : List Int) (w : World) (hH : Holds (Value.int .i64) w blk off zs.toArray) (hblk : blk < w.heap.size) (hsz : zs.length < 4611686018427387904) :
  Calls Tryz.prog 52 #[.slice (some ⟨blk, off, none⟩) zs.length cap] w fun e w' =>
   e = .returned (.tuple #[]) ∧ ∃ n os, w' = grow (putRow (Value.int .i64) (Sort.ahead w n) blk off (zs.mergeSort fun x y => decide (x ≤ y)).toArray) os := Any.slices_Sort_int Tryz.lays189 blk off cap zs w hH hblk hsz
def Tryz.lays212_ren : Go.Shelf.Ren := ⟨fun | 212 => 109 | 263 => 138 | 264 => 139 | n => n, fun | 46 => 96 | 51 => 184 | 146 => 226 | 53 => 150 | 148 => 228 | n => n, fun | n => n⟩
theorem Tryz.lays212 : Go.Proofs.Lays.n212 Tryz.prog Tryz.lays212_ren := {
 mixed := by kernel_rfl
 f212 := Tryz.func109.trans (congrArg some (by kernel_rfl))
 f263 := Tryz.func138.trans (congrArg some (by kernel_rfl))
 f264 := Tryz.func139.trans (congrArg some (by kernel_rfl))
 t46 := Tryz.underlying96
 a46 := Tryz.isAgg96
 z46 := Tryz.sizeOf96
 v46 := Tryz.zeroValue96
 t51 := Tryz.underlying184
 a51 := Tryz.isAgg184
 z51 := Tryz.sizeOf184
 v51 := Tryz.zeroValue184
 t53 := Tryz.underlying150
 a53 := Tryz.isAgg150
 z53 := Tryz.sizeOf150
 v53 := Tryz.zeroValue150
 t146 := Tryz.underlying226
 a146 := Tryz.isAgg226
 z146 := Tryz.sizeOf226
 v146 := Tryz.zeroValue226
 t148 := Tryz.underlying228
 a148 := Tryz.isAgg228
 z148 := Tryz.sizeOf228
 v148 := Tryz.zeroValue228 }
open Go.RowKit Go.Lib in
theorem Tryz.bits_Mul (x y : Nat) (hx : x < 18446744073709551616) (hy : y < 18446744073709551616) (w : World) :
  Calls Tryz.prog 109 #[.int .u64 x, .int .u64 y] w fun e w' => e = .returned (.tuple #[.int .u64 ((x * y / 18446744073709551616 : Nat) : Int), .int .u64 ((x * y % 18446744073709551616 : Nat) : Int)]) ∧ w' = w := Any.bits_Mul Tryz.lays212 x y hx hy w
def Tryz.lays112_ren : Go.Shelf.Ren := ⟨fun | 112 => 173 | n => n, fun | 28 => 25 | 3 => 3 | 4 => 4 | 0 => 0 | n => n, fun | n => n⟩
theorem Tryz.lays112 : Go.Proofs.Lays.n112 Tryz.prog Tryz.lays112_ren := {
 mixed := by kernel_rfl
 f112 := Tryz.func173.trans (congrArg some (by kernel_rfl))
 t0 := Tryz.underlying0
 a0 := Tryz.isAgg0
 z0 := Tryz.sizeOf0
 v0 := Tryz.zeroValue0
 t3 := Tryz.underlying3
 a3 := Tryz.isAgg3
 z3 := Tryz.sizeOf3
 v3 := Tryz.zeroValue3
 t4 := Tryz.underlying4
 a4 := Tryz.isAgg4
 z4 := Tryz.sizeOf4
 v4 := Tryz.zeroValue4
 t28 := Tryz.underlying25
 a28 := Tryz.isAgg25
 z28 := Tryz.sizeOf25
 v28 := Tryz.zeroValue25 }
def Tryz.laysNm215_ren : Go.Shelf.Ren := ⟨fun | 15 => 55 | n => n, fun | 22 => 25 | 3 => 3 | 4 => 4 | n => n, fun | n => n⟩
theorem Tryz.laysNm215 : Go.Proofs.Lays2.n15 Tryz.prog Tryz.laysNm215_ren := {
 mixed := by kernel_rfl
 f15 := Tryz.func55.trans (congrArg some (by kernel_rfl))
 t3 := Tryz.underlying3
 a3 := Tryz.isAgg3
 z3 := Tryz.sizeOf3
 v3 := Tryz.zeroValue3
 t4 := Tryz.underlying4
 a4 := Tryz.isAgg4
 z4 := Tryz.sizeOf4
 v4 := Tryz.zeroValue4
 t22 := Tryz.underlying25
 a22 := Tryz.isAgg25
 z22 := Tryz.sizeOf25
 v22 := Tryz.zeroValue25
 i3 := by kernel_rfl }
open Go.RowKit Go.Lib in
theorem Tryz.slices_Clone_int (b off n c : Nat) (zs : List Int) (w : World) (hz : n ≤ zs.length) (hbig : n * 8 ≤ 140737488355328) (hc : ∀ j, j < zs.length → w.cell? ⟨b, off + j, none⟩ = some (.int .i64 (zs.getD j 0))) :
  Calls Tryz.prog 55 #[.slice (some ⟨b, off, none⟩) n c] w fun e w' => ∃ v', e = .returned v' ∧ w'.ownsRow w.heap.size 3 1 v' n ((zs.take n).map (Value.int .i64)) ∧ v' ≠ .slice none 0 0 ∧ Below w.heap.size w w' := Any.slices_Clone_int Tryz.laysNm215 b off n c zs w hz hbig hc
def Tryz.laysNm220_ren : Go.Shelf.Ren := ⟨fun | 20 => 56 | n => n, fun | 22 => 25 | 3 => 3 | 4 => 4 | 0 => 0 | n => n, fun | n => n⟩
theorem Tryz.laysNm220 : Go.Proofs.Lays2.n20 Tryz.prog Tryz.laysNm220_ren := {
 mixed := by kernel_rfl
 f20 := Tryz.func56.trans (congrArg some (by kernel_rfl))
 t0 := Tryz.underlying0
 a0 := Tryz.isAgg0
 z0 := Tryz.sizeOf0
 v0 := Tryz.zeroValue0
 t3 := Tryz.underlying3
 a3 := Tryz.isAgg3
 z3 := Tryz.sizeOf3
 v3 := Tryz.zeroValue3
 t4 := Tryz.underlying4
 a4 := Tryz.isAgg4
 z4 := Tryz.sizeOf4
 v4 := Tryz.zeroValue4
 t22 := Tryz.underlying25
 a22 := Tryz.isAgg25
 z22 := Tryz.sizeOf25
 v22 := Tryz.zeroValue25
 i3 := by kernel_rfl }
open Go.RowKit Go.Lib Go.Sort in
theorem Tryz.slices_Compact_int (blk off cap : Nat) (zs : List Int) (w : World) (hH : Holds (Value.int .i64) w blk off zs.toArray) (hsz : zs.length ≤ 9223372036854775807) (hcap : zs.length ≤ cap) :
  Calls Tryz.prog 56 #[.slice (some ⟨blk, off, none⟩) zs.length cap] w fun e w' => e = .returned (.slice (some ⟨blk, off, none⟩) (Lib.compact zs).length cap) ∧ ∃ q, w' = putRow (Value.int .i64) (Sort.ahead w q) blk off (Lib.compact zs ++ List.replicate (zs.length - (Lib.compact zs).length) 0).toArray := Any.slices_Compact_int Tryz.laysNm220 blk off cap zs w hH hsz hcap
open Go.RowKit Go.Lib Go.Sort in
theorem Tryz.slices_Compact_int_empty (a : Option Addr) (cap : Nat) (w : World) :
  Calls Tryz.prog 56 #[.slice a 0 cap] w fun e w' => e = .returned (.slice a 0 cap) ∧ w' = w := Any.slices_Compact_int_empty Tryz.laysNm220 a cap w
def Tryz.laysNm225_ren : Go.Shelf.Ren := ⟨fun | 25 => 57 | 31 => 85 | 32 => 86 | 37 => 70 | n => n, fun | 22 => 25 | 3 => 3 | 4 => 4 | 40 => 96 | 0 => 0 | n => n, fun | n => n⟩
theorem Tryz.laysNm225 : Go.Proofs.Lays2.n25 Tryz.prog Tryz.laysNm225_ren := {
 mixed := by kernel_rfl
 f25 := Tryz.func57.trans (congrArg some (by kernel_rfl))
 f31 := Tryz.func85.trans (congrArg some (by kernel_rfl))
 f32 := Tryz.func86.trans (congrArg some (by kernel_rfl))
 f37 := Tryz.func70.trans (congrArg some (by kernel_rfl))
 t0 := Tryz.underlying0
 a0 := Tryz.isAgg0
 z0 := Tryz.sizeOf0
 v0 := Tryz.zeroValue0
 t3 := Tryz.underlying3
 a3 := Tryz.isAgg3
 z3 := Tryz.sizeOf3
 v3 := Tryz.zeroValue3
 t4 := Tryz.underlying4
 a4 := Tryz.isAgg4
 z4 := Tryz.sizeOf4
 v4 := Tryz.zeroValue4
 t22 := Tryz.underlying25
 a22 := Tryz.isAgg25
 z22 := Tryz.sizeOf25
 v22 := Tryz.zeroValue25
 t40 := Tryz.underlying96
 a40 := Tryz.isAgg96
 z40 := Tryz.sizeOf96
 v40 := Tryz.zeroValue96 }
open Go.RowKit Go.Lib in
theorem Tryz.slices_BinarySearch_int (b off n c : Nat) (zs : List Int) (x : Int) (w : World) (hz : n ≤ zs.length) (hbig : n < 4611686018427387904) (hc : ∀ j, j < zs.length → w.cell? ⟨b, off + j, none⟩ = some (.int .i64 (zs.getD j 0))) (hs : (zs.take n).Pairwise (· ≤ ·)) :
  Calls Tryz.prog 57 #[.slice (some ⟨b, off, none⟩) n c, .int .i64 x] w fun e w' => e = .returned (.tuple #[.int .i64 ((zs.take n).countP (· < x) : Nat), .bool ((zs.take n).contains x)]) ∧ ∃ q, w' = w.drewN q := Any.slices_BinarySearch_int Tryz.laysNm225 b off n c zs x w hz hbig hc hs
open Go.RowKit Go.Lib Go.Sort in
theorem Tryz.slices_Reverse_int_cells (b off n c : Nat) (zs : List Int) (w : World) (hz : n ≤ zs.length) (hbig : n ≤ 9223372036854775807) (hc : ∀ j, j < zs.length → w.cell? ⟨b, off + j, none⟩ = some (.int .i64 (zs.getD j 0))) (hf : ∀ j, j < n → w.frozen? ⟨b, off + j, none⟩ = false) :
  Calls Tryz.prog 173 #[.slice (some ⟨b, off, none⟩) n c] w fun e w' => e = .returned (.tuple #[]) ∧ ∃ q, w' = (w.drewN q).setCells b off ((zs.take n).reverse.map (Value.int .i64)) := Any.slices_Reverse_int_cells Tryz.lays112 b off n c zs w hz hbig hc hf
open Go.RowKit Go.Sort in
theorem Tryz.slices_Sort_int_none (p : Option Addr) (cap : Nat) (w : World) :
  Calls Tryz.prog 52 #[.slice p 0 cap] w fun e w' => e = .returned (.tuple #[]) ∧ w' = w := Any.slices_Sort_int_none Tryz.lays189 p cap w
def Tryz.laysSlF06_f37_ren : Go.Shelf.Ren := ⟨fun | 6 => 37 | 15 => 69 | 14 => 68 | 28 => 100 | 29 => 101 | 20 => 92 | 21 => 93 | 22 => 94 | 23 => 95 | 24 => 96 | 25 => 97 | 26 => 98 | 27 => 99 | 46 => 129 | 47 => 130 | 48 => 131 | 49 => 132 | 50 => 133 | 57 => 147 | n => n, fun | 22 => 22 | 24 => 51 | 25 => 95 | 3 => 3 | 39 => 96 | 0 => 0 | 53 => 184 | 55 => 150 | 4 => 4 | 46 => 178 | 45 => 177 | 50 => 66 | 5 => 5 | 9 => 9 | 66 => 216 | 70 => 220 | 76 => 234 | 77 => 235 | n => n, fun | n => n⟩
theorem Tryz.laysSlF06_f37 : Go.Proofs.SlLaysF0.n6 Tryz.prog Tryz.laysSlF06_f37_ren := {
 mixed := by kernel_rfl
 f6 := ⟨Tryz.f37.name, by decide, Tryz.func37.trans (congrArg some (by kernel_rfl))⟩
 f14 := ⟨Tryz.f68.name, by decide, Tryz.func68.trans (congrArg some (by kernel_rfl))⟩
 f15 := Tryz.func69.trans (congrArg some (by kernel_rfl))
 f20 := ⟨Tryz.f92.name, by decide, Tryz.func92.trans (congrArg some (by kernel_rfl))⟩
 f21 := ⟨Tryz.f93.name, by decide, Tryz.func93.trans (congrArg some (by kernel_rfl))⟩
 f22 := ⟨Tryz.f94.name, by decide, Tryz.func94.trans (congrArg some (by kernel_rfl))⟩
 f23 := ⟨Tryz.f95.name, by decide, Tryz.func95.trans (congrArg some (by kernel_rfl))⟩
 f24 := ⟨Tryz.f96.name, by decide, Tryz.func96.trans (congrArg some (by kernel_rfl))⟩
 f25 := ⟨Tryz.f97.name, by decide, Tryz.func97.trans (congrArg some (by kernel_rfl))⟩
 f26 := ⟨Tryz.f98.name, by decide, Tryz.func98.trans (congrArg some (by kernel_rfl))⟩
 f27 := ⟨Tryz.f99.name, by decide, Tryz.func99.trans (congrArg some (by kernel_rfl))⟩
 f28 := Tryz.func100.trans (congrArg some (by kernel_rfl))
 f29 := Tryz.func101.trans (congrArg some (by kernel_rfl))
 f46 := ⟨Tryz.f129.name, by decide, Tryz.func129.trans (congrArg some (by kernel_rfl))⟩
 f47 := Tryz.func130.trans (congrArg some (by kernel_rfl))
 f48 := Tryz.func131.trans (congrArg some (by kernel_rfl))
 f49 := ⟨Tryz.f132.name, by decide, Tryz.func132.trans (congrArg some (by kernel_rfl))⟩
 f50 := ⟨Tryz.f133.name, by decide, Tryz.func133.trans (congrArg some (by kernel_rfl))⟩
 f57 := ⟨Tryz.f147.name, by decide, Tryz.func147.trans (congrArg some (by kernel_rfl))⟩
 t0 := Tryz.underlying0
 a0 := Tryz.isAgg0
 z0 := Tryz.sizeOf0
 v0 := Tryz.zeroValue0
 t3 := Tryz.underlying3
 a3 := Tryz.isAgg3
 z3 := Tryz.sizeOf3
 v3 := Tryz.zeroValue3
 t4 := Tryz.underlying4
 a4 := Tryz.isAgg4
 z4 := Tryz.sizeOf4
 v4 := Tryz.zeroValue4
 t5 := Tryz.underlying5
 a5 := Tryz.isAgg5
 z5 := Tryz.sizeOf5
 v5 := Tryz.zeroValue5
 t9 := Tryz.underlying9
 a9 := Tryz.isAgg9
 z9 := Tryz.sizeOf9
 v9 := Tryz.zeroValue9
 t22 := Tryz.underlying22
 a22 := Tryz.isAgg22
 z22 := Tryz.sizeOf22
 v22 := Tryz.zeroValue22
 t25 := Tryz.underlying95
 a25 := Tryz.isAgg95
 z25 := Tryz.sizeOf95
 v25 := Tryz.zeroValue95
 t39 := Tryz.underlying96
 a39 := Tryz.isAgg96
 z39 := Tryz.sizeOf96
 v39 := Tryz.zeroValue96
 t45 := Tryz.underlying177
 a45 := Tryz.isAgg177
 z45 := Tryz.sizeOf177
 v45 := Tryz.zeroValue177
 t46 := Tryz.underlying178
 a46 := Tryz.isAgg178
 z46 := Tryz.sizeOf178
 v46 := Tryz.zeroValue178
 t50 := Tryz.underlying66
 a50 := Tryz.isAgg66
 z50 := Tryz.sizeOf66
 v50 := Tryz.zeroValue66
 t53 := Tryz.underlying184
 a53 := Tryz.isAgg184
 z53 := Tryz.sizeOf184
 v53 := Tryz.zeroValue184
 t55 := Tryz.underlying150
 a55 := Tryz.isAgg150
 z55 := Tryz.sizeOf150
 v55 := Tryz.zeroValue150
 t66 := Tryz.underlying216
 a66 := Tryz.isAgg216
 z66 := Tryz.sizeOf216
 v66 := Tryz.zeroValue216
 t70 := Tryz.underlying220
 a70 := Tryz.isAgg220
 z70 := Tryz.sizeOf220
 v70 := Tryz.zeroValue220
 t76 := Tryz.underlying234
 a76 := Tryz.isAgg234
 z76 := Tryz.sizeOf234
 v76 := Tryz.zeroValue234
 t77 := Tryz.underlying235
 a77 := Tryz.isAgg235
 z77 := Tryz.sizeOf235
 v77 := Tryz.zeroValue235 }
def Tryz.laysSlF6_f247_ren : Go.Shelf.Ren := ⟨fun | 6 => 247 | 15 => 69 | 14 => 265 | 28 => 100 | 29 => 101 | 20 => 280 | 21 => 281 | 22 => 282 | 23 => 283 | 24 => 284 | 25 => 285 | 26 => 286 | 27 => 287 | 46 => 317 | 47 => 130 | 48 => 131 | 49 => 318 | 50 => 319 | 57 => 335 | n => n, fun | 22 => 25 | 24 => 3 | 25 => 94 | 3 => 3 | 39 => 96 | 0 => 0 | 53 => 184 | 55 => 150 | 4 => 4 | 46 => 178 | 45 => 177 | 50 => 66 | 5 => 5 | 9 => 9 | 66 => 216 | 70 => 220 | 76 => 234 | 77 => 235 | n => n, fun | n => n⟩
theorem Tryz.laysSlF6_f247 : Go.Proofs.SlLaysF.n6 Tryz.prog Tryz.laysSlF6_f247_ren := {
 mixed := by kernel_rfl
 f6 := ⟨Tryz.f247.name, by decide, Tryz.func247.trans (congrArg some (by kernel_rfl))⟩
 f14 := ⟨Tryz.f265.name, by decide, Tryz.func265.trans (congrArg some (by kernel_rfl))⟩
 f15 := Tryz.func69.trans (congrArg some (by kernel_rfl))
 f20 := ⟨Tryz.f280.name, by decide, Tryz.func280.trans (congrArg some (by kernel_rfl))⟩
 f21 := ⟨Tryz.f281.name, by decide, Tryz.func281.trans (congrArg some (by kernel_rfl))⟩
 f22 := ⟨Tryz.f282.name, by decide, Tryz.func282.trans (congrArg some (by kernel_rfl))⟩
 f23 := ⟨Tryz.f283.name, by decide, Tryz.func283.trans (congrArg some (by kernel_rfl))⟩
 f24 := ⟨Tryz.f284.name, by decide, Tryz.func284.trans (congrArg some (by kernel_rfl))⟩
 f25 := ⟨Tryz.f285.name, by decide, Tryz.func285.trans (congrArg some (by kernel_rfl))⟩
 f26 := ⟨Tryz.f286.name, by decide, Tryz.func286.trans (congrArg some (by kernel_rfl))⟩
 f27 := ⟨Tryz.f287.name, by decide, Tryz.func287.trans (congrArg some (by kernel_rfl))⟩
 f28 := Tryz.func100.trans (congrArg some (by kernel_rfl))
 f29 := Tryz.func101.trans (congrArg some (by kernel_rfl))
 f46 := ⟨Tryz.f317.name, by decide, Tryz.func317.trans (congrArg some (by kernel_rfl))⟩
 f47 := Tryz.func130.trans (congrArg some (by kernel_rfl))
 f48 := Tryz.func131.trans (congrArg some (by kernel_rfl))
 f49 := ⟨Tryz.f318.name, by decide, Tryz.func318.trans (congrArg some (by kernel_rfl))⟩
 f50 := ⟨Tryz.f319.name, by decide, Tryz.func319.trans (congrArg some (by kernel_rfl))⟩
 f57 := ⟨Tryz.f335.name, by decide, Tryz.func335.trans (congrArg some (by kernel_rfl))⟩
 t0 := Tryz.underlying0
 a0 := Tryz.isAgg0
 z0 := Tryz.sizeOf0
 v0 := Tryz.zeroValue0
 t3 := Tryz.underlying3
 a3 := Tryz.isAgg3
 z3 := Tryz.sizeOf3
 v3 := Tryz.zeroValue3
 t4 := Tryz.underlying4
 a4 := Tryz.isAgg4
 z4 := Tryz.sizeOf4
 v4 := Tryz.zeroValue4
 t5 := Tryz.underlying5
 a5 := Tryz.isAgg5
 z5 := Tryz.sizeOf5
 v5 := Tryz.zeroValue5
 t9 := Tryz.underlying9
 a9 := Tryz.isAgg9
 z9 := Tryz.sizeOf9
 v9 := Tryz.zeroValue9
 t22 := Tryz.underlying25
 a22 := Tryz.isAgg25
 z22 := Tryz.sizeOf25
 v22 := Tryz.zeroValue25
 a24 := Tryz.isAgg3
 z24 := Tryz.sizeOf3
 t25 := Tryz.underlying94
 a25 := Tryz.isAgg94
 z25 := Tryz.sizeOf94
 v25 := Tryz.zeroValue94
 t39 := Tryz.underlying96
 a39 := Tryz.isAgg96
 z39 := Tryz.sizeOf96
 v39 := Tryz.zeroValue96
 t45 := Tryz.underlying177
 a45 := Tryz.isAgg177
 z45 := Tryz.sizeOf177
 v45 := Tryz.zeroValue177
 t46 := Tryz.underlying178
 a46 := Tryz.isAgg178
 z46 := Tryz.sizeOf178
 v46 := Tryz.zeroValue178
 t50 := Tryz.underlying66
 a50 := Tryz.isAgg66
 z50 := Tryz.sizeOf66
 v50 := Tryz.zeroValue66
 t53 := Tryz.underlying184
 a53 := Tryz.isAgg184
 z53 := Tryz.sizeOf184
 v53 := Tryz.zeroValue184
 t55 := Tryz.underlying150
 a55 := Tryz.isAgg150
 z55 := Tryz.sizeOf150
 v55 := Tryz.zeroValue150
 t66 := Tryz.underlying216
 a66 := Tryz.isAgg216
 z66 := Tryz.sizeOf216
 v66 := Tryz.zeroValue216
 t70 := Tryz.underlying220
 a70 := Tryz.isAgg220
 z70 := Tryz.sizeOf220
 v70 := Tryz.zeroValue220
 t76 := Tryz.underlying234
 a76 := Tryz.isAgg234
 z76 := Tryz.sizeOf234
 v76 := Tryz.zeroValue234
 t77 := Tryz.underlying235
 a77 := Tryz.isAgg235
 z77 := Tryz.sizeOf235
 v77 := Tryz.zeroValue235 }
def Tryz.laysSlF06_f247_ren : Go.Shelf.Ren := ⟨fun | 6 => 247 | 15 => 69 | 14 => 265 | 28 => 100 | 29 => 101 | 20 => 280 | 21 => 281 | 22 => 282 | 23 => 283 | 24 => 284 | 25 => 285 | 26 => 286 | 27 => 287 | 46 => 317 | 47 => 130 | 48 => 131 | 49 => 318 | 50 => 319 | 57 => 335 | n => n, fun | 22 => 25 | 24 => 3 | 25 => 94 | 3 => 3 | 39 => 96 | 0 => 0 | 53 => 184 | 55 => 150 | 4 => 4 | 46 => 178 | 45 => 177 | 50 => 66 | 5 => 5 | 9 => 9 | 66 => 216 | 70 => 220 | 76 => 234 | 77 => 235 | n => n, fun | n => n⟩
theorem Tryz.laysSlF06_f247 : Go.Proofs.SlLaysF0.n6 Tryz.prog Tryz.laysSlF06_f247_ren := {
 mixed := by kernel_rfl
 f6 := ⟨Tryz.f247.name, by decide, Tryz.func247.trans (congrArg some (by kernel_rfl))⟩
 f14 := ⟨Tryz.f265.name, by decide, Tryz.func265.trans (congrArg some (by kernel_rfl))⟩
 f15 := Tryz.func69.trans (congrArg some (by kernel_rfl))
 f20 := ⟨Tryz.f280.name, by decide, Tryz.func280.trans (congrArg some (by kernel_rfl))⟩
 f21 := ⟨Tryz.f281.name, by decide, Tryz.func281.trans (congrArg some (by kernel_rfl))⟩
 f22 := ⟨Tryz.f282.name, by decide, Tryz.func282.trans (congrArg some (by kernel_rfl))⟩
 f23 := ⟨Tryz.f283.name, by decide, Tryz.func283.trans (congrArg some (by kernel_rfl))⟩
 f24 := ⟨Tryz.f284.name, by decide, Tryz.func284.trans (congrArg some (by kernel_rfl))⟩
 f25 := ⟨Tryz.f285.name, by decide, Tryz.func285.trans (congrArg some (by kernel_rfl))⟩
 f26 := ⟨Tryz.f286.name, by decide, Tryz.func286.trans (congrArg some (by kernel_rfl))⟩
 f27 := ⟨Tryz.f287.name, by decide, Tryz.func287.trans (congrArg some (by kernel_rfl))⟩
 f28 := Tryz.func100.trans (congrArg some (by kernel_rfl))
 f29 := Tryz.func101.trans (congrArg some (by kernel_rfl))
 f46 := ⟨Tryz.f317.name, by decide, Tryz.func317.trans (congrArg some (by kernel_rfl))⟩
 f47 := Tryz.func130.trans (congrArg some (by kernel_rfl))
 f48 := Tryz.func131.trans (congrArg some (by kernel_rfl))
 f49 := ⟨Tryz.f318.name, by decide, Tryz.func318.trans (congrArg some (by kernel_rfl))⟩
 f50 := ⟨Tryz.f319.name, by decide, Tryz.func319.trans (congrArg some (by kernel_rfl))⟩
 f57 := ⟨Tryz.f335.name, by decide, Tryz.func335.trans (congrArg some (by kernel_rfl))⟩
 t0 := Tryz.underlying0
 a0 := Tryz.isAgg0
 z0 := Tryz.sizeOf0
 v0 := Tryz.zeroValue0
 t3 := Tryz.underlying3
 a3 := Tryz.isAgg3
 z3 := Tryz.sizeOf3
 v3 := Tryz.zeroValue3
 t4 := Tryz.underlying4
 a4 := Tryz.isAgg4
 z4 := Tryz.sizeOf4
 v4 := Tryz.zeroValue4
 t5 := Tryz.underlying5
 a5 := Tryz.isAgg5
 z5 := Tryz.sizeOf5
 v5 := Tryz.zeroValue5
 t9 := Tryz.underlying9
 a9 := Tryz.isAgg9
 z9 := Tryz.sizeOf9
 v9 := Tryz.zeroValue9
 t22 := Tryz.underlying25
 a22 := Tryz.isAgg25
 z22 := Tryz.sizeOf25
 v22 := Tryz.zeroValue25
 t25 := Tryz.underlying94
 a25 := Tryz.isAgg94
 z25 := Tryz.sizeOf94
 v25 := Tryz.zeroValue94
 t39 := Tryz.underlying96
 a39 := Tryz.isAgg96
 z39 := Tryz.sizeOf96
 v39 := Tryz.zeroValue96
 t45 := Tryz.underlying177
 a45 := Tryz.isAgg177
 z45 := Tryz.sizeOf177
 v45 := Tryz.zeroValue177
 t46 := Tryz.underlying178
 a46 := Tryz.isAgg178
 z46 := Tryz.sizeOf178
 v46 := Tryz.zeroValue178
 t50 := Tryz.underlying66
 a50 := Tryz.isAgg66
 z50 := Tryz.sizeOf66
 v50 := Tryz.zeroValue66
 t53 := Tryz.underlying184
 a53 := Tryz.isAgg184
 z53 := Tryz.sizeOf184
 v53 := Tryz.zeroValue184
 t55 := Tryz.underlying150
 a55 := Tryz.isAgg150
 z55 := Tryz.sizeOf150
 v55 := Tryz.zeroValue150
 t66 := Tryz.underlying216
 a66 := Tryz.isAgg216
 z66 := Tryz.sizeOf216
 v66 := Tryz.zeroValue216
 t70 := Tryz.underlying220
 a70 := Tryz.isAgg220
 z70 := Tryz.sizeOf220
 v70 := Tryz.zeroValue220
 t76 := Tryz.underlying234
 a76 := Tryz.isAgg234
 z76 := Tryz.sizeOf234
 v76 := Tryz.zeroValue234
 t77 := Tryz.underlying235
 a77 := Tryz.isAgg235
 z77 := Tryz.sizeOf235
 v77 := Tryz.zeroValue235 }
open Go.RowKit Go.Lib Go.Sort in
theorem Tryz.slices_SortFunc_none_f247 {α : Type} [Inhabited α] (p : Option Addr) (cap : Nat) (fv : Value) (w : World) :
  Calls Tryz.prog 247 #[.slice p 0 cap, fv] w fun e w' => e = .returned (.tuple #[]) ∧ w' = w := AnyF.slices_SortFunc_none Tryz.laysSlF06_f247 p cap fv w
open Go.RowKit Go.Lib Go.Sort in
theorem Tryz.slices_SortFunc_total {α : Type} [Inhabited α] (enc : α → Value) (h1 : OneCell enc) (cf : α → α → Int) (hO : SWO (ltOf cf)) (g : Nat) (cb : Array Value) (blk off cap : Nat) (d : Array α) (w : World) (eg : ∀ args w, (callFunc g args).run Tryz.prog w = .ok (.enter g args) w) (hcmp : CmpLays1 Tryz.prog g cb enc cf blk off d.size w) (hH : Holds enc w blk off d) (hblk : blk < w.heap.size) (hsz : d.size < 4611686018427387904) (hT : ∀ x y, (ltOf cf) x y = false → (ltOf cf) y x = false → x = y) :
  Calls Tryz.prog 247 #[.slice (some ⟨blk, off, none⟩) d.size cap, .func (.func g) #[] cb] w fun e w' =>
   e = .returned (.tuple #[]) ∧ ∃ n os, w' = sortWorld enc w blk off n (d.toList.mergeSort fun x y => !(ltOf cf) y x).toArray os := Any.slices_SortFunc_total Tryz.laysSlF6_f247 enc h1 cf hO g cb blk off cap d w eg hcmp hH hblk hsz hT
open Go.RowKit Go.Lib Go.Sort in
theorem Tryz.slices_SortFunc_total_f37 {α : Type} [Inhabited α] (k : Nat) (aE : ∀ w, (isAgg 51).run Tryz.prog w = .ok true w) (zE : ∀ w, (Go.sizeOf 51).run Tryz.prog w = .ok k w) (enc : α → List Value) (hk : ∀ x, (enc x).length = k) (h1 : ∀ x, ∀ v ∈ enc x, v.oneCell' = true) (cf : α → α → Int) (hO : SWO (ltOf cf)) (g : Nat) (cb : Array Value) (blk off cap : Nat) (d : Array α) (w : World) (eg : ∀ args w, (callFunc g args).run Tryz.prog w = .ok (.enter g args) w) (hcmp : CmpLays Tryz.prog g cb enc k cf blk off d.size w) (hH : HoldsK enc k w blk off d) (hblk : blk < w.heap.size) (hsz : d.size < 4611686018427387904) (hT : ∀ x y, (ltOf cf) x y = false → (ltOf cf) y x = false → x = y) :
  Calls Tryz.prog 37 #[.slice (some ⟨blk, off, none⟩) d.size cap, .func (.func g) #[] cb] w fun e w' =>
   e = .returned (.tuple #[]) ∧ ∃ n os, w' = sortWorldK enc k w blk off n (d.toList.mergeSort fun x y => !(ltOf cf) y x).toArray os := AnyQ.slices_SortFunc_total Tryz.laysSlF06_f37 k aE zE enc hk h1 cf hO g cb blk off cap d w eg hcmp hH hblk hsz hT
def Tryz.layContB_ren : Go.Shelf.Ren := ⟨fun | 31 => 184 | 29 => 205 | n => n, fun | 22 => 88 | 23 => 4 | 4 => 4 | 3 => 3 | 0 => 0 | n => n, fun | n => n⟩
theorem Tryz.layContB : Go.Proofs.SlLaysE.n31 Tryz.prog Tryz.layContB_ren := {
 mixed := by kernel_rfl
 f29 := ⟨Tryz.f205.name, by decide, Tryz.func205.trans (congrArg some (by kernel_rfl))⟩
 f31 := ⟨Tryz.f184.name, by decide, Tryz.func184.trans (congrArg some (by kernel_rfl))⟩
 t0 := Tryz.underlying0
 a0 := Tryz.isAgg0
 z0 := Tryz.sizeOf0
 v0 := Tryz.zeroValue0
 t3 := Tryz.underlying3
 a3 := Tryz.isAgg3
 z3 := Tryz.sizeOf3
 v3 := Tryz.zeroValue3
 t4 := Tryz.underlying4
 a4 := Tryz.isAgg4
 z4 := Tryz.sizeOf4
 v4 := Tryz.zeroValue4
 t22 := Tryz.underlying88
 a22 := Tryz.isAgg88
 z22 := Tryz.sizeOf88
 v22 := Tryz.zeroValue88
 a23 := Tryz.isAgg4
 z23 := Tryz.sizeOf4 }
def Tryz.laySortB_ren : Go.Shelf.Ren := ⟨fun | 6 => 64 | 15 => 69 | 14 => 91 | 28 => 100 | 29 => 101 | 20 => 121 | 21 => 122 | 22 => 123 | 23 => 124 | 24 => 125 | 25 => 126 | 26 => 127 | 27 => 128 | 46 => 144 | 47 => 130 | 48 => 131 | 49 => 145 | 50 => 146 | 57 => 150 | n => n, fun | 22 => 127 | 24 => 28 | 25 => 129 | 3 => 3 | 39 => 96 | 0 => 0 | 53 => 184 | 55 => 150 | 4 => 4 | 46 => 178 | 45 => 177 | 50 => 66 | 5 => 5 | 9 => 9 | 66 => 216 | 70 => 220 | 76 => 234 | 77 => 235 | n => n, fun | n => n⟩
theorem Tryz.laySortB : Go.Proofs.SlLaysF.n6 Tryz.prog Tryz.laySortB_ren := {
 mixed := by kernel_rfl
 f6 := ⟨Tryz.f64.name, by decide, Tryz.func64.trans (congrArg some (by kernel_rfl))⟩
 f14 := ⟨Tryz.f91.name, by decide, Tryz.func91.trans (congrArg some (by kernel_rfl))⟩
 f15 := Tryz.func69.trans (congrArg some (by kernel_rfl))
 f20 := ⟨Tryz.f121.name, by decide, Tryz.func121.trans (congrArg some (by kernel_rfl))⟩
 f21 := ⟨Tryz.f122.name, by decide, Tryz.func122.trans (congrArg some (by kernel_rfl))⟩
 f22 := ⟨Tryz.f123.name, by decide, Tryz.func123.trans (congrArg some (by kernel_rfl))⟩
 f23 := ⟨Tryz.f124.name, by decide, Tryz.func124.trans (congrArg some (by kernel_rfl))⟩
 f24 := ⟨Tryz.f125.name, by decide, Tryz.func125.trans (congrArg some (by kernel_rfl))⟩
 f25 := ⟨Tryz.f126.name, by decide, Tryz.func126.trans (congrArg some (by kernel_rfl))⟩
 f26 := ⟨Tryz.f127.name, by decide, Tryz.func127.trans (congrArg some (by kernel_rfl))⟩
 f27 := ⟨Tryz.f128.name, by decide, Tryz.func128.trans (congrArg some (by kernel_rfl))⟩
 f28 := Tryz.func100.trans (congrArg some (by kernel_rfl))
 f29 := Tryz.func101.trans (congrArg some (by kernel_rfl))
 f46 := ⟨Tryz.f144.name, by decide, Tryz.func144.trans (congrArg some (by kernel_rfl))⟩
 f47 := Tryz.func130.trans (congrArg some (by kernel_rfl))
 f48 := Tryz.func131.trans (congrArg some (by kernel_rfl))
 f49 := ⟨Tryz.f145.name, by decide, Tryz.func145.trans (congrArg some (by kernel_rfl))⟩
 f50 := ⟨Tryz.f146.name, by decide, Tryz.func146.trans (congrArg some (by kernel_rfl))⟩
 f57 := ⟨Tryz.f150.name, by decide, Tryz.func150.trans (congrArg some (by kernel_rfl))⟩
 t0 := Tryz.underlying0
 a0 := Tryz.isAgg0
 z0 := Tryz.sizeOf0
 v0 := Tryz.zeroValue0
 t3 := Tryz.underlying3
 a3 := Tryz.isAgg3
 z3 := Tryz.sizeOf3
 v3 := Tryz.zeroValue3
 t4 := Tryz.underlying4
 a4 := Tryz.isAgg4
 z4 := Tryz.sizeOf4
 v4 := Tryz.zeroValue4
 t5 := Tryz.underlying5
 a5 := Tryz.isAgg5
 z5 := Tryz.sizeOf5
 v5 := Tryz.zeroValue5
 t9 := Tryz.underlying9
 a9 := Tryz.isAgg9
 z9 := Tryz.sizeOf9
 v9 := Tryz.zeroValue9
 t22 := Tryz.underlying127
 a22 := Tryz.isAgg127
 z22 := Tryz.sizeOf127
 v22 := Tryz.zeroValue127
 a24 := Tryz.isAgg28
 z24 := Tryz.sizeOf28
 t25 := Tryz.underlying129
 a25 := Tryz.isAgg129
 z25 := Tryz.sizeOf129
 v25 := Tryz.zeroValue129
 t39 := Tryz.underlying96
 a39 := Tryz.isAgg96
 z39 := Tryz.sizeOf96
 v39 := Tryz.zeroValue96
 t45 := Tryz.underlying177
 a45 := Tryz.isAgg177
 z45 := Tryz.sizeOf177
 v45 := Tryz.zeroValue177
 t46 := Tryz.underlying178
 a46 := Tryz.isAgg178
 z46 := Tryz.sizeOf178
 v46 := Tryz.zeroValue178
 t50 := Tryz.underlying66
 a50 := Tryz.isAgg66
 z50 := Tryz.sizeOf66
 v50 := Tryz.zeroValue66
 t53 := Tryz.underlying184
 a53 := Tryz.isAgg184
 z53 := Tryz.sizeOf184
 v53 := Tryz.zeroValue184
 t55 := Tryz.underlying150
 a55 := Tryz.isAgg150
 z55 := Tryz.sizeOf150
 v55 := Tryz.zeroValue150
 t66 := Tryz.underlying216
 a66 := Tryz.isAgg216
 z66 := Tryz.sizeOf216
 v66 := Tryz.zeroValue216
 t70 := Tryz.underlying220
 a70 := Tryz.isAgg220
 z70 := Tryz.sizeOf220
 v70 := Tryz.zeroValue220
 t76 := Tryz.underlying234
 a76 := Tryz.isAgg234
 z76 := Tryz.sizeOf234
 v76 := Tryz.zeroValue234
 t77 := Tryz.underlying235
 a77 := Tryz.isAgg235
 z77 := Tryz.sizeOf235
 v77 := Tryz.zeroValue235 }
def Tryz.layCloneB_ren : Go.Shelf.Ren := ⟨fun | 41 => 63 | n => n, fun | 22 => 127 | 23 => 28 | 4 => 4 | n => n, fun | n => n⟩
theorem Tryz.layCloneB : Go.Proofs.SlLaysE0.n41 Tryz.prog Tryz.layCloneB_ren := {
 mixed := by kernel_rfl
 f41 := ⟨Tryz.f63.name, by decide, Tryz.func63.trans (congrArg some (by kernel_rfl))⟩
 t4 := Tryz.underlying4
 a4 := Tryz.isAgg4
 z4 := Tryz.sizeOf4
 v4 := Tryz.zeroValue4
 t22 := Tryz.underlying127
 a22 := Tryz.isAgg127
 z22 := Tryz.sizeOf127
 v22 := Tryz.zeroValue127 }
end Go.Proofs
namespace Go.Proofs.YtagjdkkfmfombaaGreat
open Go Go.RowKit
theorem int_size : (Tryz.prog.info? 3).map (·.size) = some 1 := by kernel_rfl
theorem mul_one_any (n : Nat) (hn : n ≤ 100000) (w : World) :
  Calls Tryz.prog 109 #[.int .u64 1, .int .u64 n] w fun e w' => e = .returned (.tuple #[.int .u64 0, .int .u64 n]) ∧ w = w' := by
 refine (Tryz.bits_Mul 1 n (by omega) (by omega) w).mono ?_
 rintro e w' ⟨rfl, rfl⟩
 refine ⟨?_, rfl⟩
 rw [Nat.one_mul, Nat.div_eq_of_lt (by omega), Nat.mod_eq_of_lt (by omega)]
 rfl
def RetRow (w : World) (xs : List Int) (e : Ending) (w' : World) : Prop :=
 ∃ g, e = .returned (.slice (some ⟨g, 0, none⟩) xs.length xs.length) ∧ w.heap.size ≤ g ∧ Row w' g 3 1 xs.length (xs.map (Value.int .i64)) ∧ Below w.heap.size w w'
set_option maxHeartbeats 1000000 in
theorem repeat_walk (b c : Nat) (x : Int) (n : Nat) (w : World) (h0 : w.cell? ⟨b, 0, none⟩ = some (.int .i64 x)) (hn : n ≤ 100000) :
  Calls Tryz.prog 81 #[.slice (some ⟨b, 0, none⟩) 1 c, .int .i64 n] w (RetRow w (List.replicate n x)) := by
 have hmk := run_make_row' (P := Tryz.prog) 25 3 (.int .i64 0) 8 Tryz.underlying25 int_info rfl .i64 .i64 n (by omega) (by omega)
 have hn0 : (0 : Int) ≤ (n : Int) := by omega
 have hmin : Nat.min 1 n ≤ n ∧ (0 < n → Nat.min 1 n = 1) := by constructor <;> (simp only [Nat.min_def]; split <;> omega)
 obtain ⟨cs, hcs⟩ : ∃ cs, cs = List.replicate (Nat.min 1 n) (Value.int .i64 x) := ⟨_, rfl⟩
 have hcl : cs.length = Nat.min 1 n := by rw [hcs]; simp
 have hcx : ∀ j v, cs[j]? = some v → j = 0 ∧ v = Value.int .i64 x := by
  intro j v h
  rw [hcs] at h
  obtain ⟨h1, h2⟩ := List.getElem?_eq_some_iff.1 h
  simp at h1 h2
  refine ⟨?_, h2.symm⟩
  have := h1; omega
 have hlb := World.block_lt_of_cell? w _ h0
 have hcl0 : cs.length ≤ n := by omega
 have Hcl := Lib.hid hcl; have Hcs := Lib.hid hcs; have Hcx := Lib.hid hcx; have Hmin := Lib.hid hmin
 clear hcl hcs hcx hmin
 go_enter Tryz.func81, Tryz.ntmps81
 go_wp2_with (first
  | (go_at_call 109; refine (mul_one_any n hn _).mono ?_; rintro e w' ⟨rfl, rfl⟩)
  | (with_reducible refine wpList_copy_row rfl (.tmp 31) (.tmp 32) 25 25 rfl 3 Tryz.underlying25 int_size _ _ _ _ _ _ rfl rfl w.heap.size 0 n (List.replicate n (.int .i64 0)) ?hr cs ?hn ?hp ?hf ?h1 ?_))
 case hr => exact row_made _ _ _ _ (by unfold maxLen; omega)
 case hn => exact Hcl.out
 case hf => have := Hcl.out; have := Hmin.out; simp; omega
 case h1 =>
  intro v hv
  obtain ⟨j, hj, hv⟩ := List.getElem_of_mem hv
  rw [(Hcx.out j v (by rw [← hv]; simp)).2]; rfl
 case hp =>
  intro hpos j v hj
  obtain ⟨rfl, rfl⟩ := Hcx.out j v hj
  exact h0
 intro w1 hrow hgr
 have hvl1 : (spliced (List.replicate n (Value.int .i64 0)) 0 cs).length = n := by rw [spliced_length (by simp; omega)]; simp
 have hvx1 : ∀ j, j < cs.length → (spliced (List.replicate n (Value.int .i64 0)) 0 cs)[j]? = some (.int .i64 x) := by
  intro j hj
  have := Hcl.out
  simp only [spliced, List.take_zero, List.nil_append]
  rw [List.getElem?_append_left hj, Hcs.out, List.getElem?_replicate, if_pos (by rw [← Hcl.out]; exact hj)]
 have Hvl1 := Lib.hid hvl1; have Hvx1 := Lib.hid hvx1; clear hvl1 hvx1
 go_wp2_with fail
 go_loopg [8] (n - cs.length) (fun r i wr => ∃ (k : Nat) (vs : List Value), k ≤ n ∧ r = n - k ∧ i = .int .i64 k ∧ (0 < n → 0 < k) ∧ vs.length = n ∧ (∀ j, j < k → vs[j]? = some (.int .i64 x)) ∧
  Row wr w.heap.size 3 1 n vs ∧ Below w.heap.size w wr)
 case atStart =>
  have h1 := Hmin.out; have h2 := Hcl.out
  exact ⟨cs.length, _, hcl0, rfl, rfl, by omega, Hvl1.out, Hvx1.out, hrow, ((Below.refl _ _).alloc (Nat.le_refl _) _).grown hgr (by simp) (fun k hk => by cases hk; exact Nat.le_refl _)⟩
 case round =>
  obtain ⟨k, vs, hk, hgk, rfl, hpos, hvl, hvx, hrow, hb⟩ := hrel
  by_cases hlt : k < n
  ·
   obtain ⟨m, hm⟩ : ∃ m, m = Nat.min k (n - k) := ⟨_, rfl⟩
   have hm1 : m ≤ k := by rw [hm]; exact Nat.min_le_left _ _
   have hm2 : m ≤ n - k := by rw [hm]; exact Nat.min_le_right _ _
   have hm3 : 0 < m := by rw [hm]; exact Nat.lt_min.2 ⟨hpos (by omega), by omega⟩
   obtain ⟨ds, hds⟩ : ∃ ds, ds = List.replicate m (Value.int .i64 x) := ⟨_, rfl⟩
   have hdl : ds.length = m := by rw [hds]; simp
   have hdx : ∀ j v, ds[j]? = some v → j < m ∧ v = Value.int .i64 x := by
    intro j v h; rw [hds] at h; obtain ⟨h1, h2⟩ := List.getElem?_eq_some_iff.1 h; simp at h1 h2; exact ⟨h1, h2.symm⟩
   have hd0 : ds.length ≤ n - k := by omega
   have hck : ¬ n = k := by omega
   have hi1 : (k : Int) < (n : Int) := by omega
   have hi2 : (k : Int) ≤ (n : Int) := by omega
   have hi3 : (0 : Int) ≤ (k : Int) := by omega
   have i1 : IntKind.i64.wrap ((k : Int) + (ds.length : Int)) = (k : Int) + (ds.length : Int) := IntWalk.i64_in _ (by omega); have Hm := Lib.hid hm; have Hdl := Lib.hid hdl; have Hds := Lib.hid hds; have Hdx := Lib.hid hdx; have Hvl := Lib.hid hvl; have Hvx := Lib.hid hvx; have Hgk := Lib.hid hgk; have Hm3 := Lib.hid hm3; clear hm hdl hdx hds hvl hvx hgk hm3; go_wp2_with fail; go_region_held3 (fun w' => True) (first | trivial | go_keep)
    (first | (refine step_copy_row rfl (.tmp 41) (.tmp 44) 25 25 rfl 3 Tryz.underlying25 int_size (some ⟨w.heap.size, k, none⟩) (some ⟨w.heap.size, 0, none⟩) (n - k) (n - k) k n (by simp [Act.eval, Act.put, hck]) (by simp [Act.eval, Act.put]) w.heap.size k n vs hrow ds (by rw [Hdl.out]; exact Hm.out) (fun _ => ⟨rfl, _, rfl, fun j v hj => by obtain ⟨h1, rfl⟩ := Hdx.out j v hj; rw [Addr.add_lit, Nat.zero_add]; exact (hrow.cell? j (by rw [Hvl.out]; omega)).trans (Hvx.out j (by omega))⟩) (by rw [Hvl.out]; omega) (fun v hv => by obtain ⟨j, hj, hv⟩ := List.getElem_of_mem hv; rw [(Hdx.out j v (by rw [← hv]; simp)).2]; rfl) ?_; intro w2 hrow2 hgr2))
   go_wp2_with fail; go_roundg (n - (k + ds.length))
   case measure => have := Hgk.out; have := Hdl.out; have := Hm3.out; omega
   case rel =>
    have hdl := Hdl.out; refine ⟨k + ds.length, spliced vs k ds, by omega, rfl, by go_num, by omega, ?_, ?_, hrow2, hb.drew.grown hgr2 hb.size (fun k hk => by cases hk; exact Nat.le_refl _)⟩
    · rw [spliced_length (by rw [Hvl.out]; omega)]; exact Hvl.out
    ·
     intro j hj; unfold spliced; by_cases hjk : j < k
     ·
      rw [List.getElem?_append_left (by simp [Hvl.out]; omega), List.getElem?_take, if_pos hjk]; exact Hvx.out j hjk
     ·
      rw [List.getElem?_append_right (by simp [Hvl.out]; omega)]; rw [List.length_take, Hvl.out, Nat.min_eq_left hk]; rw [List.getElem?_append_left (by omega), Hds.out, List.getElem?_replicate, if_pos (by omega)]
  ·
   go_wp2_with fail; go_ret; have hkn : k = n := by omega
   have hvs : vs = List.replicate n (Value.int .i64 x) := by
    apply List.ext_getElem?; intro j; rw [List.getElem?_replicate]; split
    · exact hvx j (by omega)
    · rw [List.getElem?_eq_none (by omega)]
   exact ⟨w.heap.size, by simp, Nat.le_refl _, by rw [hvs] at hrow; simpa using hrow, hb⟩
end Go.Proofs.YtagjdkkfmfombaaGreat
namespace Go.Proofs.YtagjdkkfmfombaaGreat
open Go
section
variable {P : Program} {md : Region.Mode} {ops : Array Oper} {Q : Exit → Act → World → Prop} {S : World → Prop} {N : Nat}
def anyT (P : Program) (md : Region.Mode) (ops : Array Oper) (Q : Exit → Act → World → Prop) (S : World → Prop) (N : Nat) : Nat → Array Bool → Act → World → Prop
 | 0, listed, a, w => Region.ready md ops listed = [] ∧ Q .normal a w
 | fuel + 1, listed, a, w => (Region.ready md ops listed = [] → Q .normal a w) ∧
   ∀ i ∈ Region.ready md ops listed, wpOp P ops Q i (fun a' w' => (i < N → S w') ∧ anyT P md ops Q S N fuel (listed.setIfInBounds i true) a' w') a w
theorem any_of_anyT : ∀ (fuel : Nat) (listed : Array Bool) (a : Act) (w : World), anyT P md ops Q S N fuel listed a w → wpAny P md ops Q fuel listed a w
 | 0, _, _, _, h => h
 | fuel + 1, _, _, _, h => ⟨h.1, fun i hi => wpOp_mono (fun _ _ h' => any_of_anyT fuel _ _ _ h'.2) (h.2 i hi)⟩
def closedT (md : Region.Mode) (ops : Array Oper) (listed : Array Bool) : Prop :=
 ∀ (j : Nat) (o : Oper), ops[j]? = some o → listed.getD j false = true → ∀ e ∈ o.after, Region.binds md e = true → listed.getD e.on false = true
def waitsB (md : Region.Mode) (ops : Array Oper) (i : Nat) : Nat → Nat → Bool
 | 0, _ => false
 | f + 1, j => match ops[j]? with
  | some o => o.after.any fun e => Region.binds md e && (e.on == i || waitsB md ops i f e.on)
  | none => false
theorem waits_spec {listed : Array Bool} (hc : closedT md ops listed) {i : Nat} : ∀ (f j : Nat), waitsB md ops i f j = true →
  (∀ (o : Oper), ops[j]? = some o → ∀ e ∈ o.after, Region.binds md e = true → listed.getD e.on false = true) → listed.getD i false = true := by
 intro f
 induction f with
 | zero => intro j h; simp [waitsB] at h
 | succ f ih =>
  intro j h hall
  unfold waitsB at h
  split at h
  ·
   rename_i o ho; obtain ⟨e, he, h2⟩ := Array.any_eq_true'.1 h; simp only [Bool.and_eq_true, Bool.or_eq_true, beq_iff_eq] at h2; obtain ⟨hb, h3⟩ := h2; have hl := hall o ho e he hb; rcases h3 with h3 | h3
   · rw [← h3]; exact hl
   · exact ih e.on h3 fun o' ho' e' he' hb' => hc e.on o' ho' hl e' he' hb'
  · cases h
def tailB (md : Region.Mode) (ops : Array Oper) (N : Nat) : Bool :=
 (List.range ops.size).all fun j => decide (j < N) || (List.range N).all fun i => waitsB md ops i ops.size j
theorem tail_late {listed : Array Bool} (ht : tailB md ops N = true) (hc : closedT md ops listed) {j : Nat} (hj : j ∈ Region.ready md ops listed) (hN : N ≤ j) {i : Nat} (hi : i < N) :
  listed.getD i false = true := by
 obtain ⟨h0, o, ho, hall⟩ := mem_ready.1 hj
 have hjs : j < ops.size := (Array.getElem?_eq_some_iff.1 ho).1
 have h1 := List.all_eq_true.1 ht j (List.mem_range.2 hjs)
 simp only [Bool.or_eq_true, decide_eq_true_eq] at h1
 have h2 := List.all_eq_true.1 (h1.resolve_left (by omega)) i (List.mem_range.2 hi)
 refine waits_spec hc _ _ h2 fun o' ho' => ?_
 rw [ho] at ho'
 cases ho'
 exact hall
theorem closed_set {listed : Array Bool} (hc : closedT md ops listed) {j : Nat} (hj : j ∈ Region.ready md ops listed) : closedT md ops (listed.setIfInBounds j true) := by
 intro k o ho hk e he hb
 obtain ⟨h0, oj, hoj, hall⟩ := mem_ready.1 hj
 by_cases hjk : j = k
 ·
  subst hjk
  rw [hoj] at ho; cases ho
  exact getD_set_true (hall e he hb)
 ·
  rw [getD_set_ne false hjk] at hk
  exact getD_set_true (hc k o ho hk e he hb)
theorem getD_clash {listed : Array Bool} {i : Nat} (h1 : listed.getD i true = false) (h2 : listed.getD i false = true) : False := by
 rcases Nat.lt_or_ge i listed.size with h' | h'
 · simp [h'] at h1 h2; rw [h1] at h2; cases h2
 · simp [Array.getElem?_eq_none h'] at h2
theorem anyT_first {i : Nat} {oi : Oper} {v : Value} (hi : ops[i]? = some oi) (hsel : ∀ (j : Nat) (o : Oper) cs b, ops[j]? = some o → o.op ≠ .select cs b)
  (hQ : ∀ c a w, Q (.panic c) (a.put oi.dst v) w → Q (.panic c) a w) (hiN : i < N) (ht : tailB md ops N = true) :
  ∀ (fuel : Nat) (listed : Array Bool) (a : Act) (w : World), closedT md ops listed →
   (∀ j oj, ops[j]? = some oj → j ≠ i → listed.getD j true = false → (∀ e ∈ oj.after, Region.binds md e = true → e.on ≠ i) → oi.apart ops oj = true) →
   i ∈ Region.ready md ops listed → YieldsIf P ops S oi v a → S w →
   anyT P md ops Q S N fuel (listed.setIfInBounds i true) (a.put oi.dst v) w → anyT P md ops Q S N (fuel + 1) listed a w := by
 intro fuel
 induction fuel with
 | zero =>
  intro listed a w hc _ hr hy hS H
  refine ⟨fun h => (by rw [h] at hr; cases hr), fun j hj => ?_⟩
  by_cases hji : j = i
  · subst hji; exact hy.wpOp hi hS ⟨fun _ => hS, H⟩
  ·
   have := ready_mono hj hji; rw [H.1] at this; cases this
 | succ fuel ih =>
  intro listed a w hc hfree hr hy hS H
  refine ⟨fun h => (by rw [h] at hr; cases hr), fun j hj => ?_⟩
  by_cases hji : j = i
  · subst hji; exact hy.wpOp hi hS ⟨fun _ => hS, H⟩
  ·
   have h1 := H.2 j (ready_mono hj hji); obtain ⟨hjun, oj, hoj, hall⟩ := mem_ready.1 hj; have hnot : ∀ e ∈ oj.after, Region.binds md e = true → e.on ≠ i := fun e he hb heq =>
    getD_clash (mem_ready.1 hr).1 (heq ▸ hall e he hb)
   have hjN : j < N := by
    rcases Nat.lt_or_ge j N with h | h
    · exact h
    · exact (getD_clash (mem_ready.1 hr).1 (tail_late ht hc hj h hiN)).elim
   have h2 := wpOp_putIf hoj (hfree j oj hoj hji hjun hnot) (fun cs b => hsel i oi cs b hi) (fun cs b => hsel j oj cs b hoj) hQ hy h1; have hfree' : ∀ k ok, ops[k]? = some ok → k ≠ i → (listed.setIfInBounds j true).getD k true = false →
     (∀ e ∈ ok.after, Region.binds md e = true → e.on ≠ i) → oi.apart ops ok = true := fun k ok hk hki hun hno => by
    refine hfree k ok hk hki ?_ hno; by_cases hjk : j = k
    · subst hjk; exact hjun
    · rw [getD_set_ne true hjk] at hun; exact hun
   refine wpOp_mono (fun a' w' h3 => ⟨h3.2.1, ih (listed.setIfInBounds j true) a' w' (closed_set hc hj) hfree' (ready_mono hr (Ne.symm hji)) h3.1 (h3.2.1 hjN) ?_⟩) h2; rw [Array.setIfInBounds_comm _ _ hji]; exact h3.2.2
def closedB (md : Region.Mode) (ops : Array Oper) (listed : Array Bool) : Bool :=
 (List.range ops.size).all fun j => !listed.getD j false || ((ops[j]?).map fun o => o.after.all fun e => !Region.binds md e || listed.getD e.on false).getD true
theorem closed_spec {listed : Array Bool} (h : closedB md ops listed = true) : closedT md ops listed := by
 intro j o ho hj e he hb
 have hjs : j < ops.size := (Array.getElem?_eq_some_iff.1 ho).1
 have h1 := List.all_eq_true.1 h j (List.mem_range.2 hjs)
 simp only [hj, ho, Option.map_some, Option.getD_some, Bool.not_true, Bool.false_or] at h1
 have h2 := (Array.all_eq_true_iff_forall_mem.1 h1) e he
 simp only [hb, Bool.not_true, Bool.false_or] at h2
 exact h2
end
section
variable {P : Program} {md : Region.Mode} {l : List Oper} {Q : Exit → Act → World → Prop} {S : World → Prop} {N : Nat}
theorem takeT {i : Nat} {oi : Oper} {v : Value} {fuel : Nat} {listed : Array Bool} {a : Act} {w : World} (hi : l[i]? = some oi)
  (hB : (Region.noSelect l.toArray && Region.free md l.toArray listed i && (Region.ready md l.toArray listed).contains i && tailB md l.toArray N && closedB md l.toArray listed && decide (i < N)) = true)
  (hQ : ∀ c a w, Q (.panic c) (a.put oi.dst v) w → Q (.panic c) a w) (hy : YieldsIf P l.toArray S oi v a) (hS : S w)
  (h : anyT P md l.toArray Q S N fuel (listed.setIfInBounds i true) (a.put oi.dst v) w) : anyT P md l.toArray Q S N (fuel + 1) listed a w := by
 simp only [Bool.and_eq_true, decide_eq_true_eq] at hB
 obtain ⟨⟨⟨⟨⟨hs, hf⟩, hr⟩, ht⟩, hc⟩, hN⟩ := hB
 have hi' : l.toArray[i]? = some oi := by simpa using hi
 exact anyT_first hi' (Region.noSelect_spec hs) hQ hN ht fuel listed a w (closed_spec hc) (Region.free_spec hi' hf) (by simpa using hr) hy hS h
theorem oneT {i : Nat} {oi : Oper} {fuel : Nat} {listed : Array Bool} {a : Act} {w : World} (hi : l[i]? = some oi) (hr : (Region.ready md l.toArray listed == [i]) = true)
  (h : ∀ K : Act → World → Prop, (∀ a w, (i < N → S w) → anyT P md l.toArray Q S N fuel (listed.setIfInBounds i true) a w → K a w) →
   if Region.wanted oi (yielded l.toArray a.tmps) = true then Oper.wp P oi a w K Q else K (a.put oi.dst undef) w) : anyT P md l.toArray Q S N (fuel + 1) listed a w := by
 have hr' := beq_iff_eq.1 hr
 refine ⟨fun h0 => absurd (hr' ▸ h0) (by simp), fun j hj => ?_⟩
 rw [hr'] at hj
 obtain rfl : j = i := by simpa using hj
 exact wpOp_step (by simpa using hi) fun K hK => h K fun a w hS hW => hK a w ⟨hS, hW⟩
theorem doneT {listed : Array Bool} {a : Act} {w : World} (hr : (Region.ready md l.toArray listed == []) = true) (h : Q .normal a w) : ∀ fuel, anyT P md l.toArray Q S N fuel listed a w
 | 0 => ⟨beq_iff_eq.1 hr, h⟩
 | _ + 1 => ⟨fun _ => h, by rw [beq_iff_eq.1 hr]; simp⟩
theorem regionT {id : Nat} {a : Act} {w : World} (S : World → Prop) (N : Nat) (hm : P.follows .mixedOrders = true)
  (h : anyT P .any l.toArray Q S N l.length (Array.replicate l.length false) a w.drew) : (Code.region id l.toArray true).wp P Q a w :=
 wp_region_any hm (any_of_anyT _ _ _ _ (by simpa using h))
end
theorem zT : (∀ (l : List Value) (i : Nat) (a : Value), l.toArray.setIfInBounds i a = (l.set i a).toArray) ∧ (∀ (x : Value) (xs : List Value) (b : Value), (x :: xs).set 0 b = b :: xs) ∧ (∀ (x : Value) (xs : List Value) (b : Value) (n : Nat), (x :: xs).set (n + 1) b = x :: xs.set n b) := ⟨fun _ _ _ => List.setIfInBounds_toArray .., fun _ _ _ => rfl, fun _ _ _ _ => rfl⟩
theorem tkT {P : Program} {md : Region.Mode} {l : List Oper} {Q : Exit → Act → World → Prop} {S : World → Prop} {N : Nat} {oi : Oper} {fuel : Nat} {listed : Array Bool} {a : Act} {w : World} (i : Nat) (v : Value) (hi : l[i]? = some oi) (hS : S w)
 (h2 : ∀ w, S w → (execOp a.eval oi).run P w = .ok (.value v) w)
 (h : anyT P md l.toArray Q S N fuel (listed.setIfInBounds i true) (a.put oi.dst v) w)
 (hB : (Region.noSelect l.toArray && Region.free md l.toArray listed i && (Region.ready md l.toArray listed).contains i && tailB md l.toArray N && closedB md l.toArray listed && decide (i < N)) = true)
 (hQ : ∀ c a w, Q (.panic c) (a.put oi.dst v) w → Q (.panic c) a w) (h1 : Region.wanted oi (yielded l.toArray a.tmps) = true) : anyT P md l.toArray Q S N (fuel + 1) listed a w := takeT hi hB hQ (Or.inl ⟨h1, h2⟩) hS h
theorem tkU {P : Program} {md : Region.Mode} {l : List Oper} {Q : Exit → Act → World → Prop} {S : World → Prop} {N : Nat} {oi : Oper} {fuel : Nat} {listed : Array Bool} {a : Act} {w : World} (i : Nat) (hi : l[i]? = some oi) (hS : S w)
 (h1 : Region.wanted oi (yielded l.toArray a.tmps) = false)
 (h : anyT P md l.toArray Q S N fuel (listed.setIfInBounds i true) (a.put oi.dst undef) w)
 (hB : (Region.noSelect l.toArray && Region.free md l.toArray listed i && (Region.ready md l.toArray listed).contains i && tailB md l.toArray N && closedB md l.toArray listed && decide (i < N)) = true)
 (hQ : ∀ c a w, Q (.panic c) (a.put oi.dst undef) w → Q (.panic c) a w) : anyT P md l.toArray Q S N (fuel + 1) listed a w := takeT hi hB hQ (Or.inr ⟨h1, rfl⟩) hS h
end Go.Proofs.YtagjdkkfmfombaaGreat
