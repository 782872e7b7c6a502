/- Facts that the claim rests on, part 2. -/
import Derived.Test.YtagcbnpahgfgmaaGreatKO00
namespace Go.Proofs.YtagcbnpahgfgmaaGreat
def closeStep (n : Nat) (bs : Nat → List Nat) (S : List Nat) : List Nat := (List.range n).filter fun j => S.contains j || S.any fun i => (bs i).contains j
def closeN (n : Nat) (bs : Nat → List Nat) (S : List Nat) : Nat → List Nat
 | 0 => S
 | k + 1 => closeStep n bs (closeN n bs S k)
def compC (n : Nat) (bs : Nat → List Nat) (i : Nat) : List Nat := closeN n bs [i] n
theorem mem_closeStep {n : Nat} {bs : Nat → List Nat} {S : List Nat} {j : Nat} : j ∈ closeStep n bs S ↔ j < n ∧ (j ∈ S ∨ ∃ i ∈ S, j ∈ bs i) := by
 unfold closeStep
 simp only [List.mem_filter, List.mem_range, Bool.or_eq_true, List.contains_iff_mem, List.any_eq_true]
theorem closeN_lt {n : Nat} {bs : Nat → List Nat} {i : Nat} (hi : i < n) (k : Nat) : ∀ j ∈ closeN n bs [i] k, j < n := by
 cases k with
 | zero => intro j hj; simp only [closeN, List.mem_cons, List.not_mem_nil, or_false] at hj; omega
 | succ k => intro j hj; exact (mem_closeStep.1 hj).1
theorem closeN_nodup (n : Nat) (bs : Nat → List Nat) (i k : Nat) : (closeN n bs [i] k).Nodup := by
 cases k with
 | zero => simp [closeN]
 | succ k => exact List.nodup_range.filter _
theorem closeN_self {n : Nat} {bs : Nat → List Nat} {i : Nat} (hi : i < n) (k : Nat) : i ∈ closeN n bs [i] k := by
 induction k with
 | zero => simp [closeN]
 | succ k ih => exact mem_closeStep.2 ⟨hi, .inl ih⟩
theorem closeN_sound {n : Nat} {bs : Nat → List Nat} {i : Nat} (hi : i < n) (k : Nat) : ∀ j ∈ closeN n bs [i] k, Con bs (· < n) i j := by
 induction k with
 | zero => intro j hj; simp only [closeN, List.mem_cons, List.not_mem_nil, or_false] at hj; subst hj; exact .refl hi
 | succ k ih =>
  intro j hj
  obtain ⟨h1, h2 | ⟨a, ha, hb⟩⟩ := mem_closeStep.1 hj
  · exact ih j h2
  · exact (ih a ha).step hb h1
theorem closeN_full {n : Nat} {bs : Nat → List Nat} {i : Nat} (hi : i < n) (k : Nat) :
  (∀ a ∈ closeN n bs [i] k, ∀ b ∈ bs a, b < n → b ∈ closeN n bs [i] k) ∨ k + 1 ≤ (closeN n bs [i] k).length := by
 induction k with
 | zero => right; simp [closeN]
 | succ k ih =>
  by_cases hc : ∀ a ∈ closeN n bs [i] k, ∀ b ∈ bs a, b < n → b ∈ closeN n bs [i] k
  ·
   left; have same : ∀ j, j ∈ closeN n bs [i] (k + 1) ↔ j ∈ closeN n bs [i] k := fun j => by
    constructor
    ·
     intro hj; obtain ⟨h1, h2 | ⟨a, ha, hb⟩⟩ := mem_closeStep.1 hj
     · exact h2
     · exact hc a ha j hb h1
    · intro hj; exact mem_closeStep.2 ⟨closeN_lt hi k j hj, .inl hj⟩
   intro a ha b hb hbn; rw [same] at ha ⊢; exact hc a ha b hb hbn
  ·
   right; have hlen := ih.resolve_left hc; have hex : ∃ a ∈ closeN n bs [i] k, ∃ b ∈ bs a, b < n ∧ b ∉ closeN n bs [i] k := Classical.byContradiction fun hno => hc fun a ha b hb hbn => Classical.byContradiction fun hnb => hno ⟨a, ha, b, hb, hbn, hnb⟩; obtain ⟨a, ha, b, hb, hbn, hnb⟩ := hex; have h1 : (b :: closeN n bs [i] k).Nodup := List.nodup_cons.2 ⟨hnb, closeN_nodup _ _ _ _⟩; have h2 := nodup_len_le (m := closeN n bs [i] (k + 1)) h1 fun x hx => by
    rcases List.mem_cons.1 hx with rfl | hx
    · exact mem_closeStep.2 ⟨hbn, .inr ⟨a, ha, hb⟩⟩
    · exact mem_closeStep.2 ⟨closeN_lt hi k x hx, .inl hx⟩
   simp only [List.length_cons] at h2; omega
theorem mem_compC {n : Nat} {bs : Nat → List Nat} {i : Nat} (hi : i < n) (j : Nat) : j ∈ compC n bs i ↔ Con bs (· < n) i j := by
 constructor
 · exact closeN_sound hi n j
 ·
  intro h
  have hfull : ∀ a ∈ compC n bs i, ∀ b ∈ bs a, b < n → b ∈ compC n bs i := by
   rcases closeN_full (bs := bs) hi n with h1 | h1
   · exact h1
   ·
    exfalso; have := nodup_len_le (m := List.range n) (closeN_nodup n bs i n) fun x hx => List.mem_range.2 (closeN_lt hi n x hx); rw [List.length_range] at this; omega
  exact h.closed (· ∈ compC n bs i) (fun a b ha hb hbn => hfull a ha b hb hbn) (closeN_self hi n)
theorem compC_eq {n : Nat} {bs : Nat → List Nat} (hs : ∀ a b, b ∈ bs a → a ∈ bs b) {i j : Nat} (hi : i < n) (hj : j < n) : compC n bs i = compC n bs j ↔ Con bs (· < n) i j := by
 constructor
 ·
  intro h
  rw [← mem_compC hi, h]; exact closeN_self hj n
 ·
  intro h
  have hm : ∀ a, a ∈ compC n bs i ↔ a ∈ compC n bs j := fun a => by
   rw [mem_compC hi, mem_compC hj]; exact ⟨fun k => (h.symm hs).trans k, fun k => h.trans k⟩
  obtain ⟨m, rfl⟩ : ∃ m, n = m + 1 := ⟨n - 1, by omega⟩
  unfold compC closeN closeStep at hm ⊢
  refine List.filter_congr fun a ha => ?_
  have := hm a
  simp only [List.mem_filter, ha, true_and] at this
  rw [Bool.eq_iff_iff]; exact this
section
variable {α : Type} [DecidableEq α]
def firsts (c : Nat → α) (n : Nat) : List Nat := (List.range n).filter fun i => (List.range i).all fun j => decide (c j ≠ c i)
def ofCol (c : Nat → α) (n : Nat) (x : α) : List Nat := (List.range n).filter fun j => decide (c j = x)
def gIdx (c : Nat → α) (n : Nat) : List (List Nat) := (firsts c n).map fun i => ofCol c n (c i)
theorem mem_firsts {c : Nat → α} {n i : Nat} : i ∈ firsts c n ↔ i < n ∧ ∀ j, j < i → c j ≠ c i := by
 simp [firsts]
theorem mem_ofCol {c : Nat → α} {n j : Nat} {x : α} : j ∈ ofCol c n x ↔ j < n ∧ c j = x := by simp [ofCol]
theorem firsts_succ (c : Nat → α) (n : Nat) : firsts c (n + 1) = firsts c n ++ if (∀ j, j < n → c j ≠ c n) then [n] else [] := by
 unfold firsts
 rw [List.range_succ, List.filter_append]
 congr 1
 by_cases h : ∀ j, j < n → c j ≠ c n
 · rw [if_pos h]; simp; exact h
 ·
  rw [if_neg h]
  simp only [List.filter_cons, List.filter_nil]
  rw [if_neg]
  simpa using h
theorem ofCol_succ (c : Nat → α) (n : Nat) (x : α) : ofCol c (n + 1) x = ofCol c n x ++ if c n = x then [n] else [] := by
 unfold ofCol
 rw [List.range_succ, List.filter_append]
 congr 1
 by_cases h : c n = x <;> simp [h]
theorem firsts_inj {c : Nat → α} {n i j : Nat} (hi : i ∈ firsts c n) (hj : j ∈ firsts c n) (h : c i = c j) : i = j := by
 rw [mem_firsts] at hi hj
 rcases Nat.lt_trichotomy i j with h1 | h1 | h1
 · exact absurd h (hj.2 i h1)
 · exact h1
 · exact absurd h.symm (hi.2 j h1)
theorem firsts_nodup (c : Nat → α) (n : Nat) : (firsts c n).Nodup := List.nodup_range.filter _
theorem gIdx_new (c : Nat → α) (n : Nat) (h : ∀ j, j < n → c j ≠ c n) : gIdx c (n + 1) = gIdx c n ++ [[n]] := by
 unfold gIdx
 rw [firsts_succ, if_pos h, List.map_append, List.map_cons, List.map_nil]
 congr 1
 ·
  refine List.map_congr_left fun i hi => ?_
  rw [ofCol_succ, if_neg, List.append_nil]
  exact fun e => h i (mem_firsts.1 hi).1 e.symm
 ·
  rw [ofCol_succ, if_pos rfl]
  have : ofCol c n (c n) = [] := by
   rw [List.eq_nil_iff_forall_not_mem]; intro j hj; obtain ⟨h1, h2⟩ := mem_ofCol.1 hj; exact h j h1 h2
  rw [this]; rfl
theorem gIdx_old (c : Nat → α) (n p i : Nat) (hp : (firsts c n)[p]? = some i) (hc : c i = c n) : gIdx c (n + 1) = (gIdx c n).set p (ofCol c n (c n) ++ [n]) := by
 have hi := List.mem_of_getElem? hp
 have hold : ¬ ∀ j, j < n → c j ≠ c n := fun h => h i (mem_firsts.1 hi).1 hc
 unfold gIdx
 rw [firsts_succ, if_neg hold, List.append_nil]
 apply List.ext_getElem?
 intro q
 rw [List.getElem?_set, List.getElem?_map, List.length_map, List.getElem?_map]
 have hpl : p < (firsts c n).length := (List.getElem?_eq_some_iff.1 hp).1
 by_cases e : p = q
 ·
  subst e
  rw [if_pos rfl, if_pos hpl, hp]
  simp only [Option.map_some]
  rw [ofCol_succ, if_pos hc.symm, hc]
 ·
  rw [if_neg e]
  cases hq : (firsts c n)[q]? with
  | none => rfl
  | some j =>
   simp only [Option.map_some]; rw [ofCol_succ, if_neg, List.append_nil]; intro e2; have hji := firsts_inj (List.mem_of_getElem? hq) hi (e2.symm.trans hc.symm); subst hji; exact e ((List.getElem?_inj hpl (firsts_nodup c n)).1 (hp.trans hq.symm))
theorem gIdx_get (c : Nat → α) (n p i : Nat) (hp : (firsts c n)[p]? = some i) : (gIdx c n)[p]? = some (ofCol c n (c i)) := by
 unfold gIdx; rw [List.getElem?_map, hp]; rfl
theorem gIdx_length (c : Nat → α) (n : Nat) : (gIdx c n).length = (firsts c n).length := by simp [gIdx]
theorem firsts_length_le (c : Nat → α) (n : Nat) : (firsts c n).length ≤ n := by
 have := List.length_filter_le (fun i => (List.range i).all fun j => decide (c j ≠ c i)) (List.range n)
 rw [List.length_range] at this; exact this
theorem ofCol_length_le (c : Nat → α) (n : Nat) (x : α) : (ofCol c n x).length ≤ n := by
 have := List.length_filter_le (fun j => decide (c j = x)) (List.range n)
 rw [List.length_range] at this; exact this
end
theorem gIdx_congr {α β : Type} [DecidableEq α] [DecidableEq β] {c : Nat → α} {d : Nat → β} {n : Nat} (h : ∀ i j, i < n → j < n → (c i = c j ↔ d i = d j)) : gIdx c n = gIdx d n := by
 have hf : firsts c n = firsts d n := by
  unfold firsts
  refine List.filter_congr fun i hi => ?_
  rw [List.mem_range] at hi
  rw [Bool.eq_iff_iff]
  simp only [List.all_eq_true, List.mem_range, decide_eq_true_eq]
  exact ⟨fun k j hj e => k j hj ((h j i (by omega) hi).2 e), fun k j hj e => k j hj ((h j i (by omega) hi).1 e)⟩
 unfold gIdx
 rw [hf]
 refine List.map_congr_left fun i hi => ?_
 unfold ofCol
 refine List.filter_congr fun j hj => ?_
 rw [List.mem_range] at hj
 rw [decide_eq_decide]
 exact h j i hj (mem_firsts.1 hi).1
def touchB (wo : List Int) (a b : Lk) : Bool := (!wo.contains a.1 && (a.1 == b.1 || a.1 == b.2.1)) || (!wo.contains a.2.1 && (a.2.1 == b.1 || a.2.1 == b.2.1))
theorem touchB_iff (wo : List Int) (a b : Lk) : touchB wo a b = true ↔ ∃ v, v ∉ wo ∧ (v = a.1 ∨ v = a.2.1) ∧ (v = b.1 ∨ v = b.2.1) := by
 unfold touchB
 simp only [Bool.or_eq_true, Bool.and_eq_true, Bool.not_eq_true', beq_iff_eq]
 have hc : ∀ x : Int, wo.contains x = false ↔ x ∉ wo := fun x => by simp
 rw [hc, hc]
 constructor
 ·
  rintro (⟨h1, h2⟩ | ⟨h1, h2⟩)
  · exact ⟨_, h1, .inl rfl, h2⟩
  · exact ⟨_, h1, .inr rfl, h2⟩
 ·
  rintro ⟨v, h1, rfl | rfl, h3⟩
  · exact .inl ⟨h1, h3⟩
  · exact .inr ⟨h1, h3⟩
theorem touchB_symm {wo : List Int} {a b : Lk} (h : touchB wo a b = true) : touchB wo b a = true := by
 rw [touchB_iff] at h ⊢
 obtain ⟨v, h1, h2, h3⟩ := h
 exact ⟨v, h1, h3, h2⟩
def bsL (ls : List Lk) (wo : List Int) (i : Nat) : List Nat := (List.range ls.length).filter fun j => match ls[i]?, ls[j]? with
 | some a, some b => touchB wo a b
 | _, _ => false
theorem mem_bsL {ls : List Lk} {wo : List Int} {i j : Nat} : j ∈ bsL ls wo i ↔ ∃ a b, ls[i]? = some a ∧ ls[j]? = some b ∧ touchB wo a b = true := by
 unfold bsL
 rw [List.mem_filter, List.mem_range]
 constructor
 ·
  rintro ⟨h1, h2⟩
  split at h2
  · rename_i a b ha hb; exact ⟨a, b, ha, hb, h2⟩
  · cases h2
 ·
  rintro ⟨a, b, ha, hb, h⟩
  exact ⟨(List.getElem?_eq_some_iff.1 hb).1, by rw [ha, hb]; exact h⟩
theorem bsL_symm (ls : List Lk) (wo : List Int) : ∀ a b, b ∈ bsL ls wo a → a ∈ bsL ls wo b := fun a b h => by
 rw [mem_bsL] at h ⊢
 obtain ⟨x, y, h1, h2, h3⟩ := h
 exact ⟨y, x, h2, h1, touchB_symm h3⟩
def LCon (ls : List Lk) (wo : List Int) (i j : Nat) : Prop := Con (bsL ls wo) (· < ls.length) i j
def pickL (ls : List Lk) (g : List Nat) : List Lk := g.filterMap fun i => ls[i]?
def groupsL (ls : List Lk) (wo : List Int) : List (List Lk) := if rightL ls then (gIdx (compC ls.length (bsL ls wo)) ls.length).map (pickL ls) else []
theorem groupsL_by {α : Type} [DecidableEq α] {ls : List Lk} {wo : List Int} (hr : rightL ls = true) {c : Nat → α} (h : ∀ i j, i < ls.length → j < ls.length → (c i = c j ↔ LCon ls wo i j)) :
  groupsL ls wo = (gIdx c ls.length).map (pickL ls) := by
 unfold groupsL
 rw [if_pos hr, gIdx_congr (c := compC ls.length (bsL ls wo)) (d := c)]
 intro i j hi hj
 rw [compC_eq (bsL_symm ls wo) hi hj, h i j hi hj]; rfl
inductive VCon (ls : List Lk) (wo : List Int) (x : Int) : Int → Prop
 | refl : VCon ls wo x x
 | step {y z : Int} {k : Lk} : VCon ls wo x y → k ∈ ls → k.1 ∉ wo → k.2.1 ∉ wo → ((y = k.1 ∧ z = k.2.1) ∨ (y = k.2.1 ∧ z = k.1)) → VCon ls wo x z
namespace VCon
variable {ls ls' : List Lk} {wo : List Int} {x y z : Int}
theorem mono (h : VCon ls wo x y) (hs : ∀ k ∈ ls, k ∈ ls') : VCon ls' wo x y := by
 induction h with
 | refl => exact .refl
 | step _ h1 h2 h3 h4 ih => exact ih.step (hs _ h1) h2 h3 h4
theorem trans (h : VCon ls wo x y) (k : VCon ls wo y z) : VCon ls wo x z := by
 induction k with
 | refl => exact h
 | step _ h1 h2 h3 h4 ih => exact ih.step h1 h2 h3 h4
theorem symm (h : VCon ls wo x y) : VCon ls wo y x := by
 induction h with
 | refl => exact .refl
 | step _ h1 h2 h3 h4 ih => exact (VCon.refl.step h1 h2 h3 (h4.elim (fun e => .inr ⟨e.2, e.1⟩) (fun e => .inl ⟨e.2, e.1⟩))).trans ih
theorem link {k : Lk} (hk : k ∈ ls) (h1 : k.1 ∉ wo) (h2 : k.2.1 ∉ wo) : VCon ls wo k.1 k.2.1 := VCon.refl.step hk h1 h2 (.inl ⟨rfl, rfl⟩)
end VCon
def RootOf (ls : List Lk) (wo : List Int) (root : Int → Int) : Prop := ∀ x y, root x = root y ↔ VCon ls wo x y
theorem RootOf.start (wo : List Int) : RootOf [] wo (fun x => x) := fun x y => by
 constructor
 · intro h; have : x = y := h; subst this; exact .refl
 ·
  intro h
  induction h with
  | refl => rfl
  | step _ h1 => simp at h1
end Go.Proofs.YtagcbnpahgfgmaaGreat
namespace Go.Proofs.YtagcbnpahgfgmaaGreat
open Go Go.RowKit
def CellsAt (w : World) (a : Option Addr) (vs : List Value) : Prop :=
 ∀ i u, vs[i]? = some u → ∃ b o, a = some ⟨b, o, none⟩ ∧ w.cell? ⟨b, o + i, none⟩ = some u
def RdI (w : World) (a : Option Addr) (xs : List Int) : Prop := CellsAt w a (xs.map (Value.int .i64))
def pairCells (es : List (Int × Int)) : List Value := es.flatMap fun e => [.int .i64 e.1, .int .i64 e.2]
def RdP (w : World) (a : Option Addr) (es : List (Int × Int)) : Prop := CellsAt w a (pairCells es)
theorem pairCells_get (es : List (Int × Int)) (i : Nat) (h : i < es.length) :
  (pairCells es)[i * 2]? = some (.int .i64 es[i].1) ∧ (pairCells es)[i * 2 + 1]? = some (.int .i64 es[i].2) := by
 induction es generalizing i with
 | nil => simp at h
 | cons e es ih =>
  cases i with
  | zero => simp [pairCells]
  | succ i =>
   have := ih i (by simpa using h); have e1 : (i + 1) * 2 = i * 2 + 1 + 1 := by omega
   simp only [pairCells, List.flatMap_cons, List.cons_append, List.nil_append, List.getElem_cons_succ] at this ⊢; rw [e1]; simpa using this
theorem RdP.at {w : World} {a : Option Addr} {es : List (Int × Int)} (h : RdP w a es) (i : Nat) (hi : i < es.length) :
  ∃ b o, a = some ⟨b, o, none⟩ ∧ w.cell? ⟨b, o + i * 2, none⟩ = some (.int .i64 es[i].1) ∧ w.cell? ⟨b, o + i * 2 + 1, none⟩ = some (.int .i64 es[i].2) := by
 obtain ⟨h1, h2⟩ := pairCells_get es i hi
 obtain ⟨b, o, ha, hc⟩ := h _ _ h1
 obtain ⟨b', o', ha', hc'⟩ := h _ _ h2
 rw [ha] at ha'
 simp only [Option.some.injEq, Addr.mk.injEq, and_true] at ha'
 obtain ⟨rfl, rfl⟩ := ha'
 exact ⟨b, o, ha, hc, by simpa [Nat.add_assoc] using hc'⟩
theorem RdI.at {w : World} {a : Option Addr} {xs : List Int} (h : RdI w a xs) (i : Nat) (hi : i < xs.length) :
  ∃ b o, a = some ⟨b, o, none⟩ ∧ w.cell? ⟨b, o + i, none⟩ = some (.int .i64 xs[i]) :=
 h i _ (by simp [hi])
theorem CellsAt.below {w w' : World} {a : Option Addr} {vs : List Value} (h : CellsAt w a vs) (hb : Below w.heap.size w w') : CellsAt w' a vs := by
 intro i u hu
 obtain ⟨b, o, ha, hc⟩ := h i u hu
 exact ⟨b, o, ha, (hb.cell (World.block_lt_of_cell? w _ hc)).trans hc⟩
theorem RdI.below {w w' : World} {a : Option Addr} {xs : List Int} (h : RdI w a xs) (hb : Below w.heap.size w w') : RdI w' a xs := CellsAt.below h hb
theorem RdP.below {w w' : World} {a : Option Addr} {xs : List (Int × Int)} (h : RdP w a xs) (hb : Below w.heap.size w w') : RdP w' a xs := CellsAt.below h hb
theorem keep_cell {w w' : World} {a : Addr} {v : Value} (hb : Below w.heap.size w w') (h : w.cell? a = some v) : w'.cell? a = some v :=
 (hb.cell (World.block_lt_of_cell? w _ h)).trans h
theorem bl_trans {w w1 w2 : World} (h : Below w.heap.size w w1) (k : Below w1.heap.size w1 w2) : Below w.heap.size w w2 := h.trans (k.mono h.size)
theorem bl_refl (w : World) : Below w.heap.size w w := Below.refl _ _
theorem bl_alloc (w : World) (o : Obj) : Below w.heap.size w (w.alloc o) := (Below.refl _ _).alloc (Nat.le_refl _) o
end Go.Proofs.YtagcbnpahgfgmaaGreat
namespace Go.Proofs.YtagcbnpahgfgmaaGreat
open Go Go.RowKit Go.Maps
theorem mapLawZ : Keyed Tryz.prog 3 := int_keyed Tryz.underlying3
theorem mapZeroZ (w : World) : (zeroValue 3).run Tryz.prog w = .ok (.int .i64 0) w := by kernel_rfl
def WfZ (v : Int) : Prop := (Lit.int .i64 v).wf = true
theorem wfZ_of {v : Int} (h : -9223372036854775808 ≤ v ∧ v ≤ 9223372036854775807) : WfZ v := WalkArith.wf_i64 h
theorem keyZ {v : Int} (h : WfZ v) : keyOf Tryz.prog 3 (.int .i64 v) = some (.int .i64 v) := keyOf_int_mk Tryz.underlying3 h
def updF (F : Int → Option Int) (k v : Int) : Int → Option Int := fun j => if j = k then some v else F j
theorem updF_same (F : Int → Option Int) (k v : Int) : updF F k v k = some v := by simp [updF]
theorem updF_ne (F : Int → Option Int) {k j : Int} (v : Int) (h : j ≠ k) : updF F k v j = F j := by simp [updF, h]
def MZs (D : DataW Unit) (F : Int → Option Int) (c : Nat) : Prop :=
 Tidy D ∧ Maps.size D = c ∧ (∀ v, Maps.has D (.int .i64 v) = (F v).isSome) ∧ ∀ v x, F v = some x → ∀ z, D.atKey (.int .i64 v) z = .lit (.int .i64 x)
def MZ (w : World) (B c : Nat) (F : Int → Option Int) : Prop :=
 ∃ D : DataW Unit, w.ownsMap Tryz.prog 3 (plainElem Tryz.prog 3) B c D ∧ MZs D F c
theorem MZs.none : MZs (.map []) (fun _ => none) 0 := ⟨tidy_empty, rfl, fun v => rfl, fun v x h => by cases h⟩
theorem MZs.put {D : DataW Unit} {F : Int → Option Int} {c : Nat} (h : MZs D F c) (k v : Int) : MZs (D.put (.int .i64 k) (.lit (.int .i64 v))) (updF F k v) (if (F k).isSome then c else c + 1) := by
 obtain ⟨h1, h2, h3, h4⟩ := h
 have hk : WideAt.IsKeyLit (.int .i64 k) := by simp [WideAt.IsKeyLit]
 refine ⟨h1.put hk _, ?_, fun j => ?_, fun j x hj z => ?_⟩
 · rw [size_put h1, h3 k, h2]
 ·
  by_cases e : j = k
  · subst e; rw [has_put_same h1.isMap hk, updF_same]; rfl
  · rw [has_put_other (by simp; omega), h3 j, updF_ne _ _ e]
 ·
  by_cases e : j = k
  · subst e; rw [updF_same] at hj; cases hj; rw [atKey_put_same h1.isMap hk]
  ·
   rw [updF_ne _ _ e] at hj; rw [atKey_put_other (by simp; omega)]; exact h4 j x hj z
theorem ownsMap_exact {w : World} {B n : Nat} {D : DataW Unit} (h : w.ownsMap Tryz.prog 3 (plainElem Tryz.prog 3) B n D) : w.ownsMap Tryz.prog 3 (plainElem Tryz.prog 3) B (Maps.size D) D := by
 obtain ⟨es, clock, hb, F, hs, rfl⟩ := h
 exact ⟨es, clock, hb, F, by rw [size_eq, length_read]; exact Nat.le_refl _, rfl⟩
theorem MZ.lt {w : World} {B c : Nat} {F : Int → Option Int} (h : MZ w B c F) : B < w.heap.size := by obtain ⟨D, h1, _⟩ := h; exact h1.lt
theorem MZ.made (w : World) : MZ (w.alloc (.map #[] 0)) w.heap.size 0 (fun _ => none) := ⟨_, World.ownsMap_made _ _ _ _, MZs.none⟩
theorem MZ.block {w w' : World} {B c : Nat} {F : Int → Option Int} (h : MZ w B c F) (e : w'.heap[B]? = w.heap[B]?) : MZ w' B c F := by
 obtain ⟨D, ⟨es, clock, hb, r⟩, h2⟩ := h
 exact ⟨D, ⟨es, clock, e.trans hb, r⟩, h2⟩
theorem MZ.below {w w' : World} {B c : Nat} {F : Int → Option Int} (h : MZ w B c F) (hb : Below w.heap.size w w') : MZ w' B c F := h.block (hb.block B h.lt)
theorem MZ.grown {w w' : World} {B c : Nat} {F : Int → Option Int} {k : Option Nat} (h : MZ w B c F) (hg : w.grownBy w' k) (hne : k ≠ some B) : MZ w' B c F := h.block (hg.block B h.lt (fun e => hne e.symm))
theorem MZ.alloc {w : World} {B c : Nat} {F : Int → Option Int} (h : MZ w B c F) (o : Obj) : MZ (w.alloc o) B c F := h.block (Below.heap_alloc w o B h.lt)
theorem MZ.other {w : World} {B c : Nat} {F : Int → Option Int} (h : MZ w B c F) {a : Addr} (hne : B ≠ a.block) (u : Value) : MZ (w.setCell a u) B c F :=
 h.block (RowKit.Below.heap_setCell _ _ _ _ hne)
theorem MZ.look {w : World} {B c : Nat} {F : Int → Option Int} (h : MZ w B c F) {v : Int} (hv : WfZ v) :
  (Instr.lookup 35 (.map (some B)) (.int .i64 v) false).run Tryz.prog w = .ok (.int .i64 ((F v).getD 0)) w := by
 obtain ⟨D, hown, _, _, h3, h4⟩ := h
 obtain ⟨c, hrun, hat, _⟩ := hown.lookup_int mapLawZ Tryz.underlying35 Tryz.underlying3 (mapZeroZ w) (keyZ hv)
 rw [hrun]
 cases hF : F v with
 | none =>
  have hh := h3 v; rw [hF] at hh
  rw [atKey_of_not_has hh] at hat
  simp at hat; rw [← hat]; rfl
 | some x =>
  rw [h4 v x hF] at hat
  simp at hat; rw [← hat]; rfl
theorem MZ.lookOk {w : World} {B c : Nat} {F : Int → Option Int} (h : MZ w B c F) {v : Int} (hv : WfZ v) :
  (Instr.lookup 35 (.map (some B)) (.int .i64 v) true).run Tryz.prog w = .ok (.tuple #[.int .i64 ((F v).getD 0), .bool (F v).isSome]) w := by
 obtain ⟨D, hown, _, _, h3, h4⟩ := h
 obtain ⟨u, ps, hrun, hu⟩ := hown.look_ok mapLawZ Tryz.underlying35 (mapZeroZ w) (plainElem_int Tryz.underlying3 (by decide)) (keyZ hv)
 obtain ⟨c, rfl, hc, _⟩ := plainElem_int_inv Tryz.underlying3 hu
 simp only [Prod.mk.injEq] at hc
 rw [hrun, h3 v]
 have hat := hc.1
 cases hF : F v with
 | none =>
  have hh := h3 v; rw [hF] at hh
  rw [atKey_of_not_has hh] at hat
  simp at hat; rw [← hat]; rfl
 | some x =>
  rw [h4 v x hF] at hat
  simp at hat; rw [← hat]; rfl
theorem MZ.store {w : World} {B c : Nat} {F : Int → Option Int} (h : MZ w B c F) {k v : Int} (hk : WfZ k) (hv : WfZ v) (hc : c ≤ 100000000) :
  ∃ w', (Instr.mapUpdate 35 (.map (some B)) (.int .i64 k) (.int .i64 v)).run Tryz.prog w = .ok () w' ∧ MZ w' B (if (F k).isSome then c else c + 1) (updF F k v) ∧ w.grownBy w' (some B) := by
 obtain ⟨D, hown, h2⟩ := h
 obtain ⟨w', hrun, r1, r2⟩ := hown.update mapLawZ Tryz.underlying35 (by unfold maxLen; omega) (keyZ hk) (plainElem_int Tryz.underlying3 hv)
 have h3 := h2.put k v
 have h4 := ownsMap_exact r1
 rw [h3.2.1] at h4
 exact ⟨w', hrun, ⟨_, h4, h3⟩, r2⟩
theorem wpList_put_MZ {w : World} {ops : Array Oper} {rest : List Oper} {o : Oper} {a : Act} {Q : Exit → Act → World → Prop} (hg : o.guard = none) (m x y : Operand) (hop : o.op = Op.mapUpdate 35 m x y) {B c : Nat} {F : Int → Option Int} (h : MZ w B c F) {k v : Int}
  (hm : a.eval m = .map (some B)) (hx : a.eval x = .int .i64 k) (hy : a.eval y = .int .i64 v) (hk : WfZ k) (hv : WfZ v) (hc : c ≤ 100000000)
  (hK : ∀ w', MZ w' B (if (F k).isSome then c else c + 1) (updF F k v) → w.grownBy w' (some B) → wpList Tryz.prog ops Q rest (a.put o.dst undef) w') : wpList Tryz.prog ops Q (o :: rest) a w := by
 refine wpList_plain hg fun K' hK' => ?_
 obtain ⟨w', hrun, r1, r2⟩ := h.store hk hv hc
 unfold Oper.wp
 simp [execOp, hop, hm, hx, hy, hrun, Result.andThen]
 exact hK' _ _ (hK w' r1 r2)
theorem step_put_MZ {w : World} {ops : Array Oper} {o : Oper} {a : Act} {K : Act → World → Prop} {Q : Exit → Act → World → Prop} {E : Prop} (hg : o.guard = none) (m x y : Operand) (hop : o.op = Op.mapUpdate 35 m x y) {B c : Nat} {F : Int → Option Int} (h : MZ w B c F) {k v : Int}
  (hm : a.eval m = .map (some B)) (hx : a.eval x = .int .i64 k) (hy : a.eval y = .int .i64 v) (hk : WfZ k) (hv : WfZ v) (hc : c ≤ 100000000)
  (hK : ∀ w', MZ w' B (if (F k).isSome then c else c + 1) (updF F k v) → w.grownBy w' (some B) → K (a.put o.dst undef) w') :
  if Region.wanted o (yielded ops a.tmps) = true then Oper.wp Tryz.prog o a w K Q else E := by
 rw [if_pos (by simp [Region.wanted, hg])]
 obtain ⟨w', hrun, r1, r2⟩ := h.store hk hv hc
 unfold Oper.wp
 simp [execOp, hop, hm, hx, hy, hrun, Result.andThen]
 exact hK w' r1 r2
theorem run_makeMapZ (n : Int) (w : World) : (Instr.makeMap 35 (some (.int .i64 n))).run Tryz.prog w = .ok (.map (some w.heap.size)) (w.alloc (.map #[] 0)) := by
 simp [Instr.makeMap, run_underlying Tryz.underlying35, asInt, asIntOf, Result.andThen]
def goneF (l : List Int) : Int → Option Int := fun v => if v ∈ l then some 1 else none
theorem goneF_nil : goneF [] = fun _ => none := by funext v; simp [goneF]
theorem goneF_snoc (l : List Int) (x : Int) : updF (goneF l) x 1 = goneF (l ++ [x]) := by
 funext v
 unfold updF goneF
 by_cases e : v = x
 · simp [e]
 · simp [e]
theorem MZ.goneYes {w : World} {B c : Nat} {l : List Int} (h : MZ w B c (goneF l)) {v : Int} (hv : WfZ v) (hm : v ∈ l) :
  (Instr.lookup 35 (.map (some B)) (.int .i64 v) false).run Tryz.prog w = .ok (.int .i64 1) w := by
 have := h.look hv; unfold goneF at this; rw [if_pos hm] at this; exact this
theorem MZ.goneNo {w : World} {B c : Nat} {l : List Int} (h : MZ w B c (goneF l)) {v : Int} (hv : WfZ v) (hm : v ∉ l) :
  (Instr.lookup 35 (.map (some B)) (.int .i64 v) false).run Tryz.prog w = .ok (.int .i64 0) w := by
 have := h.look hv; unfold goneF at this; rw [if_neg hm] at this; exact this
end Go.Proofs.YtagcbnpahgfgmaaGreat
namespace Go.Proofs.YtagcbnpahgfgmaaGreat
open Go Go.RowKit
def Row (w : World) (g : Nat) (e : TypeId) (s cap : Nat) (vs : List Value) : Prop :=
 ∃ cur : Array Value, w.heap[g]? = some (.cells cur e (0, 0)) ∧ cur.size = cap * s ∧ vs.length ≤ cap * s ∧ cap ≤ maxLen ∧ cur.toList.take vs.length = vs
namespace Row
variable {w w' : World} {g g' : Nat} {e : TypeId} {s cap : Nat} {vs : List Value}
theorem lt (h : Row w g e s cap vs) : g < w.heap.size := by
 obtain ⟨cur, hg, _⟩ := h
 exact (Array.getElem?_eq_some_iff.1 hg).1
theorem cell? (h : Row w g e s cap vs) (i : Nat) (hi : i < vs.length) : w.cell? ⟨g, i, none⟩ = vs[i]? := by
 obtain ⟨cur, hg, hs, hl, hm, ht⟩ := h
 rw [cell_of_row w g i cur e (0, 0) hg]
 conv => rhs; rw [← ht]
 rw [List.getElem?_take, if_pos hi]
 simp
theorem cell (h : Row w g e s cap vs) (i : Nat) (hi : i < vs.length) : w.cell? ⟨g, i, none⟩ = some vs[i] := by
 rw [h.cell? i hi]; simp [hi]
theorem frozen (h : Row w g e s cap vs) (i : Nat) : w.frozen? ⟨g, i, none⟩ = false := by
 obtain ⟨cur, hg, _⟩ := h
 exact frozen_of_row w g i cur e hg
theorem block (h : Row w g e s cap vs) (e' : w'.heap[g]? = w.heap[g]?) : Row w' g e s cap vs := by
 obtain ⟨cur, hg, r⟩ := h
 exact ⟨cur, by rw [e']; exact hg, r⟩
theorem grown (h : Row w g e s cap vs) {r : Option Nat} (hg : w.grownBy w' r) (hne : r ≠ some g) : Row w' g e s cap vs :=
 h.block (hg.block g h.lt (fun e => hne e.symm))
theorem below {B : Nat} (h : Row w g e s cap vs) (hb : Below B w w') (hlt : g < B) : Row w' g e s cap vs := h.block (hb.block g hlt)
theorem alloc (h : Row w g e s cap vs) (o : Obj) : Row (w.alloc o) g e s cap vs := h.block (Below.heap_alloc w o g h.lt)
theorem drew (h : Row w g e s cap vs) : Row w.drew g e s cap vs := h
theorem other (h : Row w g e s cap vs) {a : Addr} (hne : g ≠ a.block) (u : Value) : Row (w.setCell a u) g e s cap vs :=
 h.block (Below.heap_setCell w a u g hne)
theorem set (h : Row w g e s cap vs) (i : Nat) (u : Value) : Row (w.setCell ⟨g, i, none⟩ u) g e s cap (vs.set i u) := by
 obtain ⟨cur, hg, hs, hl, hm, ht⟩ := h
 refine ⟨cur.setIfInBounds i u, heap_setCell_same w g i cur e u hg, by simpa using hs, by simpa using hl, hm, ?_⟩
 rw [Array.toList_setIfInBounds, List.length_set]
 conv => rhs; rw [← ht]
 rw [List.take_set]
theorem take (h : Row w g e s cap vs) (k : Nat) : Row w g e s cap (vs.take k) := by
 obtain ⟨cur, hg, hs, hl, hm, ht⟩ := h
 refine ⟨cur, hg, hs, ?_, hm, ?_⟩
 · rw [List.length_take]; omega
 ·
  rw [List.length_take]
  by_cases hk : k ≤ vs.length
  ·
   rw [Nat.min_eq_left hk]; conv => rhs; rw [← ht]
   rw [List.take_take, Nat.min_eq_left hk]
  · rw [Nat.min_eq_right (by omega), ht, List.take_of_length_le (by omega)]
theorem at_ (h : Row w g e s cap vs) : CellsAt w (some ⟨g, 0, none⟩) vs := by
 intro i u hu
 have hi : i < vs.length := (List.getElem?_eq_some_iff.1 hu).1
 exact ⟨g, 0, rfl, by rw [Nat.zero_add, h.cell? i hi, hu]⟩
theorem len_le (h : Row w g e 1 cap vs) : vs.length ≤ cap := by obtain ⟨_, _, _, h, _⟩ := h; omega
theorem cap_le (h : Row w g e s cap vs) : cap ≤ maxLen := by obtain ⟨_, _, _, _, h, _⟩ := h; exact h
end Row
theorem row_new (w : World) (cs : Array Value) (e : TypeId) (s n : Nat) (hs : cs.size = n * s) (hm : n ≤ maxLen) :
  Row (w.alloc (.cells cs e)) w.heap.size e s n cs.toList :=
 ⟨cs, heap_alloc_new w _, hs, by simp [hs], hm, List.take_of_length_le (by simp)⟩
theorem row_lit (w : World) (vs : List Value) (e : TypeId) (hm : vs.length ≤ maxLen) : Row (w.alloc (.cells vs.toArray e)) w.heap.size e 1 vs.length vs := by
 simpa using row_new w vs.toArray e 1 vs.length (by simp) hm
theorem row_made (w : World) (z : Value) (n : Nat) (e : TypeId) (hm : n ≤ maxLen) :
  Row (w.alloc (.cells (madeCells #[z] n) e)) w.heap.size e 1 n (List.replicate n z) := by
 have := row_new w (madeCells #[z] n) e 1 n (by simp [size_madeCells]) hm
 rwa [toList_madeCells_one] at this
def Own (w : World) (v : Value) (e : TypeId) (s n : Nat) (vs : List Value) : Prop :=
 vs.length = n * s ∧ ((v = .slice none 0 0 ∧ n = 0) ∨ ∃ g cap, v = .slice (some ⟨g, 0, none⟩) n cap ∧ n ≤ cap ∧ Row w g e s cap vs)
theorem Row.own {w : World} {g : Nat} {e : TypeId} {s cap n : Nat} {vs : List Value} (h : Row w g e s cap vs) (hn : vs.length = n * s) (hc : n ≤ cap) :
  Own w (.slice (some ⟨g, 0, none⟩) n cap) e s n vs := ⟨hn, .inr ⟨g, cap, rfl, hc, h⟩⟩
theorem Row.own1 {w : World} {g : Nat} {e : TypeId} {cap : Nat} {vs : List Value} (h : Row w g e 1 cap vs) :
  Own w (.slice (some ⟨g, 0, none⟩) vs.length cap) e 1 vs.length vs := h.own (by simp) h.len_le
theorem own_nil (w : World) (e : TypeId) (s : Nat) : Own w (.slice none 0 0) e s 0 [] := ⟨by simp, .inl ⟨rfl, rfl⟩⟩
section
variable {P : Program} (w : World)
theorem run_append_row (t ty e : TypeId) (i : TypeInfo) (z : Value) (s bytes : Nat) (ht : P.underlying t = some (.slice e)) (hi : P.info? e = some i) (hz : i.zero = some z)
  (hsize : i.size = s) (hby : i.bytes = bytes) (hzs : z.cells.size = s)
  (v : Value) (n : Nat) (vs : List Value) (hown : Own w v e s n vs)
  (a : Addr) (m c : Nat) (news : List Value) (hl : news.length = m * s) (hnews : ∀ j u, news[j]? = some u → w.cell? (a.add j) = some u) (h1 : ∀ u ∈ news, u.oneCell' = true)
  (h0 : 0 < m) (h63 : n + m ≤ maxLen) (hbytes : (n + m) * bytes ≤ 140737488355328) :
  ∃ g' cap' w', (Builtin.append_ #[t, t] ty #[v, .slice (some a) m c]).run P w = .ok (.slice (some ⟨g', 0, none⟩) (n + m) cap') w' ∧
   Row w' g' e s cap' (vs ++ news) ∧ n + m ≤ cap' ∧ w.grownBy w' v.ownBlock ∧ (v.ownBlock = some g' ∨ w.heap.size ≤ g') := by
 subst hsize
 subst hby
 have hsmall : n + m ≤ 9223372036854775807 := by simp only [maxLen] at h63; omega
 have hlen : (vs ++ news).length = (n + m) * i.size := by rw [List.length_append, hown.1, hl, Nat.add_mul]
 have fresh : ∀ old, old < n + m → ∀ r : Option Nat,
   Row (w.drew.alloc (.cells (vs.toArray ++ news.toArray ++ Builtin.zeroCells z.cells (grownCap w (n + m) old e - (n + m))) e)) w.heap.size e i.size (grownCap w (n + m) old e) (vs ++ news) ∧
   w.grownBy (w.drew.alloc (.cells (vs.toArray ++ news.toArray ++ Builtin.zeroCells z.cells (grownCap w (n + m) old e - (n + m))) e)) r := by
  intro old ho r
  have hge := grownCap_ge w (n + m) old e
  have hcm := grownCap_le_maxLen w (n + m) old e h63
  refine ⟨⟨_, heap_alloc_new w.drew _, ?_, ?_, hcm, ?_⟩, ⟨rfl, rfl, rfl, by simp, fun k hk _ => Below.heap_alloc w.drew _ k hk⟩⟩
  ·
   simp only [Array.size_append, List.size_toArray, size_zeroCells, hzs, hown.1, hl, ← Nat.add_mul]; congr 1; omega
  · rw [hlen]; exact Nat.mul_le_mul_right _ hge
  ·
   simp only [Array.toList_append, List.append_assoc]; rw [← List.append_assoc]; exact List.take_left
 rcases hown.2 with ⟨rfl, rfl⟩ | ⟨g, cap, rfl, hnc, cur, hg, hcs, hvl, hcm, htake⟩
 ·
  have hx : vs = [] := List.eq_nil_of_length_eq_zero (by simpa using hown.1)
  subst hx
  have hr := run_append_nil (P := P) w t ty e i z ht hi hz a m c news hl hnews h0 (by omega) (by have hb := hbytes; simp only [Nat.zero_add] at hb; omega)
  have hgr := fresh 0 (by omega) (Value.ownBlock (.slice none 0 0))
  have hge := grownCap_ge w m 0 e
  simp only [Nat.zero_add, List.nil_append, Array.empty_append] at hgr ⊢
  exact ⟨_, _, _, hr, hgr.1, hge, hgr.2, .inr (Nat.le_refl _)⟩
 ·
  by_cases hroom : n + m ≤ cap
  ·
   have hfit : n * i.size + news.length ≤ cur.size := by rw [hl, hcs, ← Nat.add_mul]; exact Nat.mul_le_mul_right _ hroom
   have hr := run_append_room (P := P) w t ty e i ht hi g n cap cur hg a m c news hl hnews h1 hroom hfit; refine ⟨_, _, _, hr, ⟨_, setRow_heap w g cur _ e _ hg, ?_, ?_, hcm, ?_⟩, hroom, ⟨rfl, rfl, rfl, by simp, fun k _ hk => setRow_other w g k _ (fun e => hk (by simp [Value.ownBlock, e]))⟩, .inl rfl⟩
   ·
    simp only [List.size_toArray, List.length_append, List.length_take, List.length_drop, Array.length_toList]; omega
   · rw [hlen]; exact Nat.mul_le_mul_right _ hroom
   ·
    rw [← hown.1, htake]; exact List.take_left
  ·
   have holds : ∀ j u, vs[j]? = some u → w.cell? ((⟨g, 0, none⟩ : Addr).add j) = some u := by
    intro j u hu; have hj : j < vs.length := (List.getElem?_eq_some_iff.1 hu).1; have hadd : (⟨g, 0, none⟩ : Addr).add j = ⟨g, j, none⟩ := by unfold Addr.add; split <;> simp_all
    rw [hadd, cell_of_row w g j cur e (0, 0) hg]; rw [← htake, List.getElem?_take, if_pos hj] at hu; simpa using hu
   have hr := run_append_grow (P := P) w t ty e i z ht hi hz ⟨g, 0, none⟩ n cap vs hown.1 holds a m c news hl hnews (by omega) (by omega) (growslice_fits (by omega) hbytes); have hgr := fresh cap (by omega) (Value.ownBlock (.slice (some ⟨g, 0, none⟩) n cap)); exact ⟨_, _, _, hr, hgr.1, grownCap_ge w (n + m) cap e, hgr.2, .inr (Nat.le_refl _)⟩
theorem wpList_append_row {ops : Array Oper} {rest : List Oper} {o : Oper} {a : Act} {Q : Exit → Act → World → Prop} (hgd : o.guard = none) (sl x : Operand) (t : TypeId)
  (ho : o.op = .call { callee := .builtin .append, args := #[sl, x], argTypes := #[t, t] })
  (e : TypeId) (z : Value) (s bytes : Nat) (ht : P.underlying t = some (.slice e)) (hinfo : (P.info? e).map (fun i => (i.zero, i.size, i.bytes)) = some (some z, s, bytes)) (hzs : z.cells.size = s)
  (v : Value) (n : Nat) (vs : List Value) (hs : a.eval sl = v) (hown : Own w v e s n vs)
  (ad : Addr) (m c : Nat) (news : List Value) (hx : a.eval x = .slice (some ad) m c) (hl : news.length = m * s) (hnews : ∀ j u, news[j]? = some u → w.cell? (ad.add j) = some u) (h1 : ∀ u ∈ news, u.oneCell' = true)
  (h0 : 0 < m) (h63 : n + m ≤ maxLen) (hbytes : (n + m) * bytes ≤ 140737488355328)
  (h : ∀ g' cap' w', Row w' g' e s cap' (vs ++ news) → n + m ≤ cap' → w.grownBy w' v.ownBlock → (v.ownBlock = some g' ∨ w.heap.size ≤ g') → wpList P ops Q rest (a.put o.dst (.slice (some ⟨g', 0, none⟩) (n + m) cap')) w') :
  wpList P ops Q (o :: rest) a w := by
 obtain ⟨i, hi, hz, hsize, hby⟩ := info_parts hinfo
 refine wpList_plain hgd fun K hK => ?_
 obtain ⟨g', cap', w', hr, h2, h3, h4, h5⟩ := run_append_row (P := P) w t o.type e i z s bytes ht hi hz hsize hby hzs v n vs hown ad m c news hl hnews h1 h0 h63 hbytes
 unfold Oper.wp execOp
 simp only [ho, resolve, invoke, builtin, Sem.run_bind, Sem.run_pure, Result.andThen_ok, List.map_toArray, List.map_cons, List.map_nil, hs, hx, hr]
 exact hK _ _ (h g' cap' w' h2 h3 h4 h5)
end
theorem step_append_row {P : Program} {w : World} {ops : Array Oper} {o : Oper} {a : Act} {K : Act → World → Prop} {Q : Exit → Act → World → Prop} {E : Prop} (hgd : o.guard = none) (sl x : Operand) (t : TypeId)
  (ho : o.op = .call { callee := .builtin .append, args := #[sl, x], argTypes := #[t, t] })
  (e : TypeId) (z : Value) (s bytes : Nat) (ht : P.underlying t = some (.slice e)) (hinfo : (P.info? e).map (fun i => (i.zero, i.size, i.bytes)) = some (some z, s, bytes)) (hzs : z.cells.size = s)
  (v : Value) (n : Nat) (vs : List Value) (hs : a.eval sl = v) (hown : Own w v e s n vs)
  (ad : Addr) (m c : Nat) (news : List Value) (hx : a.eval x = .slice (some ad) m c) (hl : news.length = m * s) (hnews : ∀ j u, news[j]? = some u → w.cell? (ad.add j) = some u) (h1 : ∀ u ∈ news, u.oneCell' = true)
  (h0 : 0 < m) (h63 : n + m ≤ maxLen) (hbytes : (n + m) * bytes ≤ 140737488355328)
  (h : ∀ g' cap' w', Row w' g' e s cap' (vs ++ news) → n + m ≤ cap' → w.grownBy w' v.ownBlock → (v.ownBlock = some g' ∨ w.heap.size ≤ g') → K (a.put o.dst (.slice (some ⟨g', 0, none⟩) (n + m) cap')) w') :
  if Region.wanted o (yielded ops a.tmps) = true then Oper.wp P o a w K Q else E := by
 rw [if_pos (by simp [Region.wanted, hgd])]
 obtain ⟨i, hi, hz, hsize, hby⟩ := info_parts hinfo
 obtain ⟨g', cap', w', hr, h2, h3, h4, h5⟩ := run_append_row (P := P) w t o.type e i z s bytes ht hi hz hsize hby hzs v n vs hown ad m c news hl hnews h1 h0 h63 hbytes
 unfold Oper.wp execOp
 simp only [ho, resolve, invoke, builtin, Sem.run_bind, Sem.run_pure, Result.andThen_ok, List.map_toArray, List.map_cons, List.map_nil, hs, hx, hr]
 exact h g' cap' w' h2 h3 h4 h5
def spliced (vs : List Value) (off : Nat) (cs : List Value) : List Value := vs.take off ++ (cs ++ vs.drop (off + cs.length))
theorem spliced_length {vs cs : List Value} {off : Nat} (h : off + cs.length ≤ vs.length) : (spliced vs off cs).length = vs.length := by simp [spliced]; omega
theorem Own.below {w w' : World} {v : Value} {e : TypeId} {s n : Nat} {vs : List Value} (h : Own w v e s n vs) (hb : ∀ g, v.ownBlock = some g → w'.heap[g]? = w.heap[g]?) : Own w' v e s n vs := by
 refine ⟨h.1, ?_⟩
 rcases h.2 with h2 | ⟨g, cap, rfl, hc, hr⟩
 · exact .inl h2
 · exact .inr ⟨g, cap, rfl, hc, hr.block (hb g rfl)⟩
theorem Own.lt {w : World} {v : Value} {e : TypeId} {s n : Nat} {vs : List Value} (h : Own w v e s n vs) {g : Nat} (hg : v.ownBlock = some g) : g < w.heap.size := by
 rcases h.2 with ⟨rfl, _⟩ | ⟨g', cap, rfl, hc, hr⟩
 · simp [Value.ownBlock] at hg
 · simp [Value.ownBlock] at hg; subst hg; exact hr.lt
theorem Own.ext {w w' : World} {v : Value} {e : TypeId} {s n : Nat} {vs : List Value} (h : Own w v e s n vs) (hb : Below w.heap.size w w') : Own w' v e s n vs :=
 h.below fun g hg => hb.block g (h.lt hg)
theorem Own.alloc {w : World} {v : Value} {e : TypeId} {s n : Nat} {vs : List Value} (h : Own w v e s n vs) (o : Obj) : Own (w.alloc o) v e s n vs := h.ext (bl_alloc _ _)
theorem Own.drew {w : World} {v : Value} {e : TypeId} {s n : Nat} {vs : List Value} (h : Own w v e s n vs) : Own w.drew v e s n vs := h
structure OwnRows (w : World) (G : Nat) (tO e : TypeId) (cap : Nat) (vals : List Value) (rows : List (List Value)) : Prop where
 len : vals.length = rows.length
 outer : Row w G tO 1 cap vals
 own : ∀ (v : Nat) (u : Value) (r : List Value), vals[v]? = some u → rows[v]? = some r → Own w u e 1 r.length r
 young : ∀ (v : Nat) (u : Value) (g : Nat), vals[v]? = some u → u.ownBlock = some g → G < g
 apart : ∀ (v v' : Nat) (u u' : Value) (g : Nat), v ≠ v' → vals[v]? = some u → vals[v']? = some u' → u.ownBlock = some g → u'.ownBlock ≠ some g
namespace OwnRows
variable {w w' : World} {G : Nat} {tO e : TypeId} {cap : Nat} {vals : List Value} {rows : List (List Value)}
theorem lt (h : OwnRows w G tO e cap vals rows) {v : Nat} {u : Value} {g : Nat} (hu : vals[v]? = some u) (hg : u.ownBlock = some g) : g < w.heap.size := by
 have hv : v < vals.length := (List.getElem?_eq_some_iff.1 hu).1
 obtain ⟨r, hr⟩ : ∃ r, rows[v]? = some r := ⟨rows[v]'(by rw [← h.len]; exact hv), by simp⟩
 exact (h.own v u r hu hr).lt hg
theorem keep (h : OwnRows w G tO e cap vals rows) (hb : ∀ g, G ≤ g → g < w.heap.size → w'.heap[g]? = w.heap[g]?) : OwnRows w' G tO e cap vals rows where
 len := h.len
 outer := h.outer.block (hb G (Nat.le_refl _) h.outer.lt)
 own v u r hu hr := (h.own v u r hu hr).below fun g hg => hb g (Nat.le_of_lt (h.young v u g hu hg)) (h.lt hu hg)
 young := h.young
 apart := h.apart
theorem below (h : OwnRows w G tO e cap vals rows) (hb : Below w.heap.size w w') : OwnRows w' G tO e cap vals rows := h.keep fun g _ hg => hb.block g hg
theorem alloc (h : OwnRows w G tO e cap vals rows) (o : Obj) : OwnRows (w.alloc o) G tO e cap vals rows := h.keep fun g _ hg => Below.heap_alloc w o g hg
theorem drew (h : OwnRows w G tO e cap vals rows) : OwnRows w.drew G tO e cap vals rows := h.keep fun _ _ _ => rfl
theorem drewN (h : OwnRows w G tO e cap vals rows) (n : Nat) : OwnRows (w.drewN n) G tO e cap vals rows := h.keep fun _ _ _ => rfl
theorem stored (h : OwnRows w G tO e cap vals rows) {v : Nat} {u : Value} {r r' : List Value} (hu : vals[v]? = some u) (_hr : rows[v]? = some r)
  {g' cap' : Nat} (hrow : Row w' g' e 1 cap' r') (hgr : w.grownBy w' u.ownBlock) (hg' : u.ownBlock = some g' ∨ w.heap.size ≤ g') :
  OwnRows (w'.setCell ⟨G, v, none⟩ (.slice (some ⟨g', 0, none⟩) r'.length cap')) G tO e cap (vals.set v (.slice (some ⟨g', 0, none⟩) r'.length cap')) (rows.set v r') := by
 have hv : v < vals.length := (List.getElem?_eq_some_iff.1 hu).1
 have hGg : G < g' := by
  rcases hg' with hg' | hg'
  · exact h.young v u g' hu hg'
  · exact Nat.lt_of_lt_of_le h.outer.lt hg'
 have houter : Row w' G tO 1 cap vals := h.outer.grown hgr (fun e => by have := h.young v u G hu e; omega)
 have hother : ∀ (v' : Nat) (u' : Value) (g : Nat), v' ≠ v → vals[v']? = some u' → u'.ownBlock = some g → g ≠ g' ∧ (w'.heap[g]? = w.heap[g]?) := by
  intro v' u' g hne hu' hg
  refine ⟨?_, hgr.block g (h.lt hu' hg) (fun e => h.apart v' v u' u g hne hu' hu hg e.symm)⟩
  rintro rfl
  rcases hg' with hg' | hg'
  · exact h.apart v' v u' u g hne hu' hu hg hg'
  · have := h.lt hu' hg; omega
 refine ⟨by simpa using h.len, houter.set v _, ?_, ?_, ?_⟩
 ·
  intro v' u' r1 hu' hr'
  rw [List.getElem?_set] at hu' hr'
  by_cases hvv : v = v'
  ·
   subst hvv; rw [if_pos rfl, if_pos hv] at hu'; rw [if_pos rfl, if_pos (by rw [← h.len]; exact hv)] at hr'; cases hu'; cases hr'; exact (hrow.other (a := ⟨G, v, none⟩) (by simp; omega) _).own1
  ·
   rw [if_neg hvv] at hu' hr'; refine (h.own v' u' r1 hu' hr').below fun g hg => ?_; obtain ⟨h1, h2⟩ := hother v' u' g (Ne.symm hvv) hu' hg; rw [Below.heap_setCell _ _ _ _ (by have := h.young v' u' g hu' hg; simp; omega)]; exact h2
 ·
  intro v' u' g hu' hg
  rw [List.getElem?_set] at hu'
  by_cases hvv : v = v'
  ·
   subst hvv; rw [if_pos rfl, if_pos hv] at hu'; cases hu'; simp [Value.ownBlock] at hg; omega
  ·
   rw [if_neg hvv] at hu'; exact h.young v' u' g hu' hg
 ·
  intro v1 v2 u1 u2 g hne h1 h2 hg
  rw [List.getElem?_set] at h1 h2
  by_cases e1 : v = v1
  ·
   subst e1; rw [if_pos rfl, if_pos hv] at h1; cases h1; simp [Value.ownBlock] at hg; subst hg; rw [if_neg hne] at h2; intro hc; exact (hother v2 u2 _ (Ne.symm hne) h2 hc).1 rfl
  ·
   rw [if_neg e1] at h1; by_cases e2 : v = v2
   ·
    subst e2; rw [if_pos rfl, if_pos hv] at h2; cases h2; simp [Value.ownBlock]; exact fun e => (hother v1 u1 g (Ne.symm e1) h1 hg).1 e.symm
   ·
    rw [if_neg e2] at h2; exact h.apart v1 v2 u1 u2 g hne h1 h2 hg
theorem ne_outer (h : OwnRows w G tO e cap vals rows) {v : Nat} {u : Value} (hu : vals[v]? = some u) : u.ownBlock ≠ some G := fun hg => by
 have := h.young v u G hu hg; omega
end OwnRows
theorem ownRows_made (w : World) (n : Nat) (tO e : TypeId) (hm : n ≤ maxLen) :
  OwnRows (w.alloc (.cells (madeCells #[.slice none 0 0] n) tO)) w.heap.size tO e n (List.replicate n (.slice none 0 0)) (List.replicate n []) where
 len := by simp
 outer := row_made w _ n tO hm
 own v u r hu hr := by
  obtain ⟨_, hu⟩ := List.getElem?_eq_some_iff.1 hu
  obtain ⟨_, hr⟩ := List.getElem?_eq_some_iff.1 hr
  simp at hu hr
  subst hu; subst hr
  exact own_nil _ _ _
 young v u g hu hg := by
  obtain ⟨_, hu⟩ := List.getElem?_eq_some_iff.1 hu
  simp at hu; subst hu; simp [Value.ownBlock] at hg
 apart v v' u u' g _ hu _ hg := by
  obtain ⟨_, hu⟩ := List.getElem?_eq_some_iff.1 hu
  simp at hu; subst hu; simp [Value.ownBlock] at hg
theorem one_new {W : World} {b : Nat} {x : Value} (h : W.cell? ⟨b, 0, none⟩ = some x) : ∀ j u, [x][j]? = some u → W.cell? ((⟨b, 0, none⟩ : Addr).add j) = some u := by
 intro j u hj
 cases j with
 | zero => simp at hj; subst hj; simpa [Addr.add] using h
 | succ j => simp at hj
theorem one_ok (k : IntKind) (x : Int) : ∀ u ∈ [Value.int k x], u.oneCell' = true := by intro u hu; simp at hu; subst hu; rfl
theorem grown_cell {w w' : World} {r : Option Nat} {b o : Nat} {x : Value} (hg : w.grownBy w' r) (h : w.cell? ⟨b, o, none⟩ = some x) (hne : r ≠ some b) : w'.cell? ⟨b, o, none⟩ = some x :=
 hg.cell h (fun e => hne e.symm)
theorem grown_frozen {w w' : World} {r : Option Nat} {b o : Nat} (hg : w.grownBy w' r) (hlt : b < w.heap.size) (h : w.frozen? ⟨b, o, none⟩ = false) (hne : r ≠ some b) : w'.frozen? ⟨b, o, none⟩ = false :=
 (World.frozen?_of_block (w := w) (w' := w') (a := ⟨b, o, none⟩) (hg.block b hlt (fun e => hne e.symm))).trans h
end Go.Proofs.YtagcbnpahgfgmaaGreat
namespace Go.Proofs.YtagcbnpahgfgmaaGreat
open Go Go.RowKit
def vN (k : Nat) : Value := .int .i64 (k : Int)
theorem int_info : (Tryz.prog.info? 3).map (fun i => (i.zero, i.size, i.bytes)) = some (some (.int .i64 0), 1, 8) := by kernel_rfl
theorem bool_info : (Tryz.prog.info? 4).map (fun i => (i.zero, i.size, i.bytes)) = some (some (.bool false), 1, 1) := by kernel_rfl
end Go.Proofs.YtagcbnpahgfgmaaGreat
namespace Go.Proofs.YtagcbnpahgfgmaaGreat
open Go Go.RowKit
structure Heads (F : Int → Option Int) (root : Int → Int) : Prop where
 none_ : ∀ x, F x = none → root x = x
 some_ : ∀ x h, F x = some h → 0 ≤ h ∧ h ≤ x ∧ root h = root x ∧ (h = x → root x = x)
 le : ∀ x, root x ≤ x
 nn : ∀ x, 0 ≤ x → 0 ≤ root x
 idem : ∀ x, root (root x) = root x
theorem Heads.start : Heads (fun _ => none) (fun x => x) := ⟨fun _ _ => rfl, (fun x h e => by cases e), fun _ => Int.le_refl _, fun _ h => h, fun _ => rfl⟩
def unite (root : Int → Int) (a b : Int) : Int → Int := fun x => if root x = a ∨ root x = b then min a b else root x
theorem Heads.step {F : Int → Option Int} {root : Int → Int} (h : Heads F root) {x y : Int} (hx : 0 ≤ x) (hy : 0 ≤ y) :
  Heads (updF (updF (updF F (max (root x) (root y)) (min (root x) (root y))) y (min (root x) (root y))) x (min (root x) (root y))) (unite root (root x) (root y)) := by
 have lx := h.le x; have ly := h.le y; have nx := h.nn x hx; have ny := h.nn y hy
 have ix := h.idem x; have iy := h.idem y
 obtain ⟨m, hm⟩ : ∃ m, m = min (root x) (root y) := ⟨_, rfl⟩
 obtain ⟨M, hM⟩ : ∃ M, M = max (root x) (root y) := ⟨_, rfl⟩
 have hmM : (m = root x ∧ M = root y) ∨ (m = root y ∧ M = root x) := by omega
 rw [← hm, ← hM]
 have um : unite root (root x) (root y) m = m := by
  unfold unite
  rw [← hm]
  rw [if_pos]
  rcases hmM with ⟨h1, h2⟩ | ⟨h1, h2⟩
  · left; rw [h1, ix]
  · right; rw [h1, iy]
 have hin : ∀ z, root z = root x ∨ root z = root y → unite root (root x) (root y) z = m := fun z hz => by unfold unite; rw [if_pos hz, hm]
 have hout : ∀ z, ¬ (root z = root x ∨ root z = root y) → unite root (root x) (root y) z = root z := fun z hz => by unfold unite; rw [if_neg hz]
 have hMin : root M = root x ∨ root M = root y := by
  rcases hmM with ⟨h1, h2⟩ | ⟨h1, h2⟩
  · right; rw [h2, iy]
  · left; rw [h2, ix]
 have hcase : ∀ z, (z = M ∨ z = x ∨ z = y) → (unite root (root x) (root y) z = m ∧ m ≤ z) := by
  intro z hz
  rcases hz with rfl | rfl | rfl
  · exact ⟨hin _ hMin, by omega⟩
  · exact ⟨hin _ (.inl rfl), by omega⟩
  · exact ⟨hin _ (.inr rfl), by omega⟩
 have hF : ∀ z, ¬ (z = M ∨ z = x ∨ z = y) → updF (updF (updF F M m) y m) x m z = F z := fun z hz => by
  rw [updF_ne _ _ (fun e => hz (.inr (.inl e))), updF_ne _ _ (fun e => hz (.inr (.inr e))), updF_ne _ _ (fun e => hz (.inl e))]
 have hF2 : ∀ z, (z = M ∨ z = x ∨ z = y) → updF (updF (updF F M m) y m) x m z = some m := fun z hz => by
  unfold updF
  by_cases e1 : z = x
  · rw [if_pos e1]
  ·
   rw [if_neg e1]; by_cases e2 : z = y
   · rw [if_pos e2]
   · rw [if_neg e2, if_pos (hz.resolve_right (fun h => h.elim e1 e2))]
 have hm0 : 0 ≤ m := by omega
 refine ⟨fun z hz => ?_, fun z q hz => ?_, fun z => ?_, fun z hz => ?_, fun z => ?_⟩
 ·
  by_cases hc : z = M ∨ z = x ∨ z = y
  · rw [hF2 z hc] at hz; cases hz
  ·
   rw [hF z hc] at hz; have hr := h.none_ z hz; by_cases hi : root z = root x ∨ root z = root y
   ·
    rw [hin z hi]; rw [hr] at hi; have : z ≠ M := fun e => hc (.inl e); omega
   · rw [hout z hi, hr]
 ·
  by_cases hc : z = M ∨ z = x ∨ z = y
  ·
   rw [hF2 z hc] at hz; cases hz; obtain ⟨h1, h2⟩ := hcase z hc; exact ⟨hm0, h2, by rw [um, h1], fun e => by rw [h1, e]⟩
  ·
   rw [hF z hc] at hz; obtain ⟨h0, h1, h2, h3⟩ := h.some_ z q hz; refine ⟨h0, h1, ?_, fun e => ?_⟩
   ·
    by_cases hi : root z = root x ∨ root z = root y
    · rw [hin z hi, hin q (by rw [h2]; exact hi)]
    · rw [hout z hi, hout q (by rw [h2]; exact hi), h2]
   ·
    have hr := h3 e; by_cases hi : root z = root x ∨ root z = root y
    ·
     rw [hin z hi]; rw [hr] at hi; have : z ≠ M := fun e => hc (.inl e); omega
    · rw [hout z hi, hr]
 ·
  by_cases hi : root z = root x ∨ root z = root y
  · rw [hin z hi]; have := h.le z; omega
  · rw [hout z hi]; exact h.le z
 ·
  by_cases hi : root z = root x ∨ root z = root y
  · rw [hin z hi]; exact hm0
  · rw [hout z hi]; exact h.nn z hz
 ·
  by_cases hi : root z = root x ∨ root z = root y
  · rw [hin z hi, um]
  ·
   rw [hout z hi]; rw [hout (root z) (by rw [h.idem]; exact hi), h.idem]
theorem find_walk (hb B c : Nat) (F : Int → Option Int) (root : Int → Int) (v : Int) (w : World) (hc : w.cell? ⟨hb, 0, none⟩ = some (.map (some B))) (hm : MZ w B c F) (hh : Heads F root) (h0 : 0 ≤ v) (h1 : v ≤ 1048576) :
  Calls Tryz.prog 67 #[.int .i64 v, .pointer (some ⟨hb, 0, none⟩)] w fun e w' => e = .returned (.int .i64 (root v)) ∧ w = w' := by
 have Hh := Lib.hid hh; clear hh
 have l0 := hm.lookOk (v := v) (wfZ_of (by omega))
 go_enter Tryz.func67, Tryz.ntmps67
 go_wp2_with fail
 clear l0
 go_loopg [0, 4, 5] v.toNat (fun r vv hv ok wr => ∃ x : Int, vv = .int .i64 x ∧ hv = .int .i64 ((F x).getD 0) ∧ ok = .bool (F x).isSome ∧ root x = root v ∧ 0 ≤ x ∧ x ≤ v ∧ x.toNat ≤ r ∧ w = wr)
 case atStart => exact ⟨v, rfl, rfl, rfl, rfl, h0, Int.le_refl _, Nat.le_refl _, rfl⟩
 case round =>
  obtain ⟨x, rfl, rfl, rfl, hr, hx0, hx1, hq, rfl⟩ := hrel
  cases hF : F x with
  | none =>
   have e := Hh.out.none_ x hF; have E := Lib.hid e; have Hr := Lib.hid hr; clear e hr hF; go_wp2_with fail; go_ret; exact ⟨by rw [← Hr.out, E.out] <;> rfl, rfl⟩
  | some h =>
   obtain ⟨k0, k1, k2, k3⟩ := Hh.out.some_ x h hF; by_cases e : h = x
   ·
    have e2 := k3 e; subst e; have E := Lib.hid e2; have Hr := Lib.hid hr; clear e2 hr hF k2 k3; go_wp2_with fail; go_ret; exact ⟨by rw [← Hr.out, E.out] <;> rfl, rfl⟩
   ·
    have l1 := hm.lookOk (v := h) (wfZ_of (by omega)); have g1 : (h != x) = true := by simpa using e
    have Hr := Lib.hid hr; have K2 := Lib.hid k2; clear hr hF k2 k3; go_wp2_with fail; go_roundg (gk - 1)
    case measure => omega
    case rel => exact ⟨h, rfl, rfl, rfl, by rw [K2.out, Hr.out], k0, by omega, by omega, rfl⟩
end Go.Proofs.YtagcbnpahgfgmaaGreat
namespace Go.Proofs.YtagcbnpahgfgmaaGreat
open Go Go.RowKit
theorem RootOf.skip {ls : List Lk} {wo : List Int} {root : Int → Int} (h : RootOf ls wo root) {k : Lk} (hk : k.1 ∈ wo ∨ k.2.1 ∈ wo) : RootOf (ls ++ [k]) wo root := fun x y => by
 rw [h x y]
 constructor
 · intro c; exact c.mono fun a ha => by simp [ha]
 ·
  intro c
  induction c with
  | refl => exact .refl
  | step _ h1 h2 h3 h4 ih =>
   rcases List.mem_append.1 h1 with h1 | h1
   · exact ih.step h1 h2 h3 h4
   ·
    simp at h1; subst h1
    rcases hk with hk | hk
    · exact absurd hk h2
    · exact absurd hk h3
theorem RootOf.unite {ls : List Lk} {wo : List Int} {root : Int → Int} (h : RootOf ls wo root) {k : Lk} (h1 : k.1 ∉ wo) (h2 : k.2.1 ∉ wo) : RootOf (ls ++ [k]) wo (unite root (root k.1) (root k.2.1)) := by
 have hk : k ∈ ls ++ [k] := by simp
 have hup : ∀ {x y}, VCon ls wo x y → VCon (ls ++ [k]) wo x y := fun c => c.mono fun a ha => by simp [ha]
 have key : ∀ x y, Go.Proofs.YtagcbnpahgfgmaaGreat.unite root (root k.1) (root k.2.1) x = Go.Proofs.YtagcbnpahgfgmaaGreat.unite root (root k.1) (root k.2.1) y ↔ (root x = root y ∨ ((root x = root k.1 ∨ root x = root k.2.1) ∧ (root y = root k.1 ∨ root y = root k.2.1))) := fun x y => by
  unfold Go.Proofs.YtagcbnpahgfgmaaGreat.unite
  by_cases hx : root x = root k.1 ∨ root x = root k.2.1
  ·
   rw [if_pos hx]; by_cases hy : root y = root k.1 ∨ root y = root k.2.1
   · rw [if_pos hy]; exact ⟨fun _ => .inr ⟨hx, hy⟩, fun _ => rfl⟩
   ·
    rw [if_neg hy]; constructor
    · intro e; exfalso; apply hy; omega
    ·
     rintro (e | ⟨_, e⟩)
     · exfalso; apply hy; rw [← e]; exact hx
     · exact absurd e hy
  ·
   rw [if_neg hx]; by_cases hy : root y = root k.1 ∨ root y = root k.2.1
   ·
    rw [if_pos hy]; constructor
    · intro e; exfalso; apply hx; omega
    ·
     rintro (e | ⟨e, _⟩)
     · exfalso; apply hx; rw [e]; exact hy
     · exact absurd e hx
   ·
    rw [if_neg hy]; exact ⟨fun e => .inl e, fun e => e.resolve_right fun e' => hx e'.1⟩
 have toK : ∀ x, (root x = root k.1 ∨ root x = root k.2.1) → VCon (ls ++ [k]) wo x k.1 := fun x hx => by
  rcases hx with hx | hx
  · exact hup ((h _ _).1 hx)
  · exact (hup ((h _ _).1 hx)).trans (VCon.link hk h1 h2).symm
 intro x y
 rw [key]
 constructor
 ·
  rintro (e | ⟨hx, hy⟩)
  · exact hup ((h _ _).1 e)
  · exact (toK x hx).trans (toK y hy).symm
 ·
  intro c
  induction c with
  | refl => exact .inl rfl
  | step c0 m1 m2 m3 m4 ih =>
   rename_i y z k'; have step : root y = root z ∨ ((root y = root k.1 ∨ root y = root k.2.1) ∧ (root z = root k.1 ∨ root z = root k.2.1)) := by
    rcases List.mem_append.1 m1 with m1 | m1
    · left; exact (h _ _).2 (VCon.refl.step m1 m2 m3 m4)
    ·
     simp at m1; subst m1; rcases m4 with ⟨rfl, rfl⟩ | ⟨rfl, rfl⟩
     · exact .inr ⟨.inl rfl, .inr rfl⟩
     · exact .inr ⟨.inr rfl, .inl rfl⟩
   rcases ih with e | ⟨e1, e2⟩
   · rw [e]; exact step
   ·
    rcases step with e3 | ⟨_, e4⟩
    · rw [e3] at e2; exact .inr ⟨e1, e2⟩
    · exact .inr ⟨e1, e4⟩
def colZ (ls : List Lk) (wo : List Int) (root : Int → Int) (i : Nat) : Int := match ls[i]? with
 | some k => if k.1 ∈ wo then (if k.2.1 ∈ wo then -((i : Int) + 1) else root k.2.1) else root k.1
 | none => -((i : Int) + 1)
theorem col_end {ls : List Lk} {wo : List Int} {root : Int → Int} (h : RootOf ls wo root) {i : Nat} {k : Lk} (hi : ls[i]? = some k) {v : Int} (hv : v ∉ wo) (he : v = k.1 ∨ v = k.2.1) : colZ ls wo root i = root v := by
 have hm := List.mem_of_getElem? hi
 unfold colZ
 rw [hi]
 simp only
 rcases he with rfl | rfl
 · rw [if_neg hv]
 ·
  by_cases h1 : k.1 ∈ wo
  · rw [if_pos h1, if_neg hv]
  ·
   rw [if_neg h1]; exact (h _ _).2 (VCon.link hm h1 hv)
theorem col_iff {ls : List Lk} {wo : List Int} {root : Int → Int} (h : RootOf ls wo root) (hnn : ∀ v, 0 ≤ v → 0 ≤ root v) (hok : ∀ k ∈ ls, OkL k) {i j : Nat} (hi : i < ls.length) (hj : j < ls.length) :
  colZ ls wo root i = colZ ls wo root j ↔ LCon ls wo i j := by
 constructor
 ·
  intro e
  obtain ⟨a, ha⟩ : ∃ a, ls[i]? = some a := ⟨ls[i], by simp⟩
  obtain ⟨b, hb⟩ : ∃ b, ls[j]? = some b := ⟨ls[j], by simp⟩
  have oka := hok a (List.mem_of_getElem? ha)
  have okb := hok b (List.mem_of_getElem? hb)
  have ends : ∀ (m : Nat) (k : Lk), ls[m]? = some k → OkL k → (∃ v, v ∉ wo ∧ (v = k.1 ∨ v = k.2.1) ∧ 0 ≤ v) ∨ colZ ls wo root m = -((m : Int) + 1) := fun m k hm ok => by
   by_cases h1 : k.1 ∈ wo
   ·
    by_cases h2 : k.2.1 ∈ wo
    · right; unfold colZ; rw [hm]; simp only; rw [if_pos h1, if_pos h2]
    · left; exact ⟨_, h2, .inr rfl, by have := ok.1; have := ok.2.1; omega⟩
   · left; exact ⟨_, h1, .inl rfl, ok.1⟩
  rcases ends i a ha oka with ⟨u, u1, u2, u3⟩ | hneg
  ·
   rcases ends j b hb okb with ⟨v, v1, v2, v3⟩ | hneg
   ·
    rw [col_end h ha u1 u2, col_end h hb v1 v2, h] at e; have key : ∀ y, VCon ls wo u y → y ∉ wo → ∀ (m : Nat) (k : Lk), ls[m]? = some k → (y = k.1 ∨ y = k.2.1) → LCon ls wo i m := by
     intro y hy; induction hy with
     | refl =>
      intro _ m k hm hk; exact (show Con (bsL ls wo) (· < ls.length) i i from .refl hi).step (mem_bsL.2 ⟨a, k, ha, hm, (touchB_iff _ _ _).2 ⟨u, u1, u2, hk⟩⟩) (List.getElem?_eq_some_iff.1 hm).1
     | step _c0 m1 m2 m3 m4 ih =>
      rename_i y z k'; intro hz m k hm hk; obtain ⟨p, hp, hpe⟩ := List.getElem_of_mem m1; have hp2 : ls[p]? = some k' := by rw [List.getElem?_eq_getElem hp, hpe]
      have hy1 : y ∉ wo ∧ (y = k'.1 ∨ y = k'.2.1) ∧ (z = k'.1 ∨ z = k'.2.1) := by
       rcases m4 with ⟨e1, e2⟩ | ⟨e1, e2⟩
       · exact ⟨by rw [e1]; exact m2, .inl e1, .inr e2⟩
       · exact ⟨by rw [e1]; exact m3, .inr e1, .inl e2⟩
      have c1 := ih hy1.1 p k' hp2 hy1.2.1; exact c1.step (mem_bsL.2 ⟨k', k, hp2, hm, (touchB_iff _ _ _).2 ⟨z, hz, hy1.2.2, hk⟩⟩) (List.getElem?_eq_some_iff.1 hm).1
    exact key v e v1 j b hb v2
   ·
    exfalso; rw [hneg, col_end h ha u1 u2] at e; have := hnn u u3; omega
  ·
   rcases ends j b hb okb with ⟨v, v1, v2, v3⟩ | hneg2
   ·
    exfalso; rw [hneg, col_end h hb v1 v2] at e; have := hnn v v3; omega
   ·
    rw [hneg, hneg2] at e; have : i = j := by omega
    subst this; exact .refl hi
 ·
  intro c
  induction c with
  | refl _ => rfl
  | step _c0 m1 m2 ih =>
   rename_i y z; obtain ⟨a, b, ha, hb, ht⟩ := mem_bsL.1 m1; obtain ⟨v, v1, v2, v3⟩ := (touchB_iff _ _ _).1 ht; have hy : y < ls.length := (List.getElem?_eq_some_iff.1 ha).1; rw [ih hy, col_end h ha v1 v2, col_end h hb v1 v3]
theorem first_of (c : Nat → Int) (n : Nat) : ∀ j, j < n → ∃ i ∈ firsts c n, c i = c j := by
 intro j
 induction j using Nat.strongRecOn with
 | _ j ih =>
  intro hj
  by_cases h : ∀ i, i < j → c i ≠ c j
  · exact ⟨j, mem_firsts.2 ⟨hj, h⟩, rfl⟩
  ·
   have : ∃ i, i < j ∧ c i = c j := Classical.byContradiction fun hno => h fun i hi e => hno ⟨i, hi, e⟩; obtain ⟨i, hi, e⟩ := this; obtain ⟨m, hm, e2⟩ := ih i hi (by omega); exact ⟨m, hm, e2.trans e⟩
def AtOf (A : Int → Option Int) (c : Nat → Int) (k : Nat) : Prop :=
 (∀ v q, A v = some q → ∃ p i : Nat, q = (p : Int) ∧ (firsts c k)[p]? = some i ∧ c i = v) ∧ (∀ v, 0 ≤ v → A v = none → ∀ i ∈ firsts c k, c i ≠ v)
theorem AtOf.start (c : Nat → Int) : AtOf (fun _ => none) c 0 := ⟨(fun v q h => by cases h), fun v _ _ i hi => by simp [firsts] at hi⟩
theorem AtOf.neg {A : Int → Option Int} {c : Nat → Int} {k : Nat} (h : AtOf A c k) (hn : ∀ j, j < k → c j ≠ c k) (hk : c k < 0) : AtOf A c (k + 1) := by
 refine ⟨fun v q hq => ?_, fun v hv hq i hi => ?_⟩
 ·
  obtain ⟨p, i, h1, h2, h3⟩ := h.1 v q hq
  exact ⟨p, i, h1, by rw [firsts_succ, if_pos hn, List.getElem?_append_left (List.getElem?_eq_some_iff.1 h2).1]; exact h2, h3⟩
 ·
  rw [firsts_succ, if_pos hn] at hi
  rcases List.mem_append.1 hi with hi | hi
  · exact h.2 v hv hq i hi
  · simp at hi; subst hi; omega
theorem AtOf.old {A : Int → Option Int} {c : Nat → Int} {k p i : Nat} (h : AtOf A c k) (hp : (firsts c k)[p]? = some i) (hc : c i = c k) : AtOf A c (k + 1) := by
 have hi := (mem_firsts.1 (List.mem_of_getElem? hp)).1
 have e : firsts c (k + 1) = firsts c k := by rw [firsts_succ, if_neg (fun hn => hn i hi hc), List.append_nil]
 unfold AtOf
 rw [e]; exact h
theorem AtOf.fresh {A : Int → Option Int} {c : Nat → Int} {k : Nat} (h : AtOf A c k) (hk : 0 ≤ c k) (hA : A (c k) = none) : ∀ j, j < k → c j ≠ c k := fun j hj e => by
 obtain ⟨i, hi, e2⟩ := first_of c k j hj
 exact h.2 _ hk hA i hi (e2.trans e)
theorem AtOf.new {A : Int → Option Int} {c : Nat → Int} {k : Nat} (h : AtOf A c k) (hk : 0 ≤ c k) (hA : A (c k) = none) : AtOf (updF A (c k) ((firsts c k).length : Int)) c (k + 1) := by
 have hn := h.fresh hk hA
 have e : firsts c (k + 1) = firsts c k ++ [k] := by rw [firsts_succ, if_pos hn]
 refine ⟨fun v q hq => ?_, fun v hv hq i hi => ?_⟩
 ·
  by_cases ev : v = c k
  ·
   subst ev; rw [updF_same] at hq; cases hq; exact ⟨_, k, rfl, by rw [e]; simp, rfl⟩
  ·
   rw [updF_ne _ _ ev] at hq; obtain ⟨p, i, h1, h2, h3⟩ := h.1 v q hq; exact ⟨p, i, h1, by rw [e, List.getElem?_append_left (List.getElem?_eq_some_iff.1 h2).1]; exact h2, h3⟩
 ·
  by_cases ev : v = c k
  · subst ev; rw [updF_same] at hq; cases hq
  ·
   rw [updF_ne _ _ ev] at hq; rw [e] at hi; rcases List.mem_append.1 hi with hi | hi
   · exact h.2 v hv hq i hi
   · simp at hi; subst hi; exact fun e => ev e.symm
theorem col_neg {ls : List Lk} {wo : List Int} {root : Int → Int} (hnn : ∀ v, 0 ≤ v → 0 ≤ root v) (hok : ∀ k ∈ ls, OkL k) {k : Nat} {x : Lk} (hk : ls[k]? = some x) (h1 : x.1 ∈ wo) (h2 : x.2.1 ∈ wo) :
  colZ ls wo root k < 0 ∧ ∀ j, j < k → colZ ls wo root j ≠ colZ ls wo root k := by
 have e : colZ ls wo root k = -((k : Int) + 1) := by unfold colZ; rw [hk]; simp only; rw [if_pos h1, if_pos h2]
 refine ⟨by omega, fun j hj e2 => ?_⟩
 rw [e] at e2
 unfold colZ at e2
 cases hy : ls[j]? with
 | none => rw [hy] at e2; simp only at e2; omega
 | some y =>
  have ok := hok y (List.mem_of_getElem? hy)
  rw [hy] at e2
  simp only at e2
  have h3 := hnn y.1 ok.1
  have h4 := hnn y.2.1 (by have := ok.1; have := ok.2.1; omega)
  split at e2
  ·
   split at e2
   · omega
   · omega
  · omega
theorem pickL_append (ls : List Lk) (a b : List Nat) : pickL ls (a ++ b) = pickL ls a ++ pickL ls b := by simp [pickL]
theorem pickL_one {ls : List Lk} {i : Nat} {k : Lk} (h : ls[i]? = some k) : pickL ls [i] = [k] := by simp [pickL, h]
theorem pickL_length_le (ls : List Lk) (g : List Nat) : (pickL ls g).length ≤ g.length := List.length_filterMap_le _ _
end Go.Proofs.YtagcbnpahgfgmaaGreat
namespace Go.Proofs.YtagcbnpahgfgmaaGreat
theorem right_nodup {ls : List Lk} (h : RightL ls) : ls.Nodup := h.2.2.imp fun h e => by subst e; exact LtL.irrefl _ h
theorem right_sub {ls r : List Lk} (h : RightL ls) (hs : r.Sublist ls) : RightL r := ⟨Nat.le_trans hs.length_le h.1, fun k hk => h.2.1 k (hs.subset hk), h.2.2.sublist hs⟩
theorem nodup_idx {α : Type} {l : List α} (h : l.Nodup) {i j : Nat} {x : α} (hi : l[i]? = some x) (hj : l[j]? = some x) : i = j := by
 obtain ⟨h1, e1⟩ := List.getElem?_eq_some_iff.1 hi
 obtain ⟨h2, e2⟩ := List.getElem?_eq_some_iff.1 hj
 have hp := List.pairwise_iff_getElem.1 h
 rcases Nat.lt_trichotomy i j with e | e | e
 · exact absurd (e1.trans e2.symm) (hp i j h1 h2 e)
 · exact e
 · exact absurd (e2.trans e1.symm) (hp j i h2 h1 e)
theorem pick_range (ls : List Lk) : ∀ n, n ≤ ls.length → pickL ls (List.range n) = ls.take n := by
 intro n
 induction n with
 | zero => intro _; simp [pickL]
 | succ n ih =>
  intro h
  rw [List.range_succ, pickL_append, ih (by omega), pickL_one (List.getElem?_eq_getElem (by omega)), List.take_succ_eq_append_getElem (by omega)]
theorem pick_sub {ls : List Lk} {p : Nat → Bool} : (pickL ls ((List.range ls.length).filter p)).Sublist ls := by
 have h1 : ((List.range ls.length).filter p).Sublist (List.range ls.length) := List.filter_sublist
 have h2 := h1.filterMap (fun i => ls[i]?)
 have h3 := pick_range ls ls.length (Nat.le_refl _)
 rw [List.take_length] at h3
 unfold pickL at h3 ⊢
 rw [h3] at h2
 exact h2
theorem groups_len_le (ls : List Lk) (wo : List Int) : (groupsL ls wo).length ≤ 1000 := by
 unfold groupsL
 split
 ·
  rename_i h
  rw [List.length_map, gIdx_length]
  have := firsts_length_le (compC ls.length (bsL ls wo)) ls.length
  have := ((rightL_iff ls).1 h).1
  omega
 · simp
structure GrpAt (ls : List Lk) (wo : List Int) (r : List Lk) (i0 : Nat) : Prop where
 sub : r.Sublist ls
 lt : i0 < ls.length
 mem : ∀ e, e ∈ r ↔ ∃ j, ls[j]? = some e ∧ LCon ls wo i0 j
theorem LCon.lt_left {ls : List Lk} {wo : List Int} {i j : Nat} (h : LCon ls wo i j) : i < ls.length := Con.left (S := (· < ls.length)) h
theorem LCon.lt_right {ls : List Lk} {wo : List Int} {i j : Nat} (h : LCon ls wo i j) : j < ls.length := Con.right (S := (· < ls.length)) h
theorem LCon.symm {ls : List Lk} {wo : List Int} {i j : Nat} (h : LCon ls wo i j) : LCon ls wo j i := Con.symm (bsL_symm ls wo) h
theorem grp_at {ls : List Lk} {wo : List Int} (hr : rightL ls = true) {p : Nat} {r : List Lk} (h : (groupsL ls wo)[p]? = some r) :
  ∃ i0, (firsts (compC ls.length (bsL ls wo)) ls.length)[p]? = some i0 ∧ GrpAt ls wo r i0 := by
 unfold groupsL at h
 rw [if_pos hr, List.getElem?_map] at h
 unfold gIdx at h
 rw [List.getElem?_map] at h
 cases hf : (firsts (compC ls.length (bsL ls wo)) ls.length)[p]? with
 | none => rw [hf] at h; cases h
 | some i0 =>
  rw [hf] at h
  simp only [Option.map_some, Option.some.injEq] at h
  have hi := (mem_firsts.1 (List.mem_of_getElem? hf)).1
  refine ⟨i0, rfl, by rw [← h]; exact pick_sub, hi, fun e => ?_⟩
  rw [← h]
  unfold pickL
  rw [List.mem_filterMap]
  constructor
  ·
   rintro ⟨j, hj, he⟩; rw [mem_ofCol] at hj; exact ⟨j, he, LCon.symm (ls := ls) (wo := wo) ((compC_eq (bsL_symm ls wo) hj.1 hi).1 hj.2)⟩
  ·
   rintro ⟨j, he, hc⟩; exact ⟨j, mem_ofCol.2 ⟨hc.lt_right, (compC_eq (bsL_symm ls wo) hc.lt_right hi).2 (LCon.symm hc)⟩, he⟩
theorem grp_differ {ls : List Lk} {wo : List Int} {p q i j : Nat} (hi : (firsts (compC ls.length (bsL ls wo)) ls.length)[p]? = some i) (hj : (firsts (compC ls.length (bsL ls wo)) ls.length)[q]? = some j) (hne : p ≠ q) : ¬ LCon ls wo i j := fun hc => by
 have h1 := List.mem_of_getElem? hi
 have h2 := List.mem_of_getElem? hj
 have he := (compC_eq (bsL_symm ls wo) hc.lt_left hc.lt_right).2 hc
 have := firsts_inj h1 h2 he
 subst this
 exact hne (nodup_idx (firsts_nodup _ _) hi hj)
theorem GrpAt.self {ls : List Lk} {wo : List Int} {r : List Lk} {i0 : Nat} (G : GrpAt ls wo r i0) : ls[i0]'G.lt ∈ r := (G.mem _).2 ⟨i0, List.getElem?_eq_getElem G.lt, .refl G.lt⟩
theorem GrpAt.con {ls : List Lk} {wo : List Int} {r : List Lk} {i0 : Nat} (hR : RightL ls) (G : GrpAt ls wo r i0) {j : Nat} {e : Lk} (hj : ls[j]? = some e) : e ∈ r ↔ LCon ls wo i0 j := by
 rw [G.mem]
 constructor
 ·
  rintro ⟨k, hk, hc⟩
  rw [nodup_idx (right_nodup hR) hj hk]; exact hc
 · exact fun hc => ⟨j, hj, hc⟩
theorem grp_touch {ls : List Lk} {wo : List Int} {r s : List Lk} {i j : Nat} (hR : RightL ls) (G : GrpAt ls wo r i) (H : GrpAt ls wo s j) (hn : ¬ LCon ls wo i j) {e f : Lk} (he : e ∈ r) (hf : f ∈ s) : touchB wo e f = false := by
 cases ht : touchB wo e f with
 | false => rfl
 | true =>
  obtain ⟨a, ha, hca⟩ := (G.mem e).1 he
  obtain ⟨b, hb, hcb⟩ := (H.mem f).1 hf
  exact absurd (Con.trans (Con.step hca (mem_bsL.2 ⟨e, f, ha, hb, ht⟩) hcb.lt_right) hcb.symm) hn
theorem grp_all {ls : List Lk} {wo : List Int} (hR : RightL ls) {j : Nat} {e : Lk} (hj : ls[j]? = some e) : ∃ (p : Nat) (r : List Lk), (groupsL ls wo)[p]? = some r ∧ e ∈ r := by
 have hr := (rightL_iff ls).2 hR
 have hjl := (List.getElem?_eq_some_iff.1 hj).1
 have hex : ∀ j, j < ls.length → ∃ i ∈ firsts (compC ls.length (bsL ls wo)) ls.length, compC ls.length (bsL ls wo) i = compC ls.length (bsL ls wo) j := by
  intro j
  induction j using Nat.strongRecOn with
  | _ j ih =>
   intro hj; by_cases h : ∀ k, k < j → compC ls.length (bsL ls wo) k ≠ compC ls.length (bsL ls wo) j
   · exact ⟨j, mem_firsts.2 ⟨hj, h⟩, rfl⟩
   ·
    simp only [Classical.not_forall, Decidable.not_not] at h; obtain ⟨k, hk, e⟩ := h; obtain ⟨i, hi, e2⟩ := ih k hk (by omega); exact ⟨i, hi, e2.trans e⟩
 obtain ⟨i, hi, e2⟩ := hex j hjl
 obtain ⟨p, hp⟩ := List.getElem?_of_mem hi
 have hpg : (groupsL ls wo)[p]? = some (pickL ls (ofCol (compC ls.length (bsL ls wo)) ls.length (compC ls.length (bsL ls wo) i))) := by
  unfold groupsL
  rw [if_pos hr, List.getElem?_map, gIdx_get _ _ _ _ hp]; rfl
 refine ⟨p, _, hpg, ?_⟩
 unfold pickL
 exact List.mem_filterMap.2 ⟨j, mem_ofCol.2 ⟨hjl, e2.symm⟩, hj⟩
theorem grp_perm {ls : List Lk} {wo : List Int} (hR : RightL ls) : (groupsL ls wo).flatten.Perm ls := by
 have hr := (rightL_iff ls).2 hR
 refine (List.perm_ext_iff_of_nodup ?_ (right_nodup hR)).2 fun e => ?_
 ·
  unfold List.Nodup
  rw [List.pairwise_flatten]
  refine ⟨fun r hm => ?_, ?_⟩
  ·
   obtain ⟨p, hp⟩ := List.getElem?_of_mem hm; obtain ⟨i, _, G⟩ := grp_at hr hp; exact right_nodup (right_sub hR G.sub)
  ·
   rw [List.pairwise_iff_getElem]; intro p q hp hq hlt x hx y hy e; subst e; obtain ⟨i, hi, G⟩ := grp_at hr (List.getElem?_eq_getElem hp); obtain ⟨j, hj, H⟩ := grp_at hr (List.getElem?_eq_getElem hq); obtain ⟨a, ha, hca⟩ := (G.mem x).1 hx; exact grp_differ hi hj (by omega) (Con.trans hca ((H.con hR ha).1 hy).symm)
 ·
  constructor
  ·
   intro he; obtain ⟨r, hm, he⟩ := List.mem_flatten.1 he; obtain ⟨p, hp⟩ := List.getElem?_of_mem hm; obtain ⟨i, _, G⟩ := grp_at hr hp; exact G.sub.subset he
  ·
   intro he; obtain ⟨j, hj⟩ := List.getElem?_of_mem he; obtain ⟨p, r, hp, her⟩ := grp_all (wo := wo) hR hj; exact List.mem_flatten.2 ⟨r, List.mem_of_getElem? hp, her⟩
end Go.Proofs.YtagcbnpahgfgmaaGreat
namespace Go.Proofs.YtagcbnpahgfgmaaGreat
def joinedL (ls : List Lk) : Bool := (groupsL ls []).length == 1
def twoL (ls : List Lk) : Bool := joinedL ls && (decide ((vertsL ls).length ≤ 2) || (vertsL ls).all fun v => (groupsL ls [v]).length == 1)
theorem groups_one {ls : List Lk} {wo : List Int} (hr : rightL ls = true) : (groupsL ls wo).length = 1 ↔ ls ≠ [] ∧ ∀ i j, i < ls.length → j < ls.length → LCon ls wo i j := by
 unfold groupsL
 rw [if_pos hr, List.length_map, gIdx_length]
 have heq : ∀ i j, i < ls.length → j < ls.length → (compC ls.length (bsL ls wo) i = compC ls.length (bsL ls wo) j ↔ LCon ls wo i j) := fun i j hi hj => compC_eq (bsL_symm ls wo) hi hj
 constructor
 ·
  intro h
  obtain ⟨a, ha⟩ := List.length_eq_one_iff.1 h
  have hne : ls ≠ [] := fun e => by subst e; simp [firsts] at h
  refine ⟨hne, ?_⟩
  have hall : ∀ j, j < ls.length → compC ls.length (bsL ls wo) a = compC ls.length (bsL ls wo) j := by
   intro j; induction j using Nat.strongRecOn with
   | _ j ih =>
    intro hj; by_cases hf : ∀ i, i < j → compC ls.length (bsL ls wo) i ≠ compC ls.length (bsL ls wo) j
    ·
     have : j ∈ firsts (compC ls.length (bsL ls wo)) ls.length := mem_firsts.2 ⟨hj, hf⟩; rw [ha] at this; simp at this; rw [this]
    ·
     have : ∃ i, i < j ∧ compC ls.length (bsL ls wo) i = compC ls.length (bsL ls wo) j := Classical.byContradiction fun hno => hf fun i hi e => hno ⟨i, hi, e⟩; obtain ⟨i, hi, e⟩ := this; exact (ih i hi (by omega)).trans e
  intro i j hi hj
  exact (heq i j hi hj).1 ((hall i hi).symm.trans (hall j hj))
 ·
  rintro ⟨hne, hall⟩
  have hpos : 0 < ls.length := List.length_pos_iff.2 hne
  have hf : firsts (compC ls.length (bsL ls wo)) ls.length = [0] := by
   have h0 : 0 ∈ firsts (compC ls.length (bsL ls wo)) ls.length := mem_firsts.2 ⟨hpos, fun j hj => absurd hj (Nat.not_lt_zero _)⟩; have hu : ∀ i ∈ firsts (compC ls.length (bsL ls wo)) ls.length, i = 0 := fun i hi => by
    have h1 := mem_firsts.1 hi; rcases Nat.eq_zero_or_pos i with e | e
    · exact e
    · exact absurd ((heq 0 i hpos h1.1).2 (hall 0 i hpos h1.1)) (h1.2 0 e)
   have hn := firsts_nodup (compC ls.length (bsL ls wo)) ls.length; cases hl : firsts (compC ls.length (bsL ls wo)) ls.length with
   | nil => rw [hl] at h0; simp at h0
   | cons a r =>
    rw [hl] at hu hn; have ea := hu a (by simp); cases r with
    | nil => rw [ea]
    | cons b r' =>
     have eb := hu b (by simp); rw [ea, eb] at hn; simp at hn
  rw [hf]; rfl
theorem VCon.of_lcon {ls : List Lk} {wo : List Int} {i j : Nat} (h : LCon ls wo i j) {a b : Lk} (ha : ls[i]? = some a) {u : Int} (hu : u ∉ wo) (hua : u = a.1 ∨ u = a.2.1) : ∀ (_ : ls[j]? = some b) {v : Int} (_ : v ∉ wo) (_ : v = b.1 ∨ v = b.2.1), VCon ls wo u v := by
 have same : ∀ {k : Lk}, k ∈ ls → ∀ {x y : Int}, x ∉ wo → y ∉ wo → (x = k.1 ∨ x = k.2.1) → (y = k.1 ∨ y = k.2.1) → VCon ls wo x y := fun {k} hk {x y} hx hy h1 h2 => by
  rcases h1 with rfl | rfl <;> rcases h2 with rfl | rfl
  · exact .refl
  · exact VCon.link hk hx hy
  · exact (VCon.link hk hy hx).symm
  · exact .refl
 induction h generalizing b with
 | refl _ =>
  intro hb v hv hvb
  rw [ha] at hb; cases hb
  exact same (List.mem_of_getElem? ha) hu hv hua hvb
 | step _c0 m1 m2 ih =>
  intro hb v hv hvb
  obtain ⟨c, d, hc, hd, ht⟩ := mem_bsL.1 m1
  rw [hb] at hd; cases hd
  obtain ⟨w, w1, w2, w3⟩ := (touchB_iff _ _ _).1 ht
  exact (ih hc w1 w2).trans (same (List.mem_of_getElem? hb) w1 hv w3 hvb)
theorem LCon.of_vcon {ls : List Lk} {wo : List Int} {i j : Nat} {a b : Lk} (ha : ls[i]? = some a) (hb : ls[j]? = some b) {u v : Int} (hu : u ∉ wo) (hv : v ∉ wo) (hua : u = a.1 ∨ u = a.2.1) (hvb : v = b.1 ∨ v = b.2.1) (h : VCon ls wo u v) : LCon ls wo i j := by
 have hi : i < ls.length := (List.getElem?_eq_some_iff.1 ha).1
 have key : ∀ y, VCon ls wo u y → y ∉ wo → ∀ (m : Nat) (k : Lk), ls[m]? = some k → (y = k.1 ∨ y = k.2.1) → LCon ls wo i m := by
  intro y hy
  induction hy with
  | refl =>
   intro _ m k hm hk; exact (show Con (bsL ls wo) (· < ls.length) i i from .refl hi).step (mem_bsL.2 ⟨a, k, ha, hm, (touchB_iff _ _ _).2 ⟨u, hu, hua, hk⟩⟩) (List.getElem?_eq_some_iff.1 hm).1
  | step _c0 m1 m2 m3 m4 ih =>
   rename_i y z k'; intro hz m k hm hk; obtain ⟨p, hp, hpe⟩ := List.getElem_of_mem m1; have hp2 : ls[p]? = some k' := by rw [List.getElem?_eq_getElem hp, hpe]
   have hy1 : y ∉ wo ∧ (y = k'.1 ∨ y = k'.2.1) ∧ (z = k'.1 ∨ z = k'.2.1) := by
    rcases m4 with ⟨e1, e2⟩ | ⟨e1, e2⟩
    · exact ⟨by rw [e1]; exact m2, .inl e1, .inr e2⟩
    · exact ⟨by rw [e1]; exact m3, .inr e1, .inl e2⟩
   have c1 := ih hy1.1 p k' hp2 hy1.2.1; exact c1.step (mem_bsL.2 ⟨k', k, hp2, hm, (touchB_iff _ _ _).2 ⟨z, hz, hy1.2.2, hk⟩⟩) (List.getElem?_eq_some_iff.1 hm).1
 exact key v h hv j b hb hvb
theorem groups_one_v {ls : List Lk} {wo : List Int} (hr : rightL ls = true) (hne : ls ≠ []) (hwo : wo.length ≤ 1) : (groupsL ls wo).length = 1 ↔ ∀ u v, u ∈ vertsL ls → v ∈ vertsL ls → u ∉ wo → v ∉ wo → VCon ls wo u v := by
 have hR := (rightL_iff ls).1 hr
 rw [groups_one hr]
 constructor
 ·
  rintro ⟨_, h⟩ u v hu hv huw hvw
  obtain ⟨a, ha, hua⟩ := (mem_vertsL ls u).1 hu
  obtain ⟨b, hb, hvb⟩ := (mem_vertsL ls v).1 hv
  obtain ⟨i, hi, hie⟩ := List.getElem_of_mem ha
  obtain ⟨j, hj, hje⟩ := List.getElem_of_mem hb
  exact VCon.of_lcon (h i j hi hj) (by rw [List.getElem?_eq_getElem hi, hie]) huw hua (by rw [List.getElem?_eq_getElem hj, hje]) hvw hvb
 ·
  intro h
  refine ⟨hne, fun i j hi hj => ?_⟩
  have ends : ∀ k ∈ ls, ∃ u, u ∉ wo ∧ (u = k.1 ∨ u = k.2.1) := fun k hk => by
   have ok := hR.2.1 k hk; by_cases h1 : k.1 ∈ wo
   ·
    refine ⟨k.2.1, fun h2 => ?_, .inr rfl⟩; match wo, hwo with
    | [], _ => simp at h1
    | [x], _ => simp at h1 h2; have := ok.2.1; omega
   · exact ⟨k.1, h1, .inl rfl⟩
  obtain ⟨u, u1, u2⟩ := ends _ (List.getElem_mem hi)
  obtain ⟨v, v1, v2⟩ := ends _ (List.getElem_mem hj)
  exact LCon.of_vcon (by simp) (by simp) u1 v1 u2 v2 (h u v ((mem_vertsL ls u).2 ⟨_, List.getElem_mem hi, u2⟩) ((mem_vertsL ls v).2 ⟨_, List.getElem_mem hj, v2⟩) u1 v1)
def nbN (vs : List Int) (ls : List Lk) (i : Nat) : List Nat := ls.flatMap fun k => if vs.idxOf k.1 = i then [vs.idxOf k.2.1] else if vs.idxOf k.2.1 = i then [vs.idxOf k.1] else []
theorem idxOf_get {vs : List Int} (h : vs.Nodup) {i : Nat} (hi : i < vs.length) : vs.idxOf vs[i] = i := List.Nodup.idxOf_getElem h i hi
theorem get_idxOf {vs : List Int} {x : Int} (h : x ∈ vs) : vs[vs.idxOf x]? = some x := by
 rw [List.getElem?_eq_getElem (List.idxOf_lt_length_of_mem h), List.getElem_idxOf]
theorem verts_nodup (ls : List Lk) : (vertsL ls).Nodup := (vertsL_sorted ls).imp fun h e => by omega
theorem idxOf_inj {vs : List Int} {x y : Int} (hx : x ∈ vs) (hy : y ∈ vs) (h : vs.idxOf x = vs.idxOf y) : x = y := by
 have h1 := get_idxOf hx
 have h2 := get_idxOf hy
 rw [h, h2] at h1
 exact (Option.some.inj h1).symm
theorem mem_nbN {ls : List Lk} (hok : ∀ k ∈ ls, OkL k) {i j : Nat} : j ∈ nbN (vertsL ls) ls i ↔ ∃ k ∈ ls, ((vertsL ls).idxOf k.1 = i ∧ (vertsL ls).idxOf k.2.1 = j) ∨ ((vertsL ls).idxOf k.2.1 = i ∧ (vertsL ls).idxOf k.1 = j) := by
 unfold nbN
 rw [List.mem_flatMap]
 constructor
 ·
  rintro ⟨k, hk, hj⟩
  refine ⟨k, hk, ?_⟩
  split at hj
  · rename_i h; simp at hj; exact .inl ⟨h, hj.symm⟩
  ·
   split at hj
   · rename_i h; simp at hj; exact .inr ⟨h, hj.symm⟩
   · simp at hj
 ·
  rintro ⟨k, hk, ⟨h1, h2⟩ | ⟨h1, h2⟩⟩
  · exact ⟨k, hk, by rw [if_pos h1]; simp [h2]⟩
  ·
   refine ⟨k, hk, ?_⟩; have hne : (vertsL ls).idxOf k.1 ≠ i := fun e => by
    have := idxOf_inj ((mem_vertsL ls _).2 ⟨k, hk, .inl rfl⟩) ((mem_vertsL ls _).2 ⟨k, hk, .inr rfl⟩) (e.trans h1.symm); have := (hok k hk).2.1; omega
   rw [if_neg hne, if_pos h1]; simp [h2]
theorem nbN_symm {ls : List Lk} (hok : ∀ k ∈ ls, OkL k) : ∀ a b, b ∈ nbN (vertsL ls) ls a → a ∈ nbN (vertsL ls) ls b := fun a b h => by
 rw [mem_nbN hok] at h ⊢
 obtain ⟨k, hk, h⟩ := h
 exact ⟨k, hk, h.elim (fun e => .inr ⟨e.2, e.1⟩) (fun e => .inl ⟨e.2, e.1⟩)⟩
theorem nbN_lt {ls : List Lk} (hok : ∀ k ∈ ls, OkL k) {a b : Nat} (h : b ∈ nbN (vertsL ls) ls a) : b < (vertsL ls).length ∧ a < (vertsL ls).length := by
 obtain ⟨k, hk, h⟩ := (mem_nbN hok).1 h
 have h1 := List.idxOf_lt_length_of_mem ((mem_vertsL ls _).2 ⟨k, hk, .inl rfl⟩)
 have h2 := List.idxOf_lt_length_of_mem ((mem_vertsL ls _).2 ⟨k, hk, .inr rfl⟩)
 rcases h with ⟨e1, e2⟩ | ⟨e1, e2⟩
 · rw [← e1, ← e2]; exact ⟨h2, h1⟩
 · rw [← e1, ← e2]; exact ⟨h1, h2⟩
theorem nbN_len (vs : List Int) (ls : List Lk) (i : Nat) : (nbN vs ls i).length ≤ ls.length := by
 unfold nbN
 induction ls with
 | nil => simp
 | cons k r ih =>
  rw [List.flatMap_cons, List.length_append]
  have : (if vs.idxOf k.1 = i then [vs.idxOf k.2.1] else if vs.idxOf k.2.1 = i then [vs.idxOf k.1] else []).length ≤ 1 := by
   split
   · simp
   · split <;> simp
  simp only [List.length_cons]; omega
theorem con_vcon {ls : List Lk} (hok : ∀ k ∈ ls, OkL k) {wo : List Int} {S : Nat → Prop} (hS : ∀ x, x < (vertsL ls).length → (S x ↔ ∀ v, (vertsL ls)[x]? = some v → v ∉ wo)) {u v : Int} (hu : u ∈ vertsL ls) (hv : v ∈ vertsL ls) (huw : u ∉ wo) (hvw : v ∉ wo) :
  Con (nbN (vertsL ls) ls) S ((vertsL ls).idxOf u) ((vertsL ls).idxOf v) ↔ VCon ls wo u v := by
 have hSv : ∀ {x}, x ∈ vertsL ls → x ∉ wo → S ((vertsL ls).idxOf x) := fun {x} hx hxw => (hS _ (List.idxOf_lt_length_of_mem hx)).2 fun y hy => by
  rw [get_idxOf hx] at hy; cases hy; exact hxw
 constructor
 ·
  intro h
  have key : ∀ y, Con (nbN (vertsL ls) ls) S ((vertsL ls).idxOf u) y → ∀ z, z ∈ vertsL ls → (vertsL ls).idxOf z = y → VCon ls wo u z := by
   intro y hy; induction hy with
   | refl _ => intro z hz e; have := idxOf_inj hu hz e.symm; subst this; exact .refl
   | step c0 m1 m2 ih =>
    rename_i y z'; intro z hz e; obtain ⟨k, hk, hcase⟩ := (mem_nbN hok).1 m1; have a1 := (mem_vertsL ls _).2 ⟨k, hk, .inl (rfl : k.1 = k.1)⟩; have a2 := (mem_vertsL ls _).2 ⟨k, hk, .inr (rfl : k.2.1 = k.2.1)⟩; have hyS := c0.right; rcases hcase with ⟨e1, e2⟩ | ⟨e1, e2⟩
    ·
     have ez : z = k.2.1 := idxOf_inj hz a2 (by rw [e, e2]); have n1 : k.1 ∉ wo := (hS y (by rw [← e1]; exact List.idxOf_lt_length_of_mem a1)).1 hyS _ (by rw [← e1]; exact get_idxOf a1); have n2 : k.2.1 ∉ wo := (hS z' (by rw [← e2]; exact List.idxOf_lt_length_of_mem a2)).1 m2 _ (by rw [← e2]; exact get_idxOf a2); rw [ez]; exact (ih k.1 a1 e1).trans (VCon.link hk n1 n2)
    ·
     have ez : z = k.1 := idxOf_inj hz a1 (by rw [e, e2]); have n2 : k.2.1 ∉ wo := (hS y (by rw [← e1]; exact List.idxOf_lt_length_of_mem a2)).1 hyS _ (by rw [← e1]; exact get_idxOf a2); have n1 : k.1 ∉ wo := (hS z' (by rw [← e2]; exact List.idxOf_lt_length_of_mem a1)).1 m2 _ (by rw [← e2]; exact get_idxOf a1); rw [ez]; exact (ih k.2.1 a2 e1).trans (VCon.link hk n1 n2).symm
  exact key _ h v hv rfl
 ·
  intro h
  have key : ∀ z, VCon ls wo u z → Con (nbN (vertsL ls) ls) S ((vertsL ls).idxOf u) ((vertsL ls).idxOf z) := by
   intro z hz; induction hz with
   | refl => exact .refl (hSv hu huw)
   | step _c0 m1 m2 m3 m4 ih =>
    rename_i y z k; have a1 := (mem_vertsL ls _).2 ⟨k, m1, .inl (rfl : k.1 = k.1)⟩; have a2 := (mem_vertsL ls _).2 ⟨k, m1, .inr (rfl : k.2.1 = k.2.1)⟩; rcases m4 with ⟨rfl, rfl⟩ | ⟨rfl, rfl⟩
    · exact ih.step ((mem_nbN hok).2 ⟨k, m1, .inl ⟨rfl, rfl⟩⟩) (hSv a2 m3)
    · exact ih.step ((mem_nbN hok).2 ⟨k, m1, .inr ⟨rfl, rfl⟩⟩) (hSv a1 m2)
  exact key v h
theorem two_cuts {ls : List Lk} (hr : rightL ls = true) (h3 : 3 ≤ (vertsL ls).length) {j : Bool} {cut : Nat → Bool} (h : CutSpec (vertsL ls).length (nbN (vertsL ls) ls) (-1) j cut) :
  (j = true ↔ joinedL ls = true) ∧ (j = true → ∀ u v, (vertsL ls)[u]? = some v → (cut u = false ↔ (groupsL ls [v]).length = 1)) := by
 have hR := (rightL_iff ls).1 hr
 have hne : ls ≠ [] := fun e => by subst e; simp [vertsL, endsL] at h3
 have hok := hR.2.1
 have pres : ∀ x, Pres (vertsL ls).length (-1) x ↔ x < (vertsL ls).length := fun x => ⟨fun h => h.1, fun h => ⟨h, by omega⟩⟩
 refine ⟨?_, ?_⟩
 ·
  rw [h.join_iff]
  unfold joinedL
  rw [beq_iff_eq, groups_one_v hr hne (by simp)]
  have hS : ∀ x, x < (vertsL ls).length → (Pres (vertsL ls).length (-1) x ↔ ∀ v, (vertsL ls)[x]? = some v → v ∉ ([] : List Int)) := fun x hx => by simp [pres, hx]
  constructor
  ·
   intro hc u v hu hv _ _; exact (con_vcon hok hS hu hv (by simp) (by simp)).1 (hc _ _ ((pres _).2 (List.idxOf_lt_length_of_mem hu)) ((pres _).2 (List.idxOf_lt_length_of_mem hv)))
  ·
   intro hc x y hx hy; have hx' := (pres x).1 hx; have hy' := (pres y).1 hy; have := (con_vcon hok hS (List.getElem_mem hx') (List.getElem_mem hy') (by simp) (by simp)).2 (hc _ _ (List.getElem_mem hx') (List.getElem_mem hy') (by simp) (by simp)); rwa [idxOf_get (verts_nodup ls) hx', idxOf_get (verts_nodup ls) hy'] at this
 ·
  intro hj u v hv
  have hu : u < (vertsL ls).length := (List.getElem?_eq_some_iff.1 hv).1
  have hve : (vertsL ls)[u] = v := by rw [List.getElem?_eq_getElem hu] at hv; exact Option.some.inj hv
  rw [groups_one_v hr hne (by simp)]
  have hS : ∀ x, x < (vertsL ls).length → (Av (vertsL ls).length (-1) u x ↔ ∀ z, (vertsL ls)[x]? = some z → z ∉ [v]) := fun x hx => by
   unfold Av; rw [pres]; constructor
   ·
    rintro ⟨_, h2⟩ z hz hzv; simp at hzv; subst hzv; rw [List.getElem?_eq_getElem hx] at hz; have e : (vertsL ls)[x] = (vertsL ls)[u] := by rw [Option.some.inj hz, hve]
    exact h2 ((List.getElem_inj (verts_nodup ls)).1 e)
   ·
    intro h2; exact ⟨hx, fun e => by subst e; exact h2 v hv (by simp)⟩
  have hav : ∀ x, Av (vertsL ls).length (-1) u x → x < (vertsL ls).length := fun x hx => (pres x).1 hx.1
  have hci := h.cut_iff hj u ((pres u).2 hu)
  constructor
  ·
   intro hc a b ha hb hav1 hbv1; refine (con_vcon hok hS ha hb hav1 hbv1).1 (Classical.byContradiction fun hno => ?_); have sa := (hS _ (List.idxOf_lt_length_of_mem ha)).2 fun z hz => by rw [get_idxOf ha] at hz; cases hz; exact hav1
   have sb := (hS _ (List.idxOf_lt_length_of_mem hb)).2 fun z hz => by rw [get_idxOf hb] at hz; cases hz; exact hbv1
   rw [hci.2 ⟨_, _, sa, sb, hno⟩] at hc; cases hc
  ·
   intro hc; refine Classical.byContradiction fun hcut => ?_; obtain ⟨x, y, hx, hy, hno⟩ := hci.1 (by simpa using hcut); have hx' := hav x hx; have hy' := hav y hy; have nx := (hS x hx').1 hx _ (List.getElem?_eq_getElem hx'); have ny := (hS y hy').1 hy _ (List.getElem?_eq_getElem hy'); have := (con_vcon hok hS (List.getElem_mem hx') (List.getElem_mem hy') nx ny).2 (hc _ _ (List.getElem_mem hx') (List.getElem_mem hy') nx ny); rw [idxOf_get (verts_nodup ls) hx', idxOf_get (verts_nodup ls) hy'] at this; exact hno this
theorem two_many {ls : List Lk} (hr : rightL ls = true) (h3 : 3 ≤ (vertsL ls).length) {j : Bool} {cut : Nat → Bool} (h : CutSpec (vertsL ls).length (nbN (vertsL ls) ls) (-1) j cut) :
  (j && !(List.range (vertsL ls).length).any cut) = twoL ls := by
 obtain ⟨h1, h2⟩ := two_cuts hr h3 h
 unfold twoL
 cases hj : j with
 | false =>
  have : joinedL ls = false := by
   refine Classical.byContradiction fun e => ?_; have := h1.2 (by simpa using e); rw [hj] at this; cases this
  rw [this]; rfl
 | true =>
  rw [h1.1 hj]
  rw [hj] at h2
  have hd : decide ((vertsL ls).length ≤ 2) = false := by simp; omega
  rw [hd]
  simp only [Bool.true_and, Bool.false_or]
  rw [Bool.eq_iff_iff]
  simp only [Bool.not_eq_true', List.any_eq_false, List.mem_range, List.all_eq_true, beq_iff_eq]
  constructor
  ·
   intro hc v hv; obtain ⟨i, hi, e⟩ := List.getElem_of_mem hv; exact (h2 rfl i v (by rw [List.getElem?_eq_getElem hi, e])).1 (by simpa using hc i hi)
  ·
   intro hc i hi; have := (h2 rfl i _ (List.getElem?_eq_getElem hi)).2 (hc _ (List.getElem_mem hi)); simp [this]
theorem nodup_len_leZ {l m : List Int} (h : l.Nodup) (hs : ∀ x ∈ l, x ∈ m) : l.length ≤ m.length := by
 induction l generalizing m with
 | nil => simp
 | cons a l ih =>
  obtain ⟨h1, h2⟩ := List.nodup_cons.1 h
  have ha := hs a (by simp)
  have h3 := ih (m := m.erase a) h2 fun x hx => by
   have hxa : x ≠ a := fun e => h1 (e ▸ hx); exact (List.mem_erase_of_ne hxa).2 (hs x (by simp [hx]))
  rw [List.length_erase_of_mem ha] at h3
  have := List.length_pos_of_mem ha
  simp only [List.length_cons]; omega
theorem two_few {ls : List Lk} (hr : rightL ls = true) (hne : ls ≠ []) (h3 : (vertsL ls).length < 3) : twoL ls = true := by
 have hR := (rightL_iff ls).1 hr
 unfold twoL
 rw [show decide ((vertsL ls).length ≤ 2) = true by simp; omega]
 simp only [Bool.true_or, Bool.and_true]
 unfold joinedL
 rw [beq_iff_eq, groups_one_v hr hne (by simp)]
 intro u v hu hv _ _
 obtain ⟨a, ha, hua⟩ := (mem_vertsL ls u).1 hu
 obtain ⟨b, hb, hvb⟩ := (mem_vertsL ls v).1 hv
 have oa := hR.2.1 a ha; have ob := hR.2.1 b hb
 have hin : ∀ z, z ∈ vertsL ls → z = a.1 ∨ z = a.2.1 := fun z hz => Classical.byContradiction fun hno => by
  have h1 : a.1 ∈ vertsL ls := (mem_vertsL ls _).2 ⟨a, ha, .inl rfl⟩
  have h2 : a.2.1 ∈ vertsL ls := (mem_vertsL ls _).2 ⟨a, ha, .inr rfl⟩
  have hnd : [z, a.1, a.2.1].Nodup := by
   simp only [List.nodup_cons, List.mem_cons, List.not_mem_nil, or_false, not_or, List.nodup_nil, and_true, not_false_eq_true]; exact ⟨⟨fun e => hno (.inl e), fun e => hno (.inr e)⟩, fun e => by have := oa.2.1; omega⟩
  have : [z, a.1, a.2.1].length ≤ (vertsL ls).length := nodup_len_leZ hnd (fun x hx => by
   simp only [List.mem_cons, List.not_mem_nil, or_false] at hx; rcases hx with rfl | rfl | rfl
   · exact hz
   · exact h1
   · exact h2)
  simp at this; omega
 rcases hin u hu with rfl | rfl <;> rcases hin v hv with rfl | rfl
 · exact .refl
 · exact VCon.link ha (by simp) (by simp)
 · exact (VCon.link ha (by simp) (by simp)).symm
 · exact .refl
end Go.Proofs.YtagcbnpahgfgmaaGreat
