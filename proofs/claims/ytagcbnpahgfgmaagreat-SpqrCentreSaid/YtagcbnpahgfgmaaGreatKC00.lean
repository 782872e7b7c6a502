/- Facts that the claim rests on, part 1. -/
import Derived.Tactics
import Derived.Lib.SlicesCompact
import Derived.Tactics2
import Derived.WalkKit
import Derived.WalkSpells
import Derived.WalkLawsBesides
import Derived.KernelRfl
import Derived.Lib.Hide
import Derived.Test.YtagcbnpahgfgmaaGreatChecked
import Derived.Maps.Own
import Derived.Maps.OwnOps
import Derived.Maps.OwnSet
import Derived.Deep.OwnRows
import Derived.WalkSmall
import Derived.Laws.CopyOwn
import Derived.Deep.LoopGhost
import Derived.ArgAppend
import Derived.BigQuiet
import Derived.Deep.QuietTactic
import Derived.Deep.RegionHeld3
import Derived.Deep.DeepCutAuto
import Derived.Sort.Grow
import Derived.Maps.RangeWalk
import Derived.DeepKeys4
import Derived.WideKeyEntry
import Derived.OrdersHeld
import Derived.RegionTactic
import Derived.Shelf.Small.Bits
import Derived.Shelf.Small.Wraps
import Derived.Shelf.Strconv.Itoa0
import Derived.Shelf.Sort.Plain
import Derived.Ground.Names2Prog
import Derived.Shelf.Slices.Clone
import Derived.Shelf.Slices.CompactI
import Derived.Shelf.Slices.SearchI
import Derived.Shelf.Slices.Cells
import Derived.Shelf.Slices.In.SortNone
import Derived.Shelf.Slices.Empties
import Derived.Ground.SlgnProg
import Derived.Shelf.SlicesE.Index
import Derived.Shelf.SlicesE.Compact
import Derived.Shelf.SlicesE.Clone
import Derived.Shelf.SlSortCmp.NoneTotal
import Derived.Ground.SlsfProg
import Derived.Test.YtagcbnpahgfgmaaGreatProg
import Derived.Sort.OwnSortedInts
import Derived.BigRegion
import Derived.Deep.Cut
import Derived.Laws.StructEq
import Derived.WalkMore
import Derived.ScopeJumps
import Derived.Lib.SliceRun
import Derived.Deep.RegionLaw
import Derived.OwnWalk
import Derived.Lib.AppendZeros
import Derived.Laws.AppendOwnNone
import Derived.Test.YtagcbnpahgfgmaaGreatRows
import Derived.ProofKit
import Derived.OpenShut
import Derived.ShutString
import Derived.Lib.SmallJoins
import Derived.Deep.Slices
import Derived.Deep.Fields
namespace Go.Proofs.YtagcbnpahgfgmaaGreat
inductive Con (bs : Nat → List Nat) (S : Nat → Prop) (x : Nat) : Nat → Prop
 | refl : S x → Con bs S x x
 | step {y z : Nat} : Con bs S x y → z ∈ bs y → S z → Con bs S x z
namespace Con
variable {bs : Nat → List Nat} {S T : Nat → Prop} {x y z : Nat}
theorem mono (h : Con bs S x y) (hs : ∀ a, S a → T a) : Con bs T x y := by
 induction h with
 | refl h => exact .refl (hs _ h)
 | step _ h1 h2 ih => exact ih.step h1 (hs _ h2)
theorem left (h : Con bs S x y) : S x := by
 induction h with
 | refl h => exact h
 | step _ _ _ ih => exact ih
theorem right (h : Con bs S x y) : S y := by
 cases h with
 | refl h => exact h
 | step _ _ h => exact h
theorem trans (h : Con bs S x y) (k : Con bs S y z) : Con bs S x z := by
 induction k with
 | refl _ => exact h
 | step _ h1 h2 ih => exact ih.step h1 h2
theorem head (hx : S x) (h1 : y ∈ bs x) (k : Con bs S y z) : Con bs S x z := ((Con.refl hx).step h1 k.left).trans k
theorem symm (hs : ∀ a b, b ∈ bs a → a ∈ bs b) (h : Con bs S x y) : Con bs S y x := by
 induction h with
 | refl h => exact .refl h
 | step h0 h1 h2 ih => exact head h2 (hs _ _ h1) ih
theorem closed (D : Nat → Prop) (hD : ∀ a b, D a → b ∈ bs a → S b → D b) (hx : D x) (h : Con bs S x y) : D y := by
 induction h with
 | refl _ => exact hx
 | step _ h1 h2 ih => exact hD _ _ ih h1 h2
end Con
def upd {α : Type} (f : Nat → α) (a : Nat) (b : α) : Nat → α := fun x => if x = a then b else f x
theorem upd_same {α : Type} (f : Nat → α) (a : Nat) (b : α) : upd f a b a = b := by simp [upd]
theorem upd_ne {α : Type} (f : Nat → α) {a x : Nat} (b : α) (h : x ≠ a) : upd f a b x = f x := by simp [upd, h]
structure CS where
 num : Nat → Nat
 low : Nat → Nat
 up : Nat → Nat
 at_ : Nat → Nat
 cut : Nat → Bool
 stack : List Nat
 met : Nat
 kids : Nat
def Pres (n : Nat) (gone : Int) (v : Nat) : Prop := v < n ∧ (v : Int) ≠ gone
def Stk (up : Nat → Nat) (root : Nat) : List Nat → Prop
 | [] => True
 | [a] => a = root
 | a :: b :: r => up a = b ∧ Stk up root (b :: r)
theorem Stk.tail {up : Nat → Nat} {root a : Nat} {l : List Nat} (h : Stk up root (a :: l)) : Stk up root l := by
 cases l with
 | nil => trivial
 | cons b r => exact h.2
theorem Stk.congr {up up' : Nat → Nat} {root : Nat} {l : List Nat} (h : Stk up root l) (he : ∀ a ∈ l, up' a = up a) : Stk up' root l := by
 induction l with
 | nil => trivial
 | cons a l ih =>
  cases l with
  | nil => exact h
  | cons b r => exact ⟨(he a (by simp)).trans h.1, ih h.2 fun c hc => he c (by simp [hc])⟩
namespace CS
variable (s : CS)
def Black (x : Nat) : Prop := s.num x ≠ 0 ∧ x ∉ s.stack
def InB (v x : Nat) : Prop := s.num v ≤ s.num x ∧ ∀ u ∈ s.stack, s.num v < s.num u → s.num x < s.num u
def Ex (bs : Nat → List Nat) (x w : Nat) : Prop := ∃ i, i < s.at_ x ∧ (bs x)[i]? = some w
end CS
structure CT (n : Nat) (bs : Nat → List Nat) (gone : Int) (root : Nat) (s : CS) : Prop where
 numP : ∀ x, s.num x ≠ 0 → Pres n gone x
 numle : ∀ x, s.num x ≤ s.met
 inj : ∀ x y, s.num x ≠ 0 → s.num x = s.num y → x = y
 root1 : s.num root = 1
 ord : ∃ o : List Nat, o.Nodup ∧ o.length = s.met ∧ ∀ x, x ∈ o ↔ s.num x ≠ 0
 stV : ∀ v ∈ s.stack, s.num v ≠ 0
 stS : s.stack.Pairwise (fun a b => s.num b < s.num a)
 chain : Stk s.up root s.stack
 atLe : ∀ v, s.at_ v ≤ (bs v).length
 at0 : ∀ v, s.num v = 0 → s.at_ v = 0
 seen : ∀ v w, s.Ex bs v w → Pres n gone w → s.num w ≠ 0
 full : ∀ x, s.Black x → s.at_ x = (bs x).length
 b1 : ∀ x v, s.Black x → v ∈ s.stack → s.num x < s.num v → ∀ y ∈ bs x, Pres n gone y → s.num y < s.num v
 tree : ∀ v ∈ s.stack, ∀ x, s.num v ≤ s.num x → Con bs (fun y => Pres n gone y ∧ s.num v ≤ s.num y) v x
 pth : ∀ x, s.num x ≠ 0 → Con bs (fun y => Pres n gone y ∧ s.num y ≠ 0 ∧ s.num y ≤ s.num x) root x
def Av (n : Nat) (gone : Int) (u : Nat) (y : Nat) : Prop := Pres n gone y ∧ y ≠ u
structure CL (n : Nat) (bs : Nat → List Nat) (gone : Int) (root : Nat) (s : CS) : Prop where
 lowle : ∀ v ∈ s.stack, s.low v ≤ s.num v
 lb : ∀ v ∈ s.stack, ∀ x w, s.InB v x → s.Ex bs x w → Pres n gone w → s.low v ≤ s.num w
 att : ∀ v ∈ s.stack, s.low v = s.num v ∨ ∃ x w, s.InB v x ∧ w ∈ bs x ∧ s.num w ≠ 0 ∧ s.num w = s.low v
 cutT : ∀ u, s.cut u = true → u ≠ root ∧ s.num u ≠ 0 ∧ ∃ c, s.num c ≠ 0 ∧ c ≠ u ∧ ¬ Con bs (Av n gone u) root c
 cutF : ∀ u, u ≠ root → s.Black u → s.cut u = false → ∀ x, s.num x ≠ 0 → x ≠ u → Con bs (Av n gone u) root x
 cutS : ∀ u ∈ s.stack, u ≠ root → s.cut u = false → ∀ x, s.Black x → s.InB u x → Con bs (Av n gone u) root x
 kids0 : s.kids = 0 → ∀ x, x ≠ root → s.Black x → ¬ s.InB root x
 kids1 : s.kids = 1 → ∃ c, c ≠ root ∧ s.Black c ∧ s.InB root c ∧ ∀ x, x ≠ root → s.Black x → s.InB root x → Con bs (Av n gone root) c x
 kids2 : 2 ≤ s.kids → ∃ c d, s.num c ≠ 0 ∧ s.num d ≠ 0 ∧ c ≠ root ∧ d ≠ root ∧ ¬ Con bs (Av n gone root) c d
section
variable {n : Nat} {bs : Nat → List Nat} {gone : Int} {root : Nat} {s : CS}
theorem CT.le_top (h : CT n bs gone root s) {v : Nat} {r : List Nat} (hs : s.stack = v :: r) {u : Nat} (hu : u ∈ s.stack) : s.num u ≤ s.num v := by
 have h1 := h.stS; rw [hs] at h1 hu
 rcases List.mem_cons.1 hu with rfl | hu
 · exact Nat.le_refl _
 · exact Nat.le_of_lt ((List.pairwise_cons.1 h1).1 u hu)
theorem CT.topIn (h : CT n bs gone root s) {v : Nat} {r : List Nat} (hs : s.stack = v :: r) {x : Nat} (hx : s.num v ≤ s.num x) : s.InB v x :=
 ⟨hx, fun u hu hlt => by have := h.le_top hs hu; omega⟩
theorem CT.full' (h : CT n bs gone root s) {x w : Nat} (hx : s.Black x) (hw : w ∈ bs x) : s.Ex bs x w := by
 obtain ⟨i, hi, e⟩ := List.getElem_of_mem hw
 exact ⟨i, by rw [h.full x hx]; exact hi, by rw [List.getElem?_eq_getElem hi, e]⟩
theorem CT.above (h : CT n bs gone root s) {v : Nat} {r : List Nat} (hs : s.stack = v :: r) {x : Nat} (hx : s.num v < s.num x) : s.Black x :=
 ⟨by omega, fun hx' => by have := h.le_top hs hx'; omega⟩
def CS.skip (s : CS) (v : Nat) : CS := { s with at_ := upd s.at_ v (s.at_ v + 1) }
def CS.exam (s : CS) (v w : Nat) : CS := { s with at_ := upd s.at_ v (s.at_ v + 1), low := upd s.low v (min (s.low v) (s.num w)) }
def CS.disc (s : CS) (v w : Nat) : CS :=
 { s with at_ := upd s.at_ v (s.at_ v + 1), num := upd s.num w (s.met + 1), low := upd s.low w (s.met + 1), up := upd s.up w v, stack := w :: s.stack, met := s.met + 1 }
theorem Ex_inc {v w0 : Nat} (hw : (bs v)[s.at_ v]? = some w0) {at' : Nat → Nat} (e : at' = upd s.at_ v (s.at_ v + 1)) {x w : Nat} (h : ∃ i, i < at' x ∧ (bs x)[i]? = some w) : s.Ex bs x w ∨ (x = v ∧ w = w0) := by
 obtain ⟨i, hi, hg⟩ := h
 subst e
 by_cases hx : x = v
 ·
  subst hx
  rw [upd_same] at hi
  by_cases h2 : i = s.at_ x
  · subst h2; rw [hw] at hg; cases hg; exact .inr ⟨rfl, rfl⟩
  · exact .inl ⟨i, by omega, hg⟩
 ·
  rw [upd_ne _ _ hx] at hi
  exact .inl ⟨i, hi, hg⟩
theorem at_le {v w0 : Nat} (h : CT n bs gone root s) (hw : (bs v)[s.at_ v]? = some w0) (x : Nat) : upd s.at_ v (s.at_ v + 1) x ≤ (bs x).length := by
 by_cases hx : x = v
 · subst hx; rw [upd_same]; exact (List.getElem?_eq_some_iff.1 hw).1
 · rw [upd_ne _ _ hx]; exact h.atLe x
theorem CT.skipLike (h : CT n bs gone root s) {v w : Nat} {r : List Nat} (hs : s.stack = v :: r) (hw : (bs v)[s.at_ v]? = some w) (hn : Pres n gone w → s.num w ≠ 0) (low : Nat → Nat) :
  CT n bs gone root { s with at_ := upd s.at_ v (s.at_ v + 1), low := low } where
 numP := h.numP
 numle := h.numle
 inj := h.inj
 root1 := h.root1
 ord := h.ord
 stV := h.stV
 stS := h.stS
 chain := h.chain
 atLe := at_le h hw
 at0 x hx := by
  by_cases e : x = v
  · subst e; exact absurd hx (h.stV x (by rw [hs]; simp))
  ·
   show upd s.at_ v _ x = 0; rw [upd_ne _ _ e]; exact h.at0 x hx
 seen x y hx hy := by
  rcases Ex_inc hw rfl hx with h1 | ⟨rfl, rfl⟩
  · exact h.seen x y h1 hy
  · exact hn hy
 full x hx := by
  have e : x ≠ v := fun e => hx.2 (by show x ∈ s.stack; rw [hs]; simp [e])
  show upd s.at_ v _ x = _
  rw [upd_ne _ _ e]; exact h.full x hx
 b1 := h.b1
 tree := h.tree
 pth := h.pth
theorem CL.skip (h : CL n bs gone root s) {v w : Nat} (hw : (bs v)[s.at_ v]? = some w) (hn : ¬ Pres n gone w) : CL n bs gone root (s.skip v) :=
 { h with
  lb := fun u hu x y hx he hy => by
   rcases Ex_inc hw rfl he with h1 | ⟨rfl, rfl⟩
   · exact h.lb u hu x y hx h1 hy
   · exact absurd hy hn }
theorem CL.exam (ht : CT n bs gone root s) (h : CL n bs gone root s) {v w : Nat} {r : List Nat} (hs : s.stack = v :: r) (hw : (bs v)[s.at_ v]? = some w) (hn : s.num w ≠ 0) : CL n bs gone root (s.exam v w) := by
 have hlow : ∀ u, (s.exam v w).low u ≤ s.low u := by
  intro u
  show upd s.low v _ u ≤ _
  by_cases e : u = v
  · subst e; rw [upd_same]; exact Nat.min_le_left _ _
  · rw [upd_ne _ _ e]; exact Nat.le_refl _
 have hv : v ∈ s.stack := by rw [hs]; simp
 exact { h with
  lowle := fun u hu => Nat.le_trans (hlow u) (h.lowle u hu)
  lb := fun u hu x y hx he hy => by
   rcases Ex_inc hw rfl he with h1 | ⟨rfl, rfl⟩
   · exact Nat.le_trans (hlow u) (h.lb u hu x y hx h1 hy)
   ·
    by_cases e : u = x
    ·
     subst e; show upd s.low u _ u ≤ _; rw [upd_same]; exact Nat.min_le_right _ _
    ·
     exfalso; have h1 := hx.2 x hv; have h2 := ht.le_top hs hu; have h3 : s.num u ≠ s.num x := fun e' => e (ht.inj u x (ht.stV u hu) e'); have := h1 (by show s.num u < s.num x; omega); exact absurd this (Nat.lt_irrefl _)
  att := fun u hu => by
   by_cases e : u = v
   ·
    subst e; show upd s.low u _ u = s.num u ∨ _; rw [upd_same]; by_cases hlt : s.low u ≤ s.num w
    ·
     rw [Nat.min_eq_left hlt]; rcases h.att u hu with h1 | ⟨x, y, h1, h2, h3, h4⟩
     · exact .inl h1
     · exact .inr ⟨x, y, h1, h2, h3, by show _ = upd s.low u _ u; rw [upd_same, Nat.min_eq_left hlt]; exact h4⟩
    ·
     rw [Nat.min_eq_right (by omega)]; exact .inr ⟨u, w, ht.topIn hs (Nat.le_refl _), List.mem_of_getElem? hw, hn, by show s.num w = upd s.low u _ u; rw [upd_same, Nat.min_eq_right (by omega)]⟩
   ·
    rcases h.att u hu with h1 | ⟨x, y, h1, h2, h3, h4⟩
    · exact .inl (by show upd s.low v _ u = _; rw [upd_ne _ _ e]; exact h1)
    · exact .inr ⟨x, y, h1, h2, h3, by show _ = upd s.low v _ u; rw [upd_ne _ _ e]; exact h4⟩ }
section disc
variable {v w : Nat} {r : List Nat} (ht : CT n bs gone root s) (hs : s.stack = v :: r) (hw : (bs v)[s.at_ v]? = some w) (hp : Pres n gone w) (hn : s.num w = 0)
include ht hs hw hp hn
theorem CT.disc : CT n bs gone root (s.disc v w) := by
 have hv : v ∈ s.stack := by rw [hs]; simp
 have hvn := ht.stV v hv
 have hvw : v ≠ w := fun e => hvn (e ▸ hn)
 have hwst : ∀ u ∈ s.stack, u ≠ w := fun u hu e => ht.stV u hu (e ▸ hn)
 have nw : (s.disc v w).num w = s.met + 1 := upd_same _ _ _
 have no : ∀ x, x ≠ w → (s.disc v w).num x = s.num x := fun x hx => upd_ne _ _ hx
 have nle : ∀ x, s.num x ≤ (s.disc v w).num x := by
  intro x
  by_cases e : x = w
  · subst e; omega
  · rw [no x e]; exact Nat.le_refl _
 have nz : ∀ x, (s.disc v w).num x ≠ 0 → x = w ∨ s.num x ≠ 0 := fun x hx => by
  by_cases e : x = w
  · exact .inl e
  · rw [no x e] at hx; exact .inr hx
 have hle := ht.numle
 have bl : ∀ x, (s.disc v w).Black x → s.Black x := fun x hx => by
  have e : x ≠ w := fun e => hx.2 (by show x ∈ w :: s.stack; simp [e])
  exact ⟨by have := hx.1; rwa [no x e] at this, fun h => hx.2 (by show x ∈ w :: s.stack; simp [h])⟩
 have blw : ∀ x, (s.disc v w).Black x → x ≠ w := fun x hx e => hx.2 (by show x ∈ w :: s.stack; simp [e])
 refine ⟨?_, ?_, ?_, ?_, ?_, ?_, ?_, ?_, at_le ht hw, ?_, ?_, ?_, ?_, ?_, ?_⟩
 ·
  intro x hx
  rcases nz x hx with rfl | h
  · exact hp
  · exact ht.numP x h
 ·
  intro x
  show _ ≤ s.met + 1
  by_cases e : x = w
  · subst e; omega
  · rw [no x e]; have := hle x; omega
 ·
  intro x y hx e
  by_cases ex : x = w
  ·
   by_cases ey : y = w
   · rw [ex, ey]
   · rw [ex, nw, no y ey] at e; have := hle y; omega
  ·
   by_cases ey : y = w
   · rw [ey, nw, no x ex] at e; have := hle x; omega
   · rw [no x ex] at hx e; rw [no y ey] at e; exact ht.inj x y hx e
 · rw [no root fun e => by have := ht.root1; rw [e, hn] at this; cases this]; exact ht.root1
 ·
  obtain ⟨o, h1, h2, h3⟩ := ht.ord
  refine ⟨w :: o, List.nodup_cons.2 ⟨fun h => (h3 w).1 h hn, h1⟩, by simp [CS.disc, h2], fun x => ?_⟩
  rw [List.mem_cons, h3]
  by_cases e : x = w
  · subst e; simp [nw]
  · rw [no x e]; simp [e]
 ·
  intro u hu
  rcases List.mem_cons.1 hu with rfl | hu
  · omega
  · rw [no u (hwst u hu)]; exact ht.stV u hu
 ·
  show (w :: s.stack).Pairwise _
  rw [List.pairwise_cons]
  refine ⟨fun u hu => by rw [nw, no u (hwst u hu)]; have := hle u; omega, ?_⟩
  refine ht.stS.imp_of_mem fun {a b} ha hb hab => ?_
  rw [no a (hwst a ha), no b (hwst b hb)]; exact hab
 ·
  show Stk (upd s.up w v) root (w :: s.stack)
  have hc : Stk (upd s.up w v) root s.stack := ht.chain.congr fun a ha => upd_ne _ _ (hwst a ha)
  rw [hs] at hc ⊢
  exact ⟨upd_same _ _ _, hc⟩
 ·
  intro x hx
  have e : x ≠ w := fun e => by subst e; omega
  rw [no x e] at hx
  show upd s.at_ v _ x = 0
  rw [upd_ne _ _ (fun (e : x = v) => hvn (by rw [← e]; exact hx))]; exact ht.at0 x hx
 ·
  intro x y hx hy
  rcases Ex_inc hw rfl hx with h1 | ⟨rfl, rfl⟩
  · have := ht.seen x y h1 hy; have := nle y; omega
  · omega
 ·
  intro x hx
  have e : x ≠ v := fun e => (bl x hx).2 (by rw [e]; exact hv)
  show upd s.at_ v _ x = _
  rw [upd_ne _ _ e]; exact ht.full x (bl x hx)
 ·
  intro x u hx hu hlt y hy hyp
  have hxb := bl x hx
  have hys := ht.seen x y (ht.full' hxb hy) hyp
  have eyw : y ≠ w := fun e => hys (e ▸ hn)
  rw [no y eyw]
  rcases List.mem_cons.1 hu with rfl | hu
  · rw [nw]; have := hle y; omega
  ·
   rw [no u (hwst u hu)] at hlt ⊢; rw [no x (blw x hx)] at hlt; exact ht.b1 x u hxb hu hlt y hy hyp
 ·
  intro u hu x hx
  rcases List.mem_cons.1 hu with rfl | hus
  ·
   have e : x = u := by
    refine Classical.byContradiction fun e => ?_; rw [no x e, nw] at hx; have := hle x; omega
   subst e; exact .refl ⟨hp, Nat.le_refl _⟩
  ·
   have huw := hwst u hus; rw [no u huw] at hx ⊢; have mono : ∀ a, (Pres n gone a ∧ s.num u ≤ s.num a) → (Pres n gone a ∧ s.num u ≤ (s.disc v w).num a) := fun a ⟨h1, h2⟩ => ⟨h1, Nat.le_trans h2 (nle a)⟩
   by_cases e : x = w
   ·
    subst e; exact ((ht.tree u hus v (ht.le_top hs hus)).mono mono).step (List.mem_of_getElem? hw) ⟨hp, by rw [nw]; have := hle u; omega⟩
   ·
    rw [no x e] at hx; exact (ht.tree u hus x hx).mono mono
 ·
  intro x hx
  have mono : ∀ z, s.num z ≠ 0 → ∀ a, (Pres n gone a ∧ s.num a ≠ 0 ∧ s.num a ≤ s.num z) → (Pres n gone a ∧ (s.disc v w).num a ≠ 0 ∧ (s.disc v w).num a ≤ s.num z) := fun z _ a ⟨h1, h2, h3⟩ => by
   have e : a ≠ w := fun e => h2 (e ▸ hn); rw [no a e]; exact ⟨h1, h2, h3⟩
  rcases nz x hx with rfl | h
  · refine (((ht.pth v hvn).mono (mono v hvn)).mono fun a ⟨h1, h2, h3⟩ => ⟨h1, h2, by rw [nw]; have := hle v; omega⟩).step (List.mem_of_getElem? hw) ⟨hp, by omega, Nat.le_refl _⟩
  ·
   rw [no x fun e => h (e ▸ hn)]; exact (ht.pth x h).mono (mono x h)
theorem CL.disc (h : CL n bs gone root s) : CL n bs gone root (s.disc v w) := by
 have hv : v ∈ s.stack := by rw [hs]; simp
 have hvn := ht.stV v hv
 have hwst : ∀ u ∈ s.stack, u ≠ w := fun u hu e => ht.stV u hu (e ▸ hn)
 have nw : (s.disc v w).num w = s.met + 1 := upd_same _ _ _
 have no : ∀ x, x ≠ w → (s.disc v w).num x = s.num x := fun x hx => upd_ne _ _ hx
 have lw : (s.disc v w).low w = s.met + 1 := upd_same _ _ _
 have lo : ∀ x, x ≠ w → (s.disc v w).low x = s.low x := fun x hx => upd_ne _ _ hx
 have nz : ∀ x, s.num x ≠ 0 → x ≠ w := fun x hx e => hx (e ▸ hn)
 have hle := ht.numle
 have hrw : root ≠ w := nz root (by have := ht.root1; omega)
 have bl : ∀ x, (s.disc v w).Black x → s.Black x ∧ x ≠ w := fun x hx => by
  have e : x ≠ w := fun e => hx.2 (by show x ∈ w :: s.stack; simp [e])
  exact ⟨⟨by have := hx.1; rwa [no x e] at this, fun h => hx.2 (by show x ∈ w :: s.stack; simp [h])⟩, e⟩
 have bl2 : ∀ x, s.Black x → (s.disc v w).Black x := fun x hx => by
  have e := nz x hx.1
  refine ⟨by rw [no x e]; exact hx.1, fun h => ?_⟩
  rcases List.mem_cons.1 h with h | h
  · exact e h
  · exact hx.2 h
 have inb : ∀ u x, u ≠ w → x ≠ w → (s.disc v w).InB u x → s.InB u x := fun u x hu hx hb => by
  have h1 := hb.1; rw [no u hu, no x hx] at h1
  refine ⟨h1, fun z hz hlt => ?_⟩
  have h2 := hb.2 z (by show z ∈ w :: s.stack; simp [hz])
  rw [no u hu, no x hx, no z (hwst z hz)] at h2
  exact h2 hlt
 have inb2 : ∀ u x, u ≠ w → s.num x ≠ 0 → s.InB u x → (s.disc v w).InB u x := fun u x hu hx hb => by
  refine ⟨by rw [no u hu, no x (nz x hx)]; exact hb.1, fun z hz hlt => ?_⟩
  rw [no x (nz x hx)]
  rcases List.mem_cons.1 hz with rfl | hz
  · rw [nw]; have := hle x; omega
  ·
   rw [no u hu, no z (hwst z hz)] at hlt; rw [no z (hwst z hz)]; exact hb.2 z hz hlt
 have inw : ∀ u, u ∈ s.stack → ¬ (s.disc v w).InB u w := fun u hu hb => by
  have h2 := hb.2 w (by show w ∈ w :: s.stack; simp)
  rw [no u (hwst u hu)] at h2
  have := h2 (by rw [nw]; have := hle u; omega)
  omega
 have hx0 : ∀ y, ¬ s.Ex bs w y := fun y ⟨i, hi, _⟩ => by rw [ht.at0 w hn] at hi; omega
 refine ⟨?_, ?_, ?_, ?_, ?_, ?_, ?_, ?_, ?_⟩
 ·
  intro u hu
  rcases List.mem_cons.1 hu with rfl | hu
  · omega
  · rw [no u (hwst u hu), lo u (hwst u hu)]; exact h.lowle u hu
 ·
  intro u hu x y hx he hy
  rcases Ex_inc hw rfl he with h1 | ⟨rfl, rfl⟩
  ·
   have hys := ht.seen x y h1 hy; have hxw : x ≠ w := fun e => hx0 y (e ▸ h1); rw [no y (nz y hys)]; rcases List.mem_cons.1 hu with rfl | hu
   ·
    exfalso; have := hx.1; rw [nw, no x hxw] at this; have := hle x; omega
   ·
    rw [lo u (hwst u hu)]; exact h.lb u hu x y (inb u x (hwst u hu) hxw hx) h1 hy
  ·
   rw [nw]; rcases List.mem_cons.1 hu with rfl | hu
   · omega
   ·
    rw [lo u (hwst u hu)]; have := h.lowle u hu; have := hle u; omega
 ·
  intro u hu
  rcases List.mem_cons.1 hu with rfl | hu
  · exact .inl (by rw [lw, nw])
  ·
   rw [lo u (hwst u hu), no u (hwst u hu)]; rcases h.att u hu with h1 | ⟨x, y, h1, h2, h3, h4⟩
   · exact .inl h1
   ·
    refine .inr ⟨x, y, inb2 u x (hwst u hu) (fun e => ?_) h1, h2, by rw [no y (nz y h3)]; exact h3, by rw [no y (nz y h3)]; exact h4⟩; have := h1.1; have := ht.stV u hu; omega
 ·
  intro u hu
  obtain ⟨h1, h2, c, h3, h4, h5⟩ := h.cutT u hu
  exact ⟨h1, by rw [no u (nz u h2)]; exact h2, c, by rw [no c (nz c h3)]; exact h3, h4, h5⟩
 ·
  intro u hu hb hc x hx hxu
  obtain ⟨hb', huw⟩ := bl u hb
  by_cases e : x = w
  ·
   subst e; have hvu : v ≠ u := fun e => hb'.2 (e ▸ hv); exact (h.cutF u hu hb' hc v hvn hvu).step (List.mem_of_getElem? hw) ⟨hp, hxu⟩
  ·
   rw [no x e] at hx; exact h.cutF u hu hb' hc x hx hxu
 ·
  intro u hu hur hc x hx hin
  obtain ⟨hx', hxw⟩ := bl x hx
  rcases List.mem_cons.1 hu with rfl | hu
  ·
   exfalso; have := hin.1; rw [nw, no x hxw] at this; have := hle x; omega
  · exact h.cutS u hu hur hc x hx' (inb u x (hwst u hu) hxw hin)
 ·
  intro hk x hxr hx hin
  obtain ⟨hx', hxw⟩ := bl x hx
  exact h.kids0 hk x hxr hx' (inb root x hrw hxw hin)
 ·
  intro hk
  obtain ⟨c, h1, h2, h3, h4⟩ := h.kids1 hk
  refine ⟨c, h1, bl2 c h2, inb2 root c hrw h2.1 h3, fun x hxr hx hin => ?_⟩
  obtain ⟨hx', hxw⟩ := bl x hx
  exact h4 x hxr hx' (inb root x hrw hxw hin)
 ·
  intro hk
  obtain ⟨c, d, h1, h2, h3⟩ := h.kids2 hk
  exact ⟨c, d, by rw [no c (nz c h1)]; exact h1, by rw [no d (nz d h2)]; exact h2, h3⟩
end disc
end
end Go.Proofs.YtagcbnpahgfgmaaGreat
namespace Go.Proofs.YtagcbnpahgfgmaaGreat
def CS.pop (s : CS) (v u root : Nat) : CS :=
 { s with stack := s.stack.tail, low := upd s.low u (min (s.low u) (s.low v)), kids := (if u = root then s.kids + 1 else s.kids), cut := (if u ≠ root ∧ s.num u ≤ s.low v then upd s.cut u true else s.cut) }
def CS.drop (s : CS) : CS := { s with stack := s.stack.tail }
section
variable {n : Nat} {bs : Nat → List Nat} {gone : Int} {root : Nat} {s : CS}
theorem CT.two (h : CT n bs gone root s) {v : Nat} {r : List Nat} (hs : s.stack = v :: r) (hv : v ≠ root) : ∃ u r', r = u :: r' ∧ s.up v = u ∧ s.num u < s.num v := by
 have h1 := h.chain; rw [hs] at h1
 cases r with
 | nil => exact absurd h1 hv
 | cons u r' =>
  refine ⟨u, r', rfl, h1.1, ?_⟩
  have := h.stS; rw [hs] at this
  exact (List.pairwise_cons.1 this).1 u (by simp)
theorem stk_root (up : Nat → Nat) (root : Nat) : ∀ l : List Nat, l ≠ [] → Stk up root l → root ∈ l := by
 intro l
 induction l with
 | nil => intro h; exact absurd rfl h
 | cons a l ih =>
  intro _ h
  cases l with
  | nil => have : a = root := h; simp [this]
  | cons b l => have := ih (by simp) h.2; simp only [List.mem_cons] at this ⊢; exact .inr this
theorem CT.rootIn (h : CT n bs gone root s) {v : Nat} {r : List Nat} (hs : s.stack = v :: r) : root ∈ s.stack := stk_root s.up root _ (by rw [hs]; simp) h.chain
theorem CT.popLike (ht : CT n bs gone root s) {v : Nat} {r : List Nat} (hs : s.stack = v :: r) (hat : s.at_ v = (bs v).length) (low : Nat → Nat) (kids : Nat) (cut : Nat → Bool) :
  CT n bs gone root { s with stack := r, low := low, kids := kids, cut := cut } := by
 have hmem : ∀ u, u ∈ r → u ∈ s.stack := fun u hu => by rw [hs]; simp [hu]
 have hb : ∀ x, (s.num x ≠ 0 ∧ x ∉ r) → x = v ∨ s.Black x := fun x hx => by
  by_cases e : x = v
  · exact .inl e
  · exact .inr ⟨hx.1, by rw [hs]; simp only [List.mem_cons, not_or]; exact ⟨e, hx.2⟩⟩
 exact {
  numP := ht.numP
  numle := ht.numle
  inj := ht.inj
  root1 := ht.root1
  ord := ht.ord
  stV := fun u hu => ht.stV u (hmem u hu)
  stS := by have := ht.stS; rw [hs] at this; exact (List.pairwise_cons.1 this).2
  chain := by have := ht.chain; rw [hs] at this; exact this.tail
  atLe := ht.atLe
  at0 := ht.at0
  seen := ht.seen
  full := fun x hx => by
   rcases hb x hx with rfl | h
   · exact hat
   · exact ht.full x h
  b1 := fun x u hx hu hlt y hy hp => by
   rcases hb x hx with rfl | h
   ·
    exfalso; have := ht.stS; rw [hs] at this; have h1 := (List.pairwise_cons.1 this).1 u hu; have h2 : s.num x < s.num u := hlt; omega
   · exact ht.b1 x u h (hmem u hu) hlt y hy hp
  tree := fun u hu => ht.tree u (hmem u hu)
  pth := ht.pth }
variable (ht : CT n bs gone root s) (hl : CL n bs gone root s) (hsy : ∀ a b, b ∈ bs a → a ∈ bs b) {v u : Nat} {r : List Nat} (hs : s.stack = v :: u :: r) (hat : s.at_ v = (bs v).length)
include ht hl hsy hs hat
theorem pop_out {y z : Nat} (hy : s.num v ≤ s.num y) (hz : z ∈ bs y) (hp : Pres n gone z) (hlt : s.num z < s.num v) : z ∈ u :: r ∧ s.low v ≤ s.num z := by
 have hv : v ∈ s.stack := by rw [hs]; simp
 have hvn := ht.stV v hv
 have hex : s.Ex bs y z := by
  by_cases e : y = v
  ·
   subst e; obtain ⟨i, hi, e⟩ := List.getElem_of_mem hz; exact ⟨i, by rw [hat]; exact hi, by rw [List.getElem?_eq_getElem hi, e]⟩
  ·
   refine ht.full' (ht.above hs ?_) hz; have : s.num v ≠ s.num y := fun e' => e (ht.inj v y hvn e').symm; omega
 have hzn := ht.seen y z hex hp
 refine ⟨?_, hl.lb v hv y z (ht.topIn hs hy) hex hp⟩
 refine Classical.byContradiction fun hnot => ?_
 have hzb : s.Black z := ⟨hzn, by rw [hs]; simp only [List.mem_cons, not_or] at hnot ⊢; exact ⟨fun e => by subst e; omega, hnot⟩⟩
 have := ht.b1 z v hzb hv hlt y (hsy _ _ hz) (ht.numP y (by omega))
 omega
theorem CL.pop : CL n bs gone root (s.pop v u root) := by
 have hv : v ∈ s.stack := by rw [hs]; simp
 have hu : u ∈ s.stack := by rw [hs]; simp
 have hvn := ht.stV v hv
 have hun := ht.stV u hu
 have hstk : (s.pop v u root).stack = u :: r := by show s.stack.tail = _; rw [hs]; rfl
 have hst := ht.stS; rw [hs, List.pairwise_cons, List.pairwise_cons] at hst
 have huv : s.num u < s.num v := hst.1 u (by simp)
 have hr : ∀ z ∈ r, s.num z < s.num u := hst.2.1
 have hmem : ∀ z, z ∈ u :: r → z ∈ s.stack := fun z hz => by rw [hs]; exact List.mem_cons_of_mem _ hz
 have hrv : root ≠ v := fun e => by have := ht.root1; rw [e] at this; omega
 have hu1 : s.num root ≤ s.num u := by have := ht.root1; omega
 have nm : ∀ x, (s.pop v u root).num x = s.num x := fun _ => rfl
 have hb : ∀ x, (s.pop v u root).Black x → x = v ∨ s.Black x := fun x hx => by
  by_cases e : x = v
  · exact .inl e
  ·
   refine .inr ⟨hx.1, fun h => hx.2 ?_⟩; rw [hstk]; rw [hs] at h; rcases List.mem_cons.1 h with h | h
   · exact absurd h e
   · exact h
 have hb2 : ∀ x, s.Black x → (s.pop v u root).Black x := fun x hx => ⟨hx.1, fun h => hx.2 (hmem x (by rw [← hstk]; exact h))⟩
 have hbv : (s.pop v u root).Black v := ⟨hvn, fun h => by
  rw [hstk] at h
  rcases List.mem_cons.1 h with h | h
  · rw [← h] at huv; omega
  · have := hr v h; omega⟩
 have inb2 : ∀ z x, s.InB z x → (s.pop v u root).InB z x := fun z x h => ⟨h.1, fun a ha => h.2 a (hmem a (by rw [← hstk]; exact ha))⟩
 have inb : ∀ z ∈ u :: r, ∀ x, (s.pop v u root).InB z x → s.InB z x ∨ (z = u ∧ s.num v ≤ s.num x) := fun z hz x h => by
  by_cases hvx : s.num v ≤ s.num x
  ·
   rcases List.mem_cons.1 hz with e | hz
   · exact .inr ⟨e, hvx⟩
   ·
    exfalso; have h1 := h.2 u (by rw [hstk]; simp) (hr z hz); have h2 : s.num x < s.num u := h1; omega
  ·
   refine .inl ⟨h.1, fun a ha hlt => ?_⟩; rw [hs] at ha; rcases List.mem_cons.1 ha with rfl | ha
   · omega
   · exact h.2 a (by rw [hstk]; exact ha) hlt
 have low1 : ∀ z, z ≠ u → (s.pop v u root).low z = s.low z := fun z hz => upd_ne _ _ hz
 have lowu : (s.pop v u root).low u = min (s.low u) (s.low v) := upd_same _ _ _
 have lowle : ∀ z, (s.pop v u root).low z ≤ s.low z := fun z => by
  by_cases e : z = u
  · subst e; rw [lowu]; exact Nat.min_le_left _ _
  · rw [low1 z e]; exact Nat.le_refl _
 have tr : ∀ x, s.num v ≤ s.num x → Con bs (Av n gone u) v x := fun x hx =>
  (ht.tree v hv x hx).mono fun a ⟨h1, h2⟩ => ⟨h1, fun e => by subst e; omega⟩
 have sep : s.num u ≤ s.low v → ∀ x, Con bs (Av n gone u) v x → s.num v ≤ s.num x := fun hlow x hx => by
  refine hx.closed (fun y => s.num v ≤ s.num y) (fun y z hy hz hp => ?_) (Nat.le_refl _)
  refine Classical.byContradiction fun hnot => ?_
  obtain ⟨h1, h2⟩ := pop_out ht hl hsy hs hat hy hz hp.1 (by omega)
  rcases List.mem_cons.1 h1 with e | h1
  · exact hp.2 e
  · have := hr z h1; omega
 have sepR : u = root → ∀ x, Con bs (Av n gone root) v x → s.num v ≤ s.num x := fun hur x hx => by
  have hrn : r = [] := by
   cases r with
   | nil => rfl
   | cons a r' =>
    have h1 := hr a (by simp); have h2 := ht.stV a (by rw [hs]; simp); have := ht.root1; rw [hur] at h1; omega
  refine hx.closed (fun y => s.num v ≤ s.num y) (fun y z hy hz hp => ?_) (Nat.le_refl _)
  refine Classical.byContradiction fun hnot => ?_
  obtain ⟨h1, _⟩ := pop_out ht hl hsy hs hat hy hz hp.1 (by omega)
  rw [hrn] at h1
  simp at h1
  exact hp.2 (h1.trans hur)
 refine ⟨?_, ?_, ?_, ?_, ?_, ?_, ?_, ?_, ?_⟩
 ·
  intro z hz
  rw [hstk] at hz
  exact Nat.le_trans (lowle z) (hl.lowle z (hmem z hz))
 ·
  intro z hz x w hx he hp
  rw [hstk] at hz
  rcases inb z hz x hx with h | ⟨rfl, h⟩
  · exact Nat.le_trans (lowle z) (hl.lb z (hmem z hz) x w h he hp)
  ·
   rw [lowu]; exact Nat.le_trans (Nat.min_le_right _ _) (hl.lb v hv x w (ht.topIn hs h) he hp)
 ·
  intro z hz
  rw [hstk] at hz
  by_cases e : z = u
  ·
   subst e; rw [lowu]; by_cases hmin : s.low z ≤ s.low v
   ·
    rw [Nat.min_eq_left hmin]; rcases hl.att z hu with h1 | ⟨x, y, h1, h2, h3, h4⟩
    · exact .inl h1
    · exact .inr ⟨x, y, inb2 z x h1, h2, h3, h4⟩
   ·
    rw [Nat.min_eq_right (by omega)]; rcases hl.att v hv with h1 | ⟨x, y, h1, h2, h3, h4⟩
    · have := hl.lowle z hu; omega
    ·
     refine .inr ⟨x, y, ⟨?_, fun a ha hlt => ?_⟩, h2, h3, h4⟩
     · have := h1.1; show s.num z ≤ s.num x; omega
     ·
      rw [hstk] at ha; rcases List.mem_cons.1 ha with rfl | ha
      · exact absurd hlt (Nat.lt_irrefl _)
      ·
       have h5 := hr a ha; have h6 : s.num z < s.num a := hlt; omega
  ·
   rw [low1 z e]; rcases hl.att z (hmem z hz) with h1 | ⟨x, y, h1, h2, h3, h4⟩
   · exact .inl h1
   · exact .inr ⟨x, y, inb2 z x h1, h2, h3, h4⟩
 ·
  intro z hz
  by_cases hc : u ≠ root ∧ s.num u ≤ s.low v
  ·
   have e1 : (s.pop v u root).cut = upd s.cut u true := if_pos hc; rw [e1] at hz; by_cases e : z = u
   ·
    subst e; refine ⟨hc.1, hun, v, hvn, fun e => by subst e; omega, fun hcon => ?_⟩; have := sep hc.2 root (hcon.symm hsy); have := ht.root1; omega
   · rw [upd_ne _ _ e] at hz; exact hl.cutT z hz
  ·
   have e1 : (s.pop v u root).cut = s.cut := if_neg hc; rw [e1] at hz; exact hl.cutT z hz
 ·
  intro z hzr hzb hzc x hx hxz
  rcases hb z hzb with rfl | hzb
  ·
   have hc' : s.cut z = false := by
    by_cases hc : u ≠ root ∧ s.num u ≤ s.low z
    ·
     have e1 : (s.pop z u root).cut = upd s.cut u true := if_pos hc; rw [e1, upd_ne _ _ (fun (e : z = u) => by rw [e] at huv; omega)] at hzc; exact hzc
    ·
     have e1 : (s.pop z u root).cut = s.cut := if_neg hc; rw [e1] at hzc; exact hzc
   have hx' : s.num x ≠ 0 := hx; by_cases hlt : s.num x < s.num z
   · exact (ht.pth x hx').mono fun a ⟨h1, h2, h3⟩ => ⟨h1, fun e => by subst e; omega⟩
   ·
    have hne : s.num z ≠ s.num x := fun e' => hxz (ht.inj z x hvn e').symm; exact hl.cutS z hv hzr hc' x (ht.above hs (by omega)) (ht.topIn hs (by omega))
  ·
   have hzu : z ≠ u := fun e => hzb.2 (by rw [e]; exact hu); have hc' : s.cut z = false := by
    by_cases hc : u ≠ root ∧ s.num u ≤ s.low v
    ·
     have e1 : (s.pop v u root).cut = upd s.cut u true := if_pos hc; rw [e1, upd_ne _ _ hzu] at hzc; exact hzc
    ·
     have e1 : (s.pop v u root).cut = s.cut := if_neg hc; rw [e1] at hzc; exact hzc
   exact hl.cutF z hzr hzb hc' x hx hxz
 ·
  intro z hz hzr hzc x hxb hin
  rw [hstk] at hz
  by_cases e : z = u
  ·
   subst e; have hlow : s.low v < s.num z := by
    refine Classical.byContradiction fun hnot => ?_; have e1 : (s.pop v z root).cut = upd s.cut z true := if_pos ⟨hzr, by omega⟩; rw [e1, upd_same] at hzc; cases hzc
   have hc' : s.cut z = false := by
    have e1 : (s.pop v z root).cut = s.cut := if_neg fun h => by omega
    rw [e1] at hzc; exact hzc
   rcases inb z hz x hin with h | ⟨_, h⟩
   ·
    have hxv : x ≠ v := fun e => by
     subst e; have := h.2 x hv huv; omega
    rcases hb x hxb with e | hxb
    · exact absurd e hxv
    · exact hl.cutS z hu hzr hc' x hxb h
   ·
    rcases hl.att v hv with h1 | ⟨y, w, h1, h2, h3, h4⟩
    · omega
    ·
     have c1 : Con bs (Av n gone z) root w := (ht.pth w h3).mono fun a ⟨k1, k2, k3⟩ => ⟨k1, fun e => by subst e; omega⟩
     have hyn : s.num y ≠ 0 := by have := h1.1; omega
     have c2 : Con bs (Av n gone z) root y := c1.step (hsy _ _ h2) ⟨ht.numP y hyn, fun e => by subst e; have := h1.1; omega⟩; exact (c2.trans ((tr y h1.1).symm hsy)).trans (tr x h)
  ·
   have hc' : s.cut z = false := by
    by_cases hc : u ≠ root ∧ s.num u ≤ s.low v
    ·
     have e1 : (s.pop v u root).cut = upd s.cut u true := if_pos hc; rw [e1, upd_ne _ _ e] at hzc; exact hzc
    ·
     have e1 : (s.pop v u root).cut = s.cut := if_neg hc; rw [e1] at hzc; exact hzc
   rcases inb z hz x hin with h | ⟨h, _⟩
   ·
    have hzv : s.num z < s.num v := by
     rcases List.mem_cons.1 hz with e' | hz
     · exact absurd e' e
     · have := hr z hz; omega
    rcases hb x hxb with e' | hxb
    ·
     subst e'; have := h.2 x hv hzv; omega
    · exact hl.cutS z (hmem z hz) hzr hc' x hxb h
   · exact absurd h e
 ·
  intro hk x hxr hxb hin
  have hur : u ≠ root := fun e => by
   have e1 : (s.pop v u root).kids = s.kids + 1 := if_pos e; omega
  have e1 : (s.pop v u root).kids = s.kids := if_neg hur
  rw [e1] at hk
  have hri : root ∈ u :: r := by
   have := ht.rootIn hs; rw [hs] at this; rcases List.mem_cons.1 this with h | h
   · exact absurd h hrv
   · exact h
  rcases inb root hri x hin with h | ⟨h, _⟩
  ·
   rcases hb x hxb with rfl | hxb
   · have := h.2 x hv (by omega); omega
   · exact hl.kids0 hk x hxr hxb h
  · exact hur h.symm
 ·
  intro hk
  by_cases hur : u = root
  ·
   have e1 : (s.pop v u root).kids = s.kids + 1 := if_pos hur; have hk0 : s.kids = 0 := by omega
   refine ⟨v, hrv.symm, hbv, ⟨by show s.num root ≤ s.num v; omega, fun a ha hlt => ?_⟩, fun x hxr hxb hin => ?_⟩
   ·
    rw [hstk] at ha; rcases List.mem_cons.1 ha with rfl | ha
    · rw [hur] at hlt; exact absurd hlt (Nat.lt_irrefl _)
    ·
     have h1 := hr a ha; have h2 : s.num root < s.num a := hlt; rw [hur] at h1; omega
   ·
    rcases inb root (by rw [← hur]; simp) x hin with h | ⟨_, h⟩
    ·
     rcases hb x hxb with rfl | hxb
     · rw [← hur]; exact tr x (Nat.le_refl _)
     · exact absurd h (hl.kids0 hk0 x hxr hxb)
    · rw [← hur]; exact tr x h
  ·
   have e1 : (s.pop v u root).kids = s.kids := if_neg hur; rw [e1] at hk; have hri : root ∈ u :: r := by
    have := ht.rootIn hs; rw [hs] at this; rcases List.mem_cons.1 this with h | h
    · exact absurd h hrv
    · exact h
   obtain ⟨c, h1, h2, h3, h4⟩ := hl.kids1 hk; refine ⟨c, h1, hb2 c h2, inb2 root c h3, fun x hxr hxb hin => ?_⟩; rcases inb root hri x hin with h | ⟨h, _⟩
   ·
    rcases hb x hxb with rfl | hxb
    · have := h.2 x hv (by omega); omega
    · exact h4 x hxr hxb h
   · exact absurd h.symm hur
 ·
  intro hk
  by_cases hur : u = root
  ·
   have e1 : (s.pop v u root).kids = s.kids + 1 := if_pos hur; by_cases hk1 : s.kids = 1
   ·
    obtain ⟨c, h1, h2, h3, h4⟩ := hl.kids1 hk1; refine ⟨v, c, hvn, h2.1, hrv.symm, h1, fun hcon => ?_⟩; have h5 := sepR hur c hcon; have h6 := h3.2 v hv (by rw [← hur]; exact huv); omega
   · exact hl.kids2 (by omega)
  ·
   have e1 : (s.pop v u root).kids = s.kids := if_neg hur; rw [e1] at hk; exact hl.kids2 hk
end
section
variable {n : Nat} {bs : Nat → List Nat} {gone : Int} {root : Nat} {s : CS}
theorem CL.drop (hl : CL n bs gone root s) (hs : s.stack = [root]) : CL n bs gone root s.drop := by
 have hstk : s.drop.stack = [] := by show s.stack.tail = _; rw [hs]; rfl
 have hb : ∀ x, s.drop.Black x → x = root ∨ s.Black x := fun x hx => by
  by_cases e : x = root
  · exact .inl e
  · exact .inr ⟨hx.1, by rw [hs]; simpa using e⟩
 have hb2 : ∀ x, s.Black x → s.drop.Black x := fun x hx => ⟨hx.1, by rw [hstk]; simp⟩
 have inb : ∀ x, s.drop.InB root x → s.InB root x := fun x h => ⟨h.1, fun a ha hlt => by
  rw [hs] at ha; simp at ha; subst ha; exact absurd hlt (Nat.lt_irrefl _)⟩
 have inb2 : ∀ x, s.InB root x → s.drop.InB root x := fun x h => ⟨h.1, fun a ha => by rw [hstk] at ha; simp at ha⟩
 have no : ∀ z, z ∉ s.drop.stack := fun z => by rw [hstk]; simp
 refine ⟨fun z hz => absurd hz (no z), fun z hz => absurd hz (no z), fun z hz => absurd hz (no z), hl.cutT, fun z hzr hzb hzc x hx hxz => ?_, fun z hz => absurd hz (no z), fun hk x hxr hxb hin => ?_, fun hk => ?_, hl.kids2⟩
 ·
  rcases hb z hzb with e | hzb
  · exact absurd e hzr
  · exact hl.cutF z hzr hzb hzc x hx hxz
 ·
  rcases hb x hxb with e | hxb
  · exact absurd e hxr
  · exact hl.kids0 hk x hxr hxb (inb x hin)
 ·
  obtain ⟨c, h1, h2, h3, h4⟩ := hl.kids1 hk
  refine ⟨c, h1, hb2 c h2, inb2 c h3, fun x hxr hxb hin => ?_⟩
  rcases hb x hxb with e | hxb
  · exact absurd e hxr
  · exact h4 x hxr hxb (inb x hin)
def CS.start (root : Nat) : CS := ⟨upd (fun _ => 0) root 1, upd (fun _ => 0) root 1, fun _ => 0, fun _ => 0, fun _ => false, [root], 1, 0⟩
theorem CT.start (hr : Pres n gone root) : CT n bs gone root (CS.start root) := by
 have nr : (CS.start root).num root = 1 := by simp [CS.start, upd]
 have no : ∀ x, x ≠ root → (CS.start root).num x = 0 := fun x hx => by simp [CS.start, upd, hx]
 have only : ∀ x, (CS.start root).num x ≠ 0 → x = root := fun x hx => Classical.byContradiction fun e => hx (no x e)
 have nb : ∀ x, ¬ (CS.start root).Black x := fun x hx => hx.2 (by show x ∈ [root]; simp [only x hx.1])
 refine ⟨fun x hx => by rw [only x hx]; exact hr, fun x => ?_, fun x y hx e => ?_, nr, ⟨[root], by simp, rfl, fun x => ?_⟩, fun v hv => ?_, by show [root].Pairwise _; simp, rfl, fun v => Nat.zero_le _, fun _ _ => rfl, fun v w ⟨i, hi, _⟩ => absurd hi (Nat.not_lt_zero _), fun x hx => absurd hx (nb x), fun x v hx => absurd hx (nb x), fun v hv x hx => ?_, fun x hx => ?_⟩
 ·
  by_cases e : x = root
  · subst e; rw [nr]; exact Nat.le_refl _
  · rw [no x e]; exact Nat.zero_le _
 · rw [only x hx, only y (by rw [← e]; exact hx)]
 ·
  constructor
  · intro h; simp at h; subst h; omega
  · intro h; simp [only x h]
 ·
  have : v ∈ [root] := hv
  simp at this; subst this; omega
 ·
  have : v ∈ [root] := hv
  simp at this; subst this
  rw [only x (by omega)]
  exact .refl ⟨hr, Nat.le_refl _⟩
 ·
  rw [only x hx]
  exact .refl ⟨hr, by omega, Nat.le_refl _⟩
theorem CL.start : CL n bs gone root (CS.start root) := by
 have no : ∀ x, x ≠ root → (CS.start root).num x = 0 := fun x hx => by simp [CS.start, upd, hx]
 have only : ∀ x, (CS.start root).num x ≠ 0 → x = root := fun x hx => Classical.byContradiction fun e => hx (no x e)
 have nb : ∀ x, ¬ (CS.start root).Black x := fun x hx => hx.2 (by show x ∈ [root]; simp [only x hx.1])
 refine ⟨fun v _ => Nat.le_refl _, fun v _ x w _ ⟨i, hi, _⟩ => absurd hi (Nat.not_lt_zero _), fun v _ => .inl rfl, fun u hu => ?_, fun u _ hb => absurd hb (nb u), fun u _ _ _ x hx => absurd hx (nb x), fun _ x _ hx => absurd hx (nb x), fun hk => ?_, fun hk => ?_⟩
 · cases hu
 · cases hk
 · exact absurd hk (by show ¬ 2 ≤ 0; omega)
def presB (gone : Int) (x : Nat) : Bool := decide ((x : Int) ≠ gone)
theorem nodup_len_le {l m : List Nat} (h : l.Nodup) (hs : ∀ x ∈ l, x ∈ m) : l.length ≤ m.length := by
 induction l generalizing m with
 | nil => simp
 | cons a l ih =>
  obtain ⟨h1, h2⟩ := List.nodup_cons.1 h
  have ha := hs a (by simp)
  have h3 := ih (m := m.erase a) h2 fun x hx => by
   have hxa : x ≠ a := fun e => h1 (e ▸ hx); exact (List.mem_erase_of_ne hxa).2 (hs x (by simp [hx]))
  rw [List.length_erase_of_mem ha] at h3
  have := List.length_pos_of_mem ha
  simp only [List.length_cons]; omega
structure CutSpec (n : Nat) (bs : Nat → List Nat) (gone : Int) (join : Bool) (cut : Nat → Bool) : Prop where
 join_iff : join = true ↔ ∀ x y, Pres n gone x → Pres n gone y → Con bs (Pres n gone) x y
 cut_iff : join = true → ∀ u, Pres n gone u → (cut u = true ↔ ∃ x y, Av n gone u x ∧ Av n gone u y ∧ ¬ Con bs (Av n gone u) x y)
 cut_no : ∀ u, ¬ Pres n gone u → cut u = false
theorem cut_end (ht : CT n bs gone root s) (hl : CL n bs gone root s) (hsy : ∀ a b, b ∈ bs a → a ∈ bs b) (hs : s.stack = []) (left : Nat) (hleft : left = ((List.range n).filter (presB gone)).length) :
  CutSpec n bs gone (decide (s.met = left)) (upd s.cut root (decide (1 < s.kids))) := by
 have hblack : ∀ x, s.num x ≠ 0 → s.Black x := fun x hx => ⟨hx, by rw [hs]; simp⟩
 have hin : ∀ x, s.num x ≠ 0 → s.InB root x := fun x hx => ⟨by have := ht.root1; omega, fun a ha => by rw [hs] at ha; simp at ha⟩
 have hrn : s.num root ≠ 0 := by have := ht.root1; omega
 have hpr := ht.numP root hrn
 have hreach : ∀ x, Con bs (Pres n gone) root x → s.num x ≠ 0 := fun x hx =>
  hx.closed (fun y => s.num y ≠ 0) (fun a b ha hb hp => ht.seen a b (ht.full' (hblack a ha) hb) hp) hrn
 have hall : s.met = left ↔ ∀ x, Pres n gone x → s.num x ≠ 0 := by
  obtain ⟨o, h1, h2, h3⟩ := ht.ord
  have hsub : ∀ x ∈ o, x ∈ (List.range n).filter (presB gone) := fun x hx => by
   have := ht.numP x ((h3 x).1 hx); simp only [List.mem_filter, List.mem_range, presB, decide_eq_true_eq]; exact this
  have hnd : ((List.range n).filter (presB gone)).Nodup := List.nodup_range.filter _
  constructor
  ·
   intro e x hx; rw [← h3]; refine Classical.byContradiction fun hno => ?_; have hs2 : o ⊆ ((List.range n).filter (presB gone)).erase x := fun y hy => by
    rw [List.Nodup.mem_erase_iff hnd]; exact ⟨fun e => hno (e ▸ hy), hsub y hy⟩
   have hle := nodup_len_le h1 hs2; have hmem : x ∈ (List.range n).filter (presB gone) := by
    simp only [List.mem_filter, List.mem_range, presB, decide_eq_true_eq]; exact hx
   have hlen := List.length_erase_of_mem hmem; have hpos := List.length_pos_of_mem hmem; omega
  ·
   intro hx; have hs2 : ((List.range n).filter (presB gone)) ⊆ o := fun y hy => by
    simp only [List.mem_filter, List.mem_range, presB, decide_eq_true_eq] at hy; exact (h3 y).2 (hx y hy)
   have a1 := nodup_len_le h1 hsub; have a2 := nodup_len_le hnd hs2; omega
 have hjoin : s.met = left → ∀ x, Pres n gone x → Con bs (Pres n gone) root x := fun e x hx =>
  (ht.pth x (hall.1 e x hx)).mono fun a h => h.1
 refine ⟨?_, ?_, ?_⟩
 ·
  rw [decide_eq_true_eq]
  constructor
  ·
   intro e x y hx hy; exact ((hjoin e x hx).symm hsy).trans (hjoin e y hy)
  ·
   intro h; exact hall.2 fun x hx => hreach x (h root x hpr hx)
 ·
  intro hj u hu
  rw [decide_eq_true_eq] at hj
  have hvis := hall.1 hj
  by_cases e : u = root
  ·
   subst e; rw [upd_same, decide_eq_true_eq]; constructor
   ·
    intro hk; obtain ⟨c, d, h1, h2, h3, h4, h5⟩ := hl.kids2 hk; exact ⟨c, d, ⟨ht.numP c h1, h3⟩, ⟨ht.numP d h2, h4⟩, h5⟩
   ·
    rintro ⟨x, y, hx, hy, hno⟩; refine Classical.byContradiction fun hk => ?_; by_cases hk0 : s.kids = 0
    · exact hl.kids0 hk0 x hx.2 (hblack x (hvis x hx.1)) (hin x (hvis x hx.1))
    ·
     obtain ⟨c, h1, h2, h3, h4⟩ := hl.kids1 (by omega); exact hno (((h4 x hx.2 (hblack x (hvis x hx.1)) (hin x (hvis x hx.1))).symm hsy).trans (h4 y hy.2 (hblack y (hvis y hy.1)) (hin y (hvis y hy.1))))
  ·
   rw [upd_ne _ _ e]; constructor
   ·
    intro hc; obtain ⟨h1, h2, c, h3, h4, h5⟩ := hl.cutT u hc; exact ⟨root, c, ⟨hpr, fun e' => e e'.symm⟩, ⟨ht.numP c h3, h4⟩, h5⟩
   ·
    rintro ⟨x, y, hx, hy, hno⟩; refine Classical.byContradiction fun hc => ?_; have hc' : s.cut u = false := by simpa using hc
    have hf := hl.cutF u e (hblack u (hvis u hu)) hc'; exact hno (((hf x (hvis x hx.1) hx.2).symm hsy).trans (hf y (hvis y hy.1) hy.2))
 ·
  intro u hu
  have e : u ≠ root := fun e => hu (e ▸ hpr)
  rw [upd_ne _ _ e]
  refine Classical.byContradiction fun hc => ?_
  exact hu (ht.numP u (hl.cutT u (by simpa using hc)).2.1)
end
end Go.Proofs.YtagcbnpahgfgmaaGreat
namespace Go.Proofs.YtagcbnpahgfgmaaGreat
abbrev Lk := Int × Int × Int
def cmpI (a b : Int) : Int := if a < b then -1 else if b < a then 1 else 0
def orI (x y : Int) : Int := if x = 0 then y else x
def cmpL (a b : Lk) : Int := orI (cmpI a.1 b.1) (orI (cmpI a.2.1 b.2.1) (cmpI a.2.2 b.2.2))
def LtL (a b : Lk) : Prop := a.1 < b.1 ∨ (a.1 = b.1 ∧ (a.2.1 < b.2.1 ∨ (a.2.1 = b.2.1 ∧ a.2.2 < b.2.2)))
instance instLtL : DecidableRel LtL := fun a b => by unfold LtL; infer_instance
theorem cmpL_neg (a b : Lk) : cmpL a b < 0 ↔ LtL a b := by
 unfold cmpL orI cmpI LtL
 repeat' split
 all_goals omega
theorem LtL.irrefl (a : Lk) : ¬ LtL a a := by unfold LtL; omega
theorem LtL.trans {a b c : Lk} (h : LtL a b) (k : LtL b c) : LtL a c := by unfold LtL at *; omega
theorem LtL.total (a b : Lk) (h : ¬ LtL a b) (k : ¬ LtL b a) : a = b := by
 obtain ⟨a1, a2, a3⟩ := a; obtain ⟨b1, b2, b3⟩ := b
 simp only [LtL] at h k
 ext <;> simp only <;> omega
theorem LtL.asymm {a b : Lk} (h : LtL a b) : ¬ LtL b a := by unfold LtL at *; omega
def OkL (k : Lk) : Prop := 0 ≤ k.1 ∧ k.1 < k.2.1 ∧ k.2.1 < 1048576 ∧ 0 ≤ k.2.2 ∧ k.2.2 ≤ 1048576
instance instOkL (k : Lk) : Decidable (OkL k) := by unfold OkL; infer_instance
def RightL (ls : List Lk) : Prop := ls.length ≤ 1000 ∧ (∀ k ∈ ls, OkL k) ∧ ls.Pairwise LtL
instance instRightL (ls : List Lk) : Decidable (RightL ls) := by unfold RightL; infer_instance
def rightL (ls : List Lk) : Bool := decide (RightL ls)
theorem rightL_iff (ls : List Lk) : rightL ls = true ↔ RightL ls := by unfold rightL; rw [decide_eq_true_eq]
theorem pair_chain {α : Type} {R : α → α → Prop} (ht : ∀ a b c, R a b → R b c → R a c) (l : List α) : l.Pairwise R ↔ ∀ i (h : i + 1 < l.length), R l[i] l[i+1] := by
 rw [List.pairwise_iff_getElem]
 constructor
 · intro h i hi; exact h i (i+1) (by omega) hi (by omega)
 ·
  intro h i j hi hj hlt
  obtain ⟨d, rfl⟩ : ∃ d, j = i + 1 + d := ⟨j - (i + 1), by omega⟩
  clear hlt
  induction d with
  | zero => exact h i (by omega)
  | succ d ih => exact ht _ _ _ (ih (by omega)) (h (i + 1 + d) (by omega))
theorem rightL_at (ls : List Lk) : rightL ls = true ↔ ls.length ≤ 1000 ∧ (∀ i (h : i < ls.length), OkL ls[i]) ∧ (∀ i (h : i + 1 < ls.length), LtL ls[i] ls[i+1]) := by
 rw [rightL_iff]; unfold RightL
 rw [pair_chain (R := LtL) (fun a b c h k => LtL.trans h k)]
 constructor
 · rintro ⟨a, b, c⟩; exact ⟨a, fun i h => b _ (List.getElem_mem h), c⟩
 ·
  rintro ⟨a, b, c⟩
  refine ⟨a, fun k hk => ?_, c⟩
  obtain ⟨i, hi, rfl⟩ := List.getElem_of_mem hk
  exact b i hi
theorem rightL_false {ls : List Lk} (h : ¬ RightL ls) : rightL ls = false := by unfold rightL; simpa using h
def insL (x : Lk) : List Lk → List Lk
 | [] => [x]
 | y :: r => if LtL x y then x :: y :: r else y :: insL x r
def swapL (k : Lk) : Lk := if k.2.1 < k.1 then (k.2.1, k.1, k.2.2) else k
def sortL (ls : List Lk) : List Lk := ls.foldl (fun o k => insL (swapL k) o) []
def LeL (a b : Lk) : Prop := ¬ LtL b a
theorem LeL.trans {a b c : Lk} (h : LeL a b) (k : LeL b c) : LeL a c := by unfold LeL LtL at *; omega
theorem insL_perm (x : Lk) (l : List Lk) : (insL x l).Perm (x :: l) := by
 induction l with
 | nil => exact .refl _
 | cons y r ih =>
  unfold insL
  split
  · exact .refl _
  · exact (ih.cons y).trans (List.Perm.swap _ _ _)
theorem insL_sorted (x : Lk) (l : List Lk) (h : l.Pairwise LeL) : (insL x l).Pairwise LeL := by
 induction l with
 | nil => simp [insL]
 | cons y r ih =>
  obtain ⟨h1, h2⟩ := List.pairwise_cons.1 h
  unfold insL
  split
  ·
   rename_i hlt; rw [List.pairwise_cons]; refine ⟨fun z hz => ?_, h⟩; have hxy : LeL x y := hlt.asymm; rcases List.mem_cons.1 hz with rfl | hz
   · exact hxy
   · exact hxy.trans (h1 z hz)
  ·
   rename_i hlt; rw [List.pairwise_cons]; refine ⟨fun z hz => ?_, ih h2⟩; rcases List.mem_cons.1 ((insL_perm x r).mem_iff.1 hz) with rfl | hz
   · exact hlt
   · exact h1 z hz
theorem sortL_aux (ls o : List Lk) (ho : o.Pairwise LeL) : (ls.foldl (fun o k => insL (swapL k) o) o).Pairwise LeL ∧ (ls.foldl (fun o k => insL (swapL k) o) o).Perm (o ++ ls.map swapL) := by
 induction ls generalizing o with
 | nil => simp [ho]
 | cons k r ih =>
  obtain ⟨h1, h2⟩ := ih (insL (swapL k) o) (insL_sorted _ _ ho)
  refine ⟨h1, h2.trans ?_⟩
  rw [List.map_cons]
  exact ((insL_perm _ _).append_right _).trans (by simpa using (List.perm_middle (l₁ := o) (a := swapL k) (l₂ := r.map swapL)).symm)
theorem sortL_sorted (ls : List Lk) : (sortL ls).Pairwise LeL := (sortL_aux ls [] .nil).1
theorem sortL_perm (ls : List Lk) : (sortL ls).Perm (ls.map swapL) := (sortL_aux ls [] .nil).2
theorem sorted_one {a b : List Lk} (h : a.Perm b) (ha : a.Pairwise LeL) (hb : b.Pairwise LeL) : a = b :=
 h.eq_of_pairwise (fun x y _ _ h1 h2 => LtL.total x y h2 h1) ha hb
theorem sortL_length (ls : List Lk) : (sortL ls).length = ls.length := by rw [(sortL_perm ls).length_eq]; simp
theorem sortL_one {ls o : List Lk} (h : o.Perm (ls.map swapL)) (ho : o.Pairwise LeL) : o = sortL ls := sorted_one (h.trans (sortL_perm ls).symm) ho (sortL_sorted ls)
theorem sortL_merge (ls : List Lk) : (ls.map swapL).mergeSort (fun x y => !decide (cmpL y x < 0)) = sortL ls := by
 refine sortL_one (List.mergeSort_perm _ _) ?_
 have := List.pairwise_mergeSort (le := fun x y : Lk => !decide (cmpL y x < 0)) (fun a b c => by simp only [Bool.not_eq_true', decide_eq_false_iff_not, cmpL_neg]; exact LeL.trans) (fun a b => by
  simp only [Bool.or_eq_true, Bool.not_eq_true', decide_eq_false_iff_not, cmpL_neg]
  by_cases h : LtL b a
  · exact .inr h.asymm
  · exact .inl h) (ls.map swapL)
 refine this.imp fun {a b} h => ?_
 unfold LeL
 simpa [cmpL_neg] using h
theorem swapL_id {k : Lk} (h : OkL k) : swapL k = k := by unfold swapL; rw [if_neg (by unfold OkL at h; omega)]
theorem map_swapL {ls : List Lk} (h : ∀ k ∈ ls, OkL k) : ls.map swapL = ls := by
 induction ls with
 | nil => rfl
 | cons k r ih => rw [List.map_cons, swapL_id (h k (by simp)), ih fun x hx => h x (by simp [hx])]
theorem sortL_congr {a b : List Lk} (h : (a.map swapL).Perm (b.map swapL)) : sortL a = sortL b := sortL_one ((sortL_perm a).trans h) (sortL_sorted a)
def insV (x : Int) : List Int → List Int
 | [] => [x]
 | y :: r => if x < y then x :: y :: r else if x = y then y :: r else y :: insV x r
def endsL (ls : List Lk) : List Int := ls.flatMap fun k => [k.1, k.2.1]
def vertsL (ls : List Lk) : List Int := (endsL ls).foldl (fun o v => insV v o) []
theorem mem_insV (x : Int) (l : List Int) (z : Int) : z ∈ insV x l ↔ z = x ∨ z ∈ l := by
 induction l with
 | nil => simp [insV]
 | cons y r ih =>
  unfold insV
  split
  · simp
  ·
   split
   · rename_i h; subst h; simp
   ·
    simp only [List.mem_cons, ih]; constructor
    ·
     rintro (h | h | h)
     · exact .inr (.inl h)
     · exact .inl h
     · exact .inr (.inr h)
    ·
     rintro (h | h | h)
     · exact .inr (.inl h)
     · exact .inl h
     · exact .inr (.inr h)
theorem insV_sorted (x : Int) (l : List Int) (h : l.Pairwise (· < ·)) : (insV x l).Pairwise (· < ·) := by
 induction l with
 | nil => simp [insV]
 | cons y r ih =>
  obtain ⟨h1, h2⟩ := List.pairwise_cons.1 h
  unfold insV
  split
  ·
   rename_i hlt; rw [List.pairwise_cons]; refine ⟨fun z hz => ?_, h⟩; rcases List.mem_cons.1 hz with rfl | hz
   · exact hlt
   · have := h1 z hz; omega
  ·
   split
   · exact h
   ·
    rw [List.pairwise_cons]; refine ⟨fun z hz => ?_, ih h2⟩; rcases (mem_insV x r z).1 hz with rfl | hz
    · omega
    · exact h1 z hz
theorem vertsL_aux (vs o : List Int) (ho : o.Pairwise (· < ·)) : (vs.foldl (fun o v => insV v o) o).Pairwise (· < ·) ∧ ∀ z, z ∈ vs.foldl (fun o v => insV v o) o ↔ z ∈ o ∨ z ∈ vs := by
 induction vs generalizing o with
 | nil => simp [ho]
 | cons v r ih =>
  obtain ⟨h1, h2⟩ := ih (insV v o) (insV_sorted _ _ ho)
  refine ⟨h1, fun z => ?_⟩
  rw [List.foldl_cons, h2, mem_insV, List.mem_cons]
  constructor
  ·
   rintro ((h | h) | h)
   · exact .inr (.inl h)
   · exact .inl h
   · exact .inr (.inr h)
  ·
   rintro (h | h | h)
   · exact .inl (.inr h)
   · exact .inl (.inl h)
   · exact .inr h
theorem vertsL_sorted (ls : List Lk) : (vertsL ls).Pairwise (· < ·) := (vertsL_aux _ [] .nil).1
theorem mem_vertsL (ls : List Lk) (z : Int) : z ∈ vertsL ls ↔ ∃ k ∈ ls, z = k.1 ∨ z = k.2.1 := by
 unfold vertsL
 rw [(vertsL_aux _ [] .nil).2]
 simp [endsL]
theorem strict_one {a b : List Int} (ha : a.Pairwise (· < ·)) (hb : b.Pairwise (· < ·)) (h : ∀ z, z ∈ a ↔ z ∈ b) : a = b := by
 induction a generalizing b with
 | nil =>
  cases b with
  | nil => rfl
  | cons y r => have := (h y).2 (by simp); simp at this
 | cons x a ih =>
  cases b with
  | nil => have := (h x).1 (by simp); simp at this
  | cons y r =>
   obtain ⟨a1, a2⟩ := List.pairwise_cons.1 ha; obtain ⟨b1, b2⟩ := List.pairwise_cons.1 hb; have e : x = y := by
    have h1 := (h x).1 (by simp); have h2 := (h y).2 (by simp); rcases List.mem_cons.1 h1 with e | h1
    · exact e
    ·
     rcases List.mem_cons.1 h2 with e | h2
     · exact e.symm
     · have := b1 x h1; have := a1 y h2; omega
   subst e; rw [ih a2 b2 fun z => ?_]; constructor
   ·
    intro hz; rcases List.mem_cons.1 ((h z).1 (by simp [hz])) with rfl | h3
    · have := a1 z hz; omega
    · exact h3
   ·
    intro hz; rcases List.mem_cons.1 ((h z).2 (by simp [hz])) with rfl | h3
    · have := b1 z hz; omega
    · exact h3
theorem vertsL_one {ls : List Lk} {o : List Int} (ho : o.Pairwise (· < ·)) (h : ∀ z, z ∈ o ↔ ∃ k ∈ ls, z = k.1 ∨ z = k.2.1) : o = vertsL ls :=
 strict_one ho (vertsL_sorted ls) fun z => by rw [h, mem_vertsL]
theorem endsL_length (ls : List Lk) : (endsL ls).length = ls.length * 2 := by
 induction ls with
 | nil => rfl
 | cons k r ih => unfold endsL at ih ⊢; rw [List.flatMap_cons, List.length_append, ih]; simp only [List.length_cons, List.length_nil]; omega
theorem strict_len {l o : List Int} (ho : o.Pairwise (· < ·)) (h : ∀ z ∈ o, z ∈ l) : o.length ≤ l.length := by
 induction o generalizing l with
 | nil => simp
 | cons a o ih =>
  obtain ⟨h1, h2⟩ := List.pairwise_cons.1 ho
  have ha := h a (by simp)
  have h3 := ih (l := l.erase a) h2 fun x hx => by
   have := h1 x hx; exact (List.mem_erase_of_ne (by omega)).2 (h x (by simp [hx]))
  rw [List.length_erase_of_mem ha] at h3
  have := List.length_pos_of_mem ha
  simp only [List.length_cons]; omega
theorem vertsL_length (ls : List Lk) : (vertsL ls).length ≤ ls.length * 2 := by
 rw [← endsL_length]
 exact strict_len (vertsL_sorted ls) fun z hz => by rw [mem_vertsL] at hz; simp only [endsL, List.mem_flatMap, List.mem_cons, List.not_mem_nil, or_false]; exact hz
theorem compact_strict (zs : List Int) (hs : zs.Pairwise (· ≤ ·)) : (Lib.compact zs).Pairwise (· < ·) ∧ ∀ z, z ∈ Lib.compact zs ↔ z ∈ zs := by
 have hle := List.pairwise_iff_getElem.1 hs
 have hk : ∀ i, Lib.keeps zs.toArray i = true ↔ (i = 0 ∨ zs[i]! ≠ zs[i-1]!) := fun i => by simp [Lib.keeps]
 have hg : ∀ i (h : i < zs.length), zs.toArray[i]! = zs[i] := fun i h => by simp [h]
 unfold Lib.compact Lib.compactUpTo
 constructor
 ·
  rw [List.pairwise_map, List.pairwise_filter]
  refine List.Pairwise.imp_of_mem ?_ (List.pairwise_lt_range (n := zs.length))
  intro a b ha hb hab _ hkb
  rw [List.mem_range] at ha hb
  rw [hk] at hkb
  rcases hkb with rfl | hkb
  · omega
  ·
   rw [hg a ha, hg b hb]; have e1 : zs[b]! = zs[b] := by simp [hb]
   have e2 : zs[b-1]! = zs[b-1] := by simp [show b - 1 < zs.length by omega]
   rw [e1, e2] at hkb; have h1 := hle (b-1) b (by omega) hb (by omega); by_cases hab1 : a = b - 1
   · subst hab1; omega
   · have h2 := hle a (b-1) ha (by omega) (by omega); omega
 ·
  intro z
  simp only [List.mem_map, List.mem_filter, List.mem_range]
  constructor
  ·
   rintro ⟨i, ⟨hi, _⟩, rfl⟩; rw [hg i hi]; exact List.getElem_mem hi
  ·
   intro hz; obtain ⟨i, hi, rfl⟩ := List.getElem_of_mem hz; clear hz; induction i using Nat.strongRecOn with
   | _ i ih =>
    by_cases hki : Lib.keeps zs.toArray i = true
    · exact ⟨i, ⟨hi, hki⟩, hg i hi⟩
    ·
     rw [hk] at hki; have hi0 : i ≠ 0 := fun e => hki (.inl e); have e : zs[i]! = zs[i-1]! := Classical.byContradiction fun e => hki (.inr e); have e1 : zs[i]! = zs[i] := by simp [hi]
     have e2 : zs[i-1]! = zs[i-1]'(by omega) := by simp [show i - 1 < zs.length by omega]
     rw [e1, e2] at e; obtain ⟨j, hj, hje⟩ := ih (i-1) (by omega) (by omega); exact ⟨j, hj, by rw [hje, e]⟩
theorem vertsL_compact (ls : List Lk) : Lib.compact ((endsL ls).mergeSort fun x y => decide (x ≤ y)) = vertsL ls := by
 have hp := List.pairwise_mergeSort (le := fun x y : Int => decide (x ≤ y)) (fun a b c => by simp only [decide_eq_true_eq]; omega) (fun a b => by simp only [Bool.or_eq_true, decide_eq_true_eq]; omega) (endsL ls)
 obtain ⟨h1, h2⟩ := compact_strict _ (hp.imp fun {a b} h => by simpa using h)
 refine vertsL_one h1 fun z => ?_
 rw [h2, (List.mergeSort_perm _ _).mem_iff]
 simp [endsL]
end Go.Proofs.YtagcbnpahgfgmaaGreat
namespace Go.Proofs.YtagcbnpahgfgmaaGreat
def closeStep (n : Nat) (bs : Nat → List Nat) (S : List Nat) : List Nat := (List.range n).filter fun j => S.contains j || S.any fun i => (bs i).contains j
def closeN (n : Nat) (bs : Nat → List Nat) (S : List Nat) : Nat → List Nat
 | 0 => S
 | k + 1 => closeStep n bs (closeN n bs S k)
def compC (n : Nat) (bs : Nat → List Nat) (i : Nat) : List Nat := closeN n bs [i] n
theorem mem_closeStep {n : Nat} {bs : Nat → List Nat} {S : List Nat} {j : Nat} : j ∈ closeStep n bs S ↔ j < n ∧ (j ∈ S ∨ ∃ i ∈ S, j ∈ bs i) := by
 unfold closeStep
 simp only [List.mem_filter, List.mem_range, Bool.or_eq_true, List.contains_iff_mem, List.any_eq_true]
theorem closeN_lt {n : Nat} {bs : Nat → List Nat} {i : Nat} (hi : i < n) (k : Nat) : ∀ j ∈ closeN n bs [i] k, j < n := by
 cases k with
 | zero => intro j hj; simp only [closeN, List.mem_cons, List.not_mem_nil, or_false] at hj; omega
 | succ k => intro j hj; exact (mem_closeStep.1 hj).1
theorem closeN_nodup (n : Nat) (bs : Nat → List Nat) (i k : Nat) : (closeN n bs [i] k).Nodup := by
 cases k with
 | zero => simp [closeN]
 | succ k => exact List.nodup_range.filter _
theorem closeN_self {n : Nat} {bs : Nat → List Nat} {i : Nat} (hi : i < n) (k : Nat) : i ∈ closeN n bs [i] k := by
 induction k with
 | zero => simp [closeN]
 | succ k ih => exact mem_closeStep.2 ⟨hi, .inl ih⟩
theorem closeN_sound {n : Nat} {bs : Nat → List Nat} {i : Nat} (hi : i < n) (k : Nat) : ∀ j ∈ closeN n bs [i] k, Con bs (· < n) i j := by
 induction k with
 | zero => intro j hj; simp only [closeN, List.mem_cons, List.not_mem_nil, or_false] at hj; subst hj; exact .refl hi
 | succ k ih =>
  intro j hj
  obtain ⟨h1, h2 | ⟨a, ha, hb⟩⟩ := mem_closeStep.1 hj
  · exact ih j h2
  · exact (ih a ha).step hb h1
theorem closeN_full {n : Nat} {bs : Nat → List Nat} {i : Nat} (hi : i < n) (k : Nat) :
  (∀ a ∈ closeN n bs [i] k, ∀ b ∈ bs a, b < n → b ∈ closeN n bs [i] k) ∨ k + 1 ≤ (closeN n bs [i] k).length := by
 induction k with
 | zero => right; simp [closeN]
 | succ k ih =>
  by_cases hc : ∀ a ∈ closeN n bs [i] k, ∀ b ∈ bs a, b < n → b ∈ closeN n bs [i] k
  ·
   left; have same : ∀ j, j ∈ closeN n bs [i] (k + 1) ↔ j ∈ closeN n bs [i] k := fun j => by
    constructor
    ·
     intro hj; obtain ⟨h1, h2 | ⟨a, ha, hb⟩⟩ := mem_closeStep.1 hj
     · exact h2
     · exact hc a ha j hb h1
    · intro hj; exact mem_closeStep.2 ⟨closeN_lt hi k j hj, .inl hj⟩
   intro a ha b hb hbn; rw [same] at ha ⊢; exact hc a ha b hb hbn
  ·
   right; have hlen := ih.resolve_left hc; have hex : ∃ a ∈ closeN n bs [i] k, ∃ b ∈ bs a, b < n ∧ b ∉ closeN n bs [i] k := Classical.byContradiction fun hno => hc fun a ha b hb hbn => Classical.byContradiction fun hnb => hno ⟨a, ha, b, hb, hbn, hnb⟩; obtain ⟨a, ha, b, hb, hbn, hnb⟩ := hex; have h1 : (b :: closeN n bs [i] k).Nodup := List.nodup_cons.2 ⟨hnb, closeN_nodup _ _ _ _⟩; have h2 := nodup_len_le (m := closeN n bs [i] (k + 1)) h1 fun x hx => by
    rcases List.mem_cons.1 hx with rfl | hx
    · exact mem_closeStep.2 ⟨hbn, .inr ⟨a, ha, hb⟩⟩
    · exact mem_closeStep.2 ⟨closeN_lt hi k x hx, .inl hx⟩
   simp only [List.length_cons] at h2; omega
theorem mem_compC {n : Nat} {bs : Nat → List Nat} {i : Nat} (hi : i < n) (j : Nat) : j ∈ compC n bs i ↔ Con bs (· < n) i j := by
 constructor
 · exact closeN_sound hi n j
 ·
  intro h
  have hfull : ∀ a ∈ compC n bs i, ∀ b ∈ bs a, b < n → b ∈ compC n bs i := by
   rcases closeN_full (bs := bs) hi n with h1 | h1
   · exact h1
   ·
    exfalso; have := nodup_len_le (m := List.range n) (closeN_nodup n bs i n) fun x hx => List.mem_range.2 (closeN_lt hi n x hx); rw [List.length_range] at this; omega
  exact h.closed (· ∈ compC n bs i) (fun a b ha hb hbn => hfull a ha b hb hbn) (closeN_self hi n)
theorem compC_eq {n : Nat} {bs : Nat → List Nat} (hs : ∀ a b, b ∈ bs a → a ∈ bs b) {i j : Nat} (hi : i < n) (hj : j < n) : compC n bs i = compC n bs j ↔ Con bs (· < n) i j := by
 constructor
 ·
  intro h
  rw [← mem_compC hi, h]; exact closeN_self hj n
 ·
  intro h
  have hm : ∀ a, a ∈ compC n bs i ↔ a ∈ compC n bs j := fun a => by
   rw [mem_compC hi, mem_compC hj]; exact ⟨fun k => (h.symm hs).trans k, fun k => h.trans k⟩
  obtain ⟨m, rfl⟩ : ∃ m, n = m + 1 := ⟨n - 1, by omega⟩
  unfold compC closeN closeStep at hm ⊢
  refine List.filter_congr fun a ha => ?_
  have := hm a
  simp only [List.mem_filter, ha, true_and] at this
  rw [Bool.eq_iff_iff]; exact this
section
variable {α : Type} [DecidableEq α]
def firsts (c : Nat → α) (n : Nat) : List Nat := (List.range n).filter fun i => (List.range i).all fun j => decide (c j ≠ c i)
def ofCol (c : Nat → α) (n : Nat) (x : α) : List Nat := (List.range n).filter fun j => decide (c j = x)
def gIdx (c : Nat → α) (n : Nat) : List (List Nat) := (firsts c n).map fun i => ofCol c n (c i)
theorem mem_firsts {c : Nat → α} {n i : Nat} : i ∈ firsts c n ↔ i < n ∧ ∀ j, j < i → c j ≠ c i := by
 simp [firsts]
theorem mem_ofCol {c : Nat → α} {n j : Nat} {x : α} : j ∈ ofCol c n x ↔ j < n ∧ c j = x := by simp [ofCol]
theorem firsts_succ (c : Nat → α) (n : Nat) : firsts c (n + 1) = firsts c n ++ if (∀ j, j < n → c j ≠ c n) then [n] else [] := by
 unfold firsts
 rw [List.range_succ, List.filter_append]
 congr 1
 by_cases h : ∀ j, j < n → c j ≠ c n
 · rw [if_pos h]; simp; exact h
 ·
  rw [if_neg h]
  simp only [List.filter_cons, List.filter_nil]
  rw [if_neg]
  simpa using h
theorem ofCol_succ (c : Nat → α) (n : Nat) (x : α) : ofCol c (n + 1) x = ofCol c n x ++ if c n = x then [n] else [] := by
 unfold ofCol
 rw [List.range_succ, List.filter_append]
 congr 1
 by_cases h : c n = x <;> simp [h]
theorem firsts_inj {c : Nat → α} {n i j : Nat} (hi : i ∈ firsts c n) (hj : j ∈ firsts c n) (h : c i = c j) : i = j := by
 rw [mem_firsts] at hi hj
 rcases Nat.lt_trichotomy i j with h1 | h1 | h1
 · exact absurd h (hj.2 i h1)
 · exact h1
 · exact absurd h.symm (hi.2 j h1)
theorem firsts_nodup (c : Nat → α) (n : Nat) : (firsts c n).Nodup := List.nodup_range.filter _
theorem gIdx_new (c : Nat → α) (n : Nat) (h : ∀ j, j < n → c j ≠ c n) : gIdx c (n + 1) = gIdx c n ++ [[n]] := by
 unfold gIdx
 rw [firsts_succ, if_pos h, List.map_append, List.map_cons, List.map_nil]
 congr 1
 ·
  refine List.map_congr_left fun i hi => ?_
  rw [ofCol_succ, if_neg, List.append_nil]
  exact fun e => h i (mem_firsts.1 hi).1 e.symm
 ·
  rw [ofCol_succ, if_pos rfl]
  have : ofCol c n (c n) = [] := by
   rw [List.eq_nil_iff_forall_not_mem]; intro j hj; obtain ⟨h1, h2⟩ := mem_ofCol.1 hj; exact h j h1 h2
  rw [this]; rfl
theorem gIdx_old (c : Nat → α) (n p i : Nat) (hp : (firsts c n)[p]? = some i) (hc : c i = c n) : gIdx c (n + 1) = (gIdx c n).set p (ofCol c n (c n) ++ [n]) := by
 have hi := List.mem_of_getElem? hp
 have hold : ¬ ∀ j, j < n → c j ≠ c n := fun h => h i (mem_firsts.1 hi).1 hc
 unfold gIdx
 rw [firsts_succ, if_neg hold, List.append_nil]
 apply List.ext_getElem?
 intro q
 rw [List.getElem?_set, List.getElem?_map, List.length_map, List.getElem?_map]
 have hpl : p < (firsts c n).length := (List.getElem?_eq_some_iff.1 hp).1
 by_cases e : p = q
 ·
  subst e
  rw [if_pos rfl, if_pos hpl, hp]
  simp only [Option.map_some]
  rw [ofCol_succ, if_pos hc.symm, hc]
 ·
  rw [if_neg e]
  cases hq : (firsts c n)[q]? with
  | none => rfl
  | some j =>
   simp only [Option.map_some]; rw [ofCol_succ, if_neg, List.append_nil]; intro e2; have hji := firsts_inj (List.mem_of_getElem? hq) hi (e2.symm.trans hc.symm); subst hji; exact e ((List.getElem?_inj hpl (firsts_nodup c n)).1 (hp.trans hq.symm))
theorem gIdx_get (c : Nat → α) (n p i : Nat) (hp : (firsts c n)[p]? = some i) : (gIdx c n)[p]? = some (ofCol c n (c i)) := by
 unfold gIdx; rw [List.getElem?_map, hp]; rfl
theorem gIdx_length (c : Nat → α) (n : Nat) : (gIdx c n).length = (firsts c n).length := by simp [gIdx]
theorem firsts_length_le (c : Nat → α) (n : Nat) : (firsts c n).length ≤ n := by
 have := List.length_filter_le (fun i => (List.range i).all fun j => decide (c j ≠ c i)) (List.range n)
 rw [List.length_range] at this; exact this
theorem ofCol_length_le (c : Nat → α) (n : Nat) (x : α) : (ofCol c n x).length ≤ n := by
 have := List.length_filter_le (fun j => decide (c j = x)) (List.range n)
 rw [List.length_range] at this; exact this
end
theorem gIdx_congr {α β : Type} [DecidableEq α] [DecidableEq β] {c : Nat → α} {d : Nat → β} {n : Nat} (h : ∀ i j, i < n → j < n → (c i = c j ↔ d i = d j)) : gIdx c n = gIdx d n := by
 have hf : firsts c n = firsts d n := by
  unfold firsts
  refine List.filter_congr fun i hi => ?_
  rw [List.mem_range] at hi
  rw [Bool.eq_iff_iff]
  simp only [List.all_eq_true, List.mem_range, decide_eq_true_eq]
  exact ⟨fun k j hj e => k j hj ((h j i (by omega) hi).2 e), fun k j hj e => k j hj ((h j i (by omega) hi).1 e)⟩
 unfold gIdx
 rw [hf]
 refine List.map_congr_left fun i hi => ?_
 unfold ofCol
 refine List.filter_congr fun j hj => ?_
 rw [List.mem_range] at hj
 rw [decide_eq_decide]
 exact h j i hj (mem_firsts.1 hi).1
def touchB (wo : List Int) (a b : Lk) : Bool := (!wo.contains a.1 && (a.1 == b.1 || a.1 == b.2.1)) || (!wo.contains a.2.1 && (a.2.1 == b.1 || a.2.1 == b.2.1))
theorem touchB_iff (wo : List Int) (a b : Lk) : touchB wo a b = true ↔ ∃ v, v ∉ wo ∧ (v = a.1 ∨ v = a.2.1) ∧ (v = b.1 ∨ v = b.2.1) := by
 unfold touchB
 simp only [Bool.or_eq_true, Bool.and_eq_true, Bool.not_eq_true', beq_iff_eq]
 have hc : ∀ x : Int, wo.contains x = false ↔ x ∉ wo := fun x => by simp
 rw [hc, hc]
 constructor
 ·
  rintro (⟨h1, h2⟩ | ⟨h1, h2⟩)
  · exact ⟨_, h1, .inl rfl, h2⟩
  · exact ⟨_, h1, .inr rfl, h2⟩
 ·
  rintro ⟨v, h1, rfl | rfl, h3⟩
  · exact .inl ⟨h1, h3⟩
  · exact .inr ⟨h1, h3⟩
theorem touchB_symm {wo : List Int} {a b : Lk} (h : touchB wo a b = true) : touchB wo b a = true := by
 rw [touchB_iff] at h ⊢
 obtain ⟨v, h1, h2, h3⟩ := h
 exact ⟨v, h1, h3, h2⟩
def bsL (ls : List Lk) (wo : List Int) (i : Nat) : List Nat := (List.range ls.length).filter fun j => match ls[i]?, ls[j]? with
 | some a, some b => touchB wo a b
 | _, _ => false
theorem mem_bsL {ls : List Lk} {wo : List Int} {i j : Nat} : j ∈ bsL ls wo i ↔ ∃ a b, ls[i]? = some a ∧ ls[j]? = some b ∧ touchB wo a b = true := by
 unfold bsL
 rw [List.mem_filter, List.mem_range]
 constructor
 ·
  rintro ⟨h1, h2⟩
  split at h2
  · rename_i a b ha hb; exact ⟨a, b, ha, hb, h2⟩
  · cases h2
 ·
  rintro ⟨a, b, ha, hb, h⟩
  exact ⟨(List.getElem?_eq_some_iff.1 hb).1, by rw [ha, hb]; exact h⟩
theorem bsL_symm (ls : List Lk) (wo : List Int) : ∀ a b, b ∈ bsL ls wo a → a ∈ bsL ls wo b := fun a b h => by
 rw [mem_bsL] at h ⊢
 obtain ⟨x, y, h1, h2, h3⟩ := h
 exact ⟨y, x, h2, h1, touchB_symm h3⟩
def LCon (ls : List Lk) (wo : List Int) (i j : Nat) : Prop := Con (bsL ls wo) (· < ls.length) i j
def pickL (ls : List Lk) (g : List Nat) : List Lk := g.filterMap fun i => ls[i]?
def groupsL (ls : List Lk) (wo : List Int) : List (List Lk) := if rightL ls then (gIdx (compC ls.length (bsL ls wo)) ls.length).map (pickL ls) else []
theorem groupsL_by {α : Type} [DecidableEq α] {ls : List Lk} {wo : List Int} (hr : rightL ls = true) {c : Nat → α} (h : ∀ i j, i < ls.length → j < ls.length → (c i = c j ↔ LCon ls wo i j)) :
  groupsL ls wo = (gIdx c ls.length).map (pickL ls) := by
 unfold groupsL
 rw [if_pos hr, gIdx_congr (c := compC ls.length (bsL ls wo)) (d := c)]
 intro i j hi hj
 rw [compC_eq (bsL_symm ls wo) hi hj, h i j hi hj]; rfl
inductive VCon (ls : List Lk) (wo : List Int) (x : Int) : Int → Prop
 | refl : VCon ls wo x x
 | step {y z : Int} {k : Lk} : VCon ls wo x y → k ∈ ls → k.1 ∉ wo → k.2.1 ∉ wo → ((y = k.1 ∧ z = k.2.1) ∨ (y = k.2.1 ∧ z = k.1)) → VCon ls wo x z
namespace VCon
variable {ls ls' : List Lk} {wo : List Int} {x y z : Int}
theorem mono (h : VCon ls wo x y) (hs : ∀ k ∈ ls, k ∈ ls') : VCon ls' wo x y := by
 induction h with
 | refl => exact .refl
 | step _ h1 h2 h3 h4 ih => exact ih.step (hs _ h1) h2 h3 h4
theorem trans (h : VCon ls wo x y) (k : VCon ls wo y z) : VCon ls wo x z := by
 induction k with
 | refl => exact h
 | step _ h1 h2 h3 h4 ih => exact ih.step h1 h2 h3 h4
theorem symm (h : VCon ls wo x y) : VCon ls wo y x := by
 induction h with
 | refl => exact .refl
 | step _ h1 h2 h3 h4 ih => exact (VCon.refl.step h1 h2 h3 (h4.elim (fun e => .inr ⟨e.2, e.1⟩) (fun e => .inl ⟨e.2, e.1⟩))).trans ih
theorem link {k : Lk} (hk : k ∈ ls) (h1 : k.1 ∉ wo) (h2 : k.2.1 ∉ wo) : VCon ls wo k.1 k.2.1 := VCon.refl.step hk h1 h2 (.inl ⟨rfl, rfl⟩)
end VCon
def RootOf (ls : List Lk) (wo : List Int) (root : Int → Int) : Prop := ∀ x y, root x = root y ↔ VCon ls wo x y
theorem RootOf.start (wo : List Int) : RootOf [] wo (fun x => x) := fun x y => by
 constructor
 · intro h; have : x = y := h; subst this; exact .refl
 ·
  intro h
  induction h with
  | refl => rfl
  | step _ h1 => simp at h1
end Go.Proofs.YtagcbnpahgfgmaaGreat
namespace Go.Proofs.YtagcbnpahgfgmaaGreat
open Go Go.RowKit
def CellsAt (w : World) (a : Option Addr) (vs : List Value) : Prop :=
 ∀ i u, vs[i]? = some u → ∃ b o, a = some ⟨b, o, none⟩ ∧ w.cell? ⟨b, o + i, none⟩ = some u
def RdI (w : World) (a : Option Addr) (xs : List Int) : Prop := CellsAt w a (xs.map (Value.int .i64))
def pairCells (es : List (Int × Int)) : List Value := es.flatMap fun e => [.int .i64 e.1, .int .i64 e.2]
def RdP (w : World) (a : Option Addr) (es : List (Int × Int)) : Prop := CellsAt w a (pairCells es)
theorem pairCells_get (es : List (Int × Int)) (i : Nat) (h : i < es.length) :
  (pairCells es)[i * 2]? = some (.int .i64 es[i].1) ∧ (pairCells es)[i * 2 + 1]? = some (.int .i64 es[i].2) := by
 induction es generalizing i with
 | nil => simp at h
 | cons e es ih =>
  cases i with
  | zero => simp [pairCells]
  | succ i =>
   have := ih i (by simpa using h); have e1 : (i + 1) * 2 = i * 2 + 1 + 1 := by omega
   simp only [pairCells, List.flatMap_cons, List.cons_append, List.nil_append, List.getElem_cons_succ] at this ⊢; rw [e1]; simpa using this
theorem RdP.at {w : World} {a : Option Addr} {es : List (Int × Int)} (h : RdP w a es) (i : Nat) (hi : i < es.length) :
  ∃ b o, a = some ⟨b, o, none⟩ ∧ w.cell? ⟨b, o + i * 2, none⟩ = some (.int .i64 es[i].1) ∧ w.cell? ⟨b, o + i * 2 + 1, none⟩ = some (.int .i64 es[i].2) := by
 obtain ⟨h1, h2⟩ := pairCells_get es i hi
 obtain ⟨b, o, ha, hc⟩ := h _ _ h1
 obtain ⟨b', o', ha', hc'⟩ := h _ _ h2
 rw [ha] at ha'
 simp only [Option.some.injEq, Addr.mk.injEq, and_true] at ha'
 obtain ⟨rfl, rfl⟩ := ha'
 exact ⟨b, o, ha, hc, by simpa [Nat.add_assoc] using hc'⟩
theorem RdI.at {w : World} {a : Option Addr} {xs : List Int} (h : RdI w a xs) (i : Nat) (hi : i < xs.length) :
  ∃ b o, a = some ⟨b, o, none⟩ ∧ w.cell? ⟨b, o + i, none⟩ = some (.int .i64 xs[i]) :=
 h i _ (by simp [hi])
theorem CellsAt.below {w w' : World} {a : Option Addr} {vs : List Value} (h : CellsAt w a vs) (hb : Below w.heap.size w w') : CellsAt w' a vs := by
 intro i u hu
 obtain ⟨b, o, ha, hc⟩ := h i u hu
 exact ⟨b, o, ha, (hb.cell (World.block_lt_of_cell? w _ hc)).trans hc⟩
theorem RdI.below {w w' : World} {a : Option Addr} {xs : List Int} (h : RdI w a xs) (hb : Below w.heap.size w w') : RdI w' a xs := CellsAt.below h hb
theorem RdP.below {w w' : World} {a : Option Addr} {xs : List (Int × Int)} (h : RdP w a xs) (hb : Below w.heap.size w w') : RdP w' a xs := CellsAt.below h hb
theorem keep_cell {w w' : World} {a : Addr} {v : Value} (hb : Below w.heap.size w w') (h : w.cell? a = some v) : w'.cell? a = some v :=
 (hb.cell (World.block_lt_of_cell? w _ h)).trans h
theorem bl_trans {w w1 w2 : World} (h : Below w.heap.size w w1) (k : Below w1.heap.size w1 w2) : Below w.heap.size w w2 := h.trans (k.mono h.size)
theorem bl_refl (w : World) : Below w.heap.size w w := Below.refl _ _
theorem bl_alloc (w : World) (o : Obj) : Below w.heap.size w (w.alloc o) := (Below.refl _ _).alloc (Nat.le_refl _) o
end Go.Proofs.YtagcbnpahgfgmaaGreat
namespace Go.Proofs.YtagcbnpahgfgmaaGreat
open Go Go.RowKit Go.Maps
theorem mapLawZ : Keyed Tryz.prog 3 := int_keyed Tryz.underlying3
theorem mapZeroZ (w : World) : (zeroValue 3).run Tryz.prog w = .ok (.int .i64 0) w := by kernel_rfl
def WfZ (v : Int) : Prop := (Lit.int .i64 v).wf = true
theorem wfZ_of {v : Int} (h : -9223372036854775808 ≤ v ∧ v ≤ 9223372036854775807) : WfZ v := WalkArith.wf_i64 h
theorem keyZ {v : Int} (h : WfZ v) : keyOf Tryz.prog 3 (.int .i64 v) = some (.int .i64 v) := keyOf_int_mk Tryz.underlying3 h
def updF (F : Int → Option Int) (k v : Int) : Int → Option Int := fun j => if j = k then some v else F j
theorem updF_same (F : Int → Option Int) (k v : Int) : updF F k v k = some v := by simp [updF]
theorem updF_ne (F : Int → Option Int) {k j : Int} (v : Int) (h : j ≠ k) : updF F k v j = F j := by simp [updF, h]
def MZs (D : DataW Unit) (F : Int → Option Int) (c : Nat) : Prop :=
 Tidy D ∧ Maps.size D = c ∧ (∀ v, Maps.has D (.int .i64 v) = (F v).isSome) ∧ ∀ v x, F v = some x → ∀ z, D.atKey (.int .i64 v) z = .lit (.int .i64 x)
def MZ (w : World) (B c : Nat) (F : Int → Option Int) : Prop :=
 ∃ D : DataW Unit, w.ownsMap Tryz.prog 3 (plainElem Tryz.prog 3) B c D ∧ MZs D F c
theorem MZs.none : MZs (.map []) (fun _ => none) 0 := ⟨tidy_empty, rfl, fun v => rfl, fun v x h => by cases h⟩
theorem MZs.put {D : DataW Unit} {F : Int → Option Int} {c : Nat} (h : MZs D F c) (k v : Int) : MZs (D.put (.int .i64 k) (.lit (.int .i64 v))) (updF F k v) (if (F k).isSome then c else c + 1) := by
 obtain ⟨h1, h2, h3, h4⟩ := h
 have hk : WideAt.IsKeyLit (.int .i64 k) := by simp [WideAt.IsKeyLit]
 refine ⟨h1.put hk _, ?_, fun j => ?_, fun j x hj z => ?_⟩
 · rw [size_put h1, h3 k, h2]
 ·
  by_cases e : j = k
  · subst e; rw [has_put_same h1.isMap hk, updF_same]; rfl
  · rw [has_put_other (by simp; omega), h3 j, updF_ne _ _ e]
 ·
  by_cases e : j = k
  · subst e; rw [updF_same] at hj; cases hj; rw [atKey_put_same h1.isMap hk]
  ·
   rw [updF_ne _ _ e] at hj; rw [atKey_put_other (by simp; omega)]; exact h4 j x hj z
theorem ownsMap_exact {w : World} {B n : Nat} {D : DataW Unit} (h : w.ownsMap Tryz.prog 3 (plainElem Tryz.prog 3) B n D) : w.ownsMap Tryz.prog 3 (plainElem Tryz.prog 3) B (Maps.size D) D := by
 obtain ⟨es, clock, hb, F, hs, rfl⟩ := h
 exact ⟨es, clock, hb, F, by rw [size_eq, length_read]; exact Nat.le_refl _, rfl⟩
theorem MZ.lt {w : World} {B c : Nat} {F : Int → Option Int} (h : MZ w B c F) : B < w.heap.size := by obtain ⟨D, h1, _⟩ := h; exact h1.lt
theorem MZ.made (w : World) : MZ (w.alloc (.map #[] 0)) w.heap.size 0 (fun _ => none) := ⟨_, World.ownsMap_made _ _ _ _, MZs.none⟩
theorem MZ.block {w w' : World} {B c : Nat} {F : Int → Option Int} (h : MZ w B c F) (e : w'.heap[B]? = w.heap[B]?) : MZ w' B c F := by
 obtain ⟨D, ⟨es, clock, hb, r⟩, h2⟩ := h
 exact ⟨D, ⟨es, clock, e.trans hb, r⟩, h2⟩
theorem MZ.below {w w' : World} {B c : Nat} {F : Int → Option Int} (h : MZ w B c F) (hb : Below w.heap.size w w') : MZ w' B c F := h.block (hb.block B h.lt)
theorem MZ.grown {w w' : World} {B c : Nat} {F : Int → Option Int} {k : Option Nat} (h : MZ w B c F) (hg : w.grownBy w' k) (hne : k ≠ some B) : MZ w' B c F := h.block (hg.block B h.lt (fun e => hne e.symm))
theorem MZ.alloc {w : World} {B c : Nat} {F : Int → Option Int} (h : MZ w B c F) (o : Obj) : MZ (w.alloc o) B c F := h.block (Below.heap_alloc w o B h.lt)
theorem MZ.other {w : World} {B c : Nat} {F : Int → Option Int} (h : MZ w B c F) {a : Addr} (hne : B ≠ a.block) (u : Value) : MZ (w.setCell a u) B c F :=
 h.block (RowKit.Below.heap_setCell _ _ _ _ hne)
theorem MZ.look {w : World} {B c : Nat} {F : Int → Option Int} (h : MZ w B c F) {v : Int} (hv : WfZ v) :
  (Instr.lookup 35 (.map (some B)) (.int .i64 v) false).run Tryz.prog w = .ok (.int .i64 ((F v).getD 0)) w := by
 obtain ⟨D, hown, _, _, h3, h4⟩ := h
 obtain ⟨c, hrun, hat, _⟩ := hown.lookup_int mapLawZ Tryz.underlying35 Tryz.underlying3 (mapZeroZ w) (keyZ hv)
 rw [hrun]
 cases hF : F v with
 | none =>
  have hh := h3 v; rw [hF] at hh
  rw [atKey_of_not_has hh] at hat
  simp at hat; rw [← hat]; rfl
 | some x =>
  rw [h4 v x hF] at hat
  simp at hat; rw [← hat]; rfl
theorem MZ.lookOk {w : World} {B c : Nat} {F : Int → Option Int} (h : MZ w B c F) {v : Int} (hv : WfZ v) :
  (Instr.lookup 35 (.map (some B)) (.int .i64 v) true).run Tryz.prog w = .ok (.tuple #[.int .i64 ((F v).getD 0), .bool (F v).isSome]) w := by
 obtain ⟨D, hown, _, _, h3, h4⟩ := h
 obtain ⟨u, ps, hrun, hu⟩ := hown.look_ok mapLawZ Tryz.underlying35 (mapZeroZ w) (plainElem_int Tryz.underlying3 (by decide)) (keyZ hv)
 obtain ⟨c, rfl, hc, _⟩ := plainElem_int_inv Tryz.underlying3 hu
 simp only [Prod.mk.injEq] at hc
 rw [hrun, h3 v]
 have hat := hc.1
 cases hF : F v with
 | none =>
  have hh := h3 v; rw [hF] at hh
  rw [atKey_of_not_has hh] at hat
  simp at hat; rw [← hat]; rfl
 | some x =>
  rw [h4 v x hF] at hat
  simp at hat; rw [← hat]; rfl
theorem MZ.store {w : World} {B c : Nat} {F : Int → Option Int} (h : MZ w B c F) {k v : Int} (hk : WfZ k) (hv : WfZ v) (hc : c ≤ 100000000) :
  ∃ w', (Instr.mapUpdate 35 (.map (some B)) (.int .i64 k) (.int .i64 v)).run Tryz.prog w = .ok () w' ∧ MZ w' B (if (F k).isSome then c else c + 1) (updF F k v) ∧ w.grownBy w' (some B) := by
 obtain ⟨D, hown, h2⟩ := h
 obtain ⟨w', hrun, r1, r2⟩ := hown.update mapLawZ Tryz.underlying35 (by unfold maxLen; omega) (keyZ hk) (plainElem_int Tryz.underlying3 hv)
 have h3 := h2.put k v
 have h4 := ownsMap_exact r1
 rw [h3.2.1] at h4
 exact ⟨w', hrun, ⟨_, h4, h3⟩, r2⟩
theorem wpList_put_MZ {w : World} {ops : Array Oper} {rest : List Oper} {o : Oper} {a : Act} {Q : Exit → Act → World → Prop} (hg : o.guard = none) (m x y : Operand) (hop : o.op = Op.mapUpdate 35 m x y) {B c : Nat} {F : Int → Option Int} (h : MZ w B c F) {k v : Int}
  (hm : a.eval m = .map (some B)) (hx : a.eval x = .int .i64 k) (hy : a.eval y = .int .i64 v) (hk : WfZ k) (hv : WfZ v) (hc : c ≤ 100000000)
  (hK : ∀ w', MZ w' B (if (F k).isSome then c else c + 1) (updF F k v) → w.grownBy w' (some B) → wpList Tryz.prog ops Q rest (a.put o.dst undef) w') : wpList Tryz.prog ops Q (o :: rest) a w := by
 refine wpList_plain hg fun K' hK' => ?_
 obtain ⟨w', hrun, r1, r2⟩ := h.store hk hv hc
 unfold Oper.wp
 simp [execOp, hop, hm, hx, hy, hrun, Result.andThen]
 exact hK' _ _ (hK w' r1 r2)
theorem step_put_MZ {w : World} {ops : Array Oper} {o : Oper} {a : Act} {K : Act → World → Prop} {Q : Exit → Act → World → Prop} {E : Prop} (hg : o.guard = none) (m x y : Operand) (hop : o.op = Op.mapUpdate 35 m x y) {B c : Nat} {F : Int → Option Int} (h : MZ w B c F) {k v : Int}
  (hm : a.eval m = .map (some B)) (hx : a.eval x = .int .i64 k) (hy : a.eval y = .int .i64 v) (hk : WfZ k) (hv : WfZ v) (hc : c ≤ 100000000)
  (hK : ∀ w', MZ w' B (if (F k).isSome then c else c + 1) (updF F k v) → w.grownBy w' (some B) → K (a.put o.dst undef) w') :
  if Region.wanted o (yielded ops a.tmps) = true then Oper.wp Tryz.prog o a w K Q else E := by
 rw [if_pos (by simp [Region.wanted, hg])]
 obtain ⟨w', hrun, r1, r2⟩ := h.store hk hv hc
 unfold Oper.wp
 simp [execOp, hop, hm, hx, hy, hrun, Result.andThen]
 exact hK w' r1 r2
theorem run_makeMapZ (n : Int) (w : World) : (Instr.makeMap 35 (some (.int .i64 n))).run Tryz.prog w = .ok (.map (some w.heap.size)) (w.alloc (.map #[] 0)) := by
 simp [Instr.makeMap, run_underlying Tryz.underlying35, asInt, asIntOf, Result.andThen]
def goneF (l : List Int) : Int → Option Int := fun v => if v ∈ l then some 1 else none
theorem goneF_nil : goneF [] = fun _ => none := by funext v; simp [goneF]
theorem goneF_snoc (l : List Int) (x : Int) : updF (goneF l) x 1 = goneF (l ++ [x]) := by
 funext v
 unfold updF goneF
 by_cases e : v = x
 · simp [e]
 · simp [e]
theorem MZ.goneYes {w : World} {B c : Nat} {l : List Int} (h : MZ w B c (goneF l)) {v : Int} (hv : WfZ v) (hm : v ∈ l) :
  (Instr.lookup 35 (.map (some B)) (.int .i64 v) false).run Tryz.prog w = .ok (.int .i64 1) w := by
 have := h.look hv; unfold goneF at this; rw [if_pos hm] at this; exact this
theorem MZ.goneNo {w : World} {B c : Nat} {l : List Int} (h : MZ w B c (goneF l)) {v : Int} (hv : WfZ v) (hm : v ∉ l) :
  (Instr.lookup 35 (.map (some B)) (.int .i64 v) false).run Tryz.prog w = .ok (.int .i64 0) w := by
 have := h.look hv; unfold goneF at this; rw [if_neg hm] at this; exact this
end Go.Proofs.YtagcbnpahgfgmaaGreat
