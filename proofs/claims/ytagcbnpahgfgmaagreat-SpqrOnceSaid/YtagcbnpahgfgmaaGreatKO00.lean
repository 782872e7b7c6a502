/- Facts that the claim rests on, part 1. -/
import Derived.Tactics
import Derived.Lib.SlicesCompact
import Derived.Tactics2
import Derived.WalkKit
import Derived.WalkSpells
import Derived.WalkLawsBesides
import Derived.KernelRfl
import Derived.Lib.Hide
import Derived.Test.YtagcbnpahgfgmaaGreatChecked
import Derived.Maps.Own
import Derived.Maps.OwnOps
import Derived.Maps.OwnSet
import Derived.Deep.OwnRows
import Derived.WalkSmall
import Derived.Laws.CopyOwn
import Derived.Deep.LoopGhost
import Derived.BigQuiet
import Derived.Deep.QuietTactic
import Derived.Deep.RegionHeld3
import Derived.Deep.DeepCutAuto
import Derived.Sort.Grow
import Derived.Shelf.Small.Bits
import Derived.Shelf.Small.Wraps
import Derived.Shelf.Strconv.Itoa0
import Derived.Shelf.Sort.Plain
import Derived.Ground.Names2Prog
import Derived.Shelf.Slices.Clone
import Derived.Shelf.Slices.CompactI
import Derived.Shelf.Slices.SearchI
import Derived.Shelf.Slices.Cells
import Derived.Shelf.Slices.In.SortNone
import Derived.Shelf.Slices.Empties
import Derived.Ground.SlgnProg
import Derived.Shelf.SlicesE.Index
import Derived.Shelf.SlicesE.Compact
import Derived.Shelf.SlicesE.Clone
import Derived.Shelf.SlSortCmp.NoneTotal
import Derived.Ground.SlsfProg
import Derived.Test.YtagcbnpahgfgmaaGreatProg
import Derived.Sort.OwnSortedInts
import Derived.BigRegion
import Derived.Laws.StructEq
import Derived.Maps.RangeWalk
import Derived.OrdersHeld
import Derived.RegionTactic
import Derived.Deep.Cut
import Derived.WalkMore
import Derived.ScopeJumps
import Derived.ArgAppend
import Derived.Lib.SliceRun
import Derived.Deep.RegionLaw
import Derived.DeepKeys4
import Derived.WideKeyEntry
import Derived.OwnWalk
import Derived.Lib.AppendZeros
import Derived.Laws.AppendOwnNone
import Derived.Test.YtagcbnpahgfgmaaGreatRows
import Derived.ProofKit
import Derived.OpenShut
import Derived.ShutString
import Derived.Lib.SmallJoins
import Derived.Deep.Slices
import Derived.Deep.Fields
namespace Go.Proofs.YtagcbnpahgfgmaaGreat
namespace Uq
open Classical
structure Gr (α : Type) where
 VS : List Int
 I : α → Int → Prop
variable {α : Type}
def bd (G : Gr α) (X : α → Prop) (v : Int) : Prop := (∃ k, X k ∧ G.I k v) ∧ ∃ k, ¬ X k ∧ G.I k v
noncomputable def lam (G : Gr α) (X : α → Prop) : Nat := (G.VS.filter fun v => decide (bd G X v)).length
structure Ok (G : Gr α) : Prop where
 nd : G.VS.Nodup
 ends : ∀ k v, G.I k v → v ∈ G.VS
 conn : ∀ X : α → Prop, (∃ k, X k) → (∃ k, ¬ X k) → 2 ≤ lam G X
def Two (G : Gr α) (X : α → Prop) : Prop := ∃ a b, a ≠ b ∧ ∀ v, bd G X v ↔ v = a ∨ v = b
abbrev neg (X : α → Prop) : α → Prop := fun k => ¬ X k
abbrev cap (X Y : α → Prop) : α → Prop := fun k => X k ∧ Y k
abbrev cup (X Y : α → Prop) : α → Prop := fun k => X k ∨ Y k
theorem neg_neg (X : α → Prop) : neg (neg X) = X := funext fun _ => propext ⟨fun h => Classical.byContradiction h, fun h n => n h⟩
theorem bd_neg (G : Gr α) (X : α → Prop) (v : Int) : bd G (neg X) v ↔ bd G X v := by
 unfold bd
 constructor
 ·
  rintro ⟨⟨k, h1, h2⟩, m, h3, h4⟩
  exact ⟨⟨m, Classical.byContradiction h3, h4⟩, k, h1, h2⟩
 ·
  rintro ⟨⟨k, h1, h2⟩, m, h3, h4⟩
  exact ⟨⟨m, h3, h4⟩, k, fun n => n h1, h2⟩
theorem Two.neg {G : Gr α} {X : α → Prop} (h : Two G X) : Two G (neg X) := by
 obtain ⟨a, b, h1, h2⟩ := h
 exact ⟨a, b, h1, fun v => (bd_neg G X v).trans (h2 v)⟩
theorem filter_add {l : List Int} {p q r s : Int → Prop} (h1 : ∀ v, p v → r v ∨ s v) (h2 : ∀ v, q v → r v ∨ s v) (h3 : ∀ v, p v → q v → r v ∧ s v) :
  (l.filter fun v => decide (p v)).length + (l.filter fun v => decide (q v)).length ≤ (l.filter fun v => decide (r v)).length + (l.filter fun v => decide (s v)).length := by
 induction l with
 | nil => simp
 | cons a l ih =>
  simp only [List.filter_cons, decide_eq_true_eq]
  have a1 := h1 a; have a2 := h2 a; have a3 := h3 a
  by_cases hp : p a <;> by_cases hq : q a <;> by_cases hr : r a <;> by_cases hs : s a <;> simp_all <;> omega
theorem submod (G : Gr α) (X Y : α → Prop) : lam G (cap X Y) + lam G (cup X Y) ≤ lam G X + lam G Y := by
 unfold lam
 refine filter_add ?_ ?_ ?_
 ·
  rintro v ⟨⟨k, ⟨h1, h2⟩, h3⟩, m, h4, h5⟩
  by_cases hx : X m
  · exact .inr ⟨⟨k, h2, h3⟩, m, fun hy => h4 ⟨hx, hy⟩, h5⟩
  · exact .inl ⟨⟨k, h1, h3⟩, m, hx, h5⟩
 ·
  rintro v ⟨⟨k, h1, h3⟩, m, h4, h5⟩
  rcases h1 with h1 | h1
  · exact .inl ⟨⟨k, h1, h3⟩, m, fun h => h4 (.inl h), h5⟩
  · exact .inr ⟨⟨k, h1, h3⟩, m, fun h => h4 (.inr h), h5⟩
 ·
  rintro v ⟨⟨k, ⟨h1, h2⟩, h3⟩, _⟩ ⟨_, m, h4, h5⟩
  exact ⟨⟨⟨k, h1, h3⟩, m, fun h => h4 (.inl h), h5⟩, ⟨k, h2, h3⟩, m, fun h => h4 (.inr h), h5⟩
theorem Ok.bdV {G : Gr α} (h : Ok G) {X : α → Prop} {v : Int} (hb : bd G X v) : v ∈ G.VS := by
 obtain ⟨⟨k, _, h2⟩, _⟩ := hb
 exact h.ends k v h2
theorem Ok.two {G : Gr α} (h : Ok G) {X : α → Prop} : Two G X ↔ lam G X = 2 := by
 have hn : (G.VS.filter fun v => decide (bd G X v)).Nodup := h.nd.filter _
 have hm : ∀ v, v ∈ (G.VS.filter fun v => decide (bd G X v)) ↔ bd G X v := fun v => by
  rw [List.mem_filter, decide_eq_true_eq]
  exact ⟨fun h => h.2, fun hb => ⟨h.bdV hb, hb⟩⟩
 unfold lam
 generalize (G.VS.filter fun v => decide (bd G X v)) = l at hn hm
 constructor
 ·
  rintro ⟨a, b, hab, hv⟩
  have hp : l.Perm [a, b] := (List.perm_ext_iff_of_nodup hn (by simpa using hab)).2 fun v => by rw [hm, hv]; simp
  rw [hp.length_eq]; rfl
 ·
  intro hl
  match l, hl with
  | [a, b], _ =>
   refine ⟨a, b, by simpa using hn, fun v => ?_⟩; rw [← hm]; simp
theorem Ok.ge {G : Gr α} (h : Ok G) {X : α → Prop} (h1 : ∃ k, X k) (h2 : ∃ k, ¬ X k) (a : Int) : ∃ v, v ≠ a ∧ bd G X v := by
 refine Classical.byContradiction fun hno => ?_
 have h3 := h.conn X h1 h2
 have hm : ∀ v ∈ (G.VS.filter fun v => decide (bd G X v)), v = a := fun v hv => by
  rw [List.mem_filter, decide_eq_true_eq] at hv
  exact Classical.byContradiction fun hne => hno ⟨v, hne, hv.2⟩
 have hn : (G.VS.filter fun v => decide (bd G X v)).Nodup := h.nd.filter _
 unfold lam at h3
 generalize (G.VS.filter fun v => decide (bd G X v)) = l at h3 hm hn
 match l, h3, hm, hn with
 | x :: y :: r, _, hm, hn =>
  have := hm x (by simp); have := hm y (by simp)
  subst_vars
  simp at hn
theorem corner {G : Gr α} (h : Ok G) {X Y : α → Prop} (hX : Two G X) (hY : Two G Y) (h1 : ∃ k, X k ∧ Y k) (h2 : ∃ k, ¬ X k ∧ ¬ Y k) : Two G (cap X Y) ∧ Two G (cup X Y) := by
 rw [h.two] at *
 have hs := submod G X Y
 obtain ⟨k, k1, k2⟩ := h1
 obtain ⟨m, m1, m2⟩ := h2
 have c1 := h.conn (cap X Y) ⟨k, k1, k2⟩ ⟨m, fun h => m1 h.1⟩
 have c2 := h.conn (cup X Y) ⟨k, .inl k1⟩ ⟨m, fun h => h.elim m1 m2⟩
 rw [h.two]
 omega
structure IsPart (G : Gr α) (P : List (α → Prop)) : Prop where
 ne : ∀ X ∈ P, ∃ k, X k
 cover : ∀ k, ∃ X ∈ P, X k
 disj : ∀ X ∈ P, ∀ Y ∈ P, ∀ k, X k → Y k → X = Y
 nd : P.Nodup
 three : 3 ≤ P.length
 two : ∀ X ∈ P, Two G X
theorem sub_le {β : Type} : ∀ {l m : List β}, l.Nodup → (∀ x ∈ l, x ∈ m) → l.length ≤ m.length
 | [], _, _, _ => Nat.zero_le _
 | a :: l, m, hn, h => by
  obtain ⟨m1, m2, rfl⟩ := List.append_of_mem (h a (by simp))
  have hn' := List.nodup_cons.1 hn
  have := sub_le (m := m1 ++ m2) hn'.2 fun x hx => by
   have := h x (by simp [hx])
   simp only [List.mem_append, List.mem_cons] at this ⊢
   rcases this with h1 | rfl | h1
   · exact .inl h1
   · exact absurd hx hn'.1
   · exact .inr h1
  simp at this ⊢
  omega
theorem third {β : Type} {l : List β} (hn : l.Nodup) (h3 : 3 ≤ l.length) (x y : β) : ∃ z ∈ l, z ≠ x ∧ z ≠ y := by
 refine Classical.byContradiction fun hno => ?_
 have hm : ∀ z ∈ l, z = x ∨ z = y := fun z hz => by
  by_cases h1 : z = x
  · exact .inl h1
  · exact .inr (Classical.byContradiction fun h2 => hno ⟨z, hz, h1, h2⟩)
 match l, h3, hm, hn with
 | a :: b :: c :: r, _, hm, hn =>
  have h1 := hm a (by simp); have h2 := hm b (by simp); have h3 := hm c (by simp)
  simp only [List.nodup_cons, List.mem_cons, not_or] at hn
  obtain ⟨⟨n1, n2, _⟩, ⟨n3, _⟩, _⟩ := hn
  rcases h1 with rfl | rfl <;> rcases h2 with rfl | rfl <;> rcases h3 with rfl | rfl <;> simp_all
namespace IsPart
variable {G : Gr α} {P : List (α → Prop)} (h : IsPart G P)
include h
theorem sub_eq {X Y : α → Prop} (hX : X ∈ P) (hY : Y ∈ P) (hs : ∀ k, X k → Y k) : X = Y := by
 obtain ⟨k, hk⟩ := h.ne X hX
 exact h.disj X hX Y hY k hk (hs k hk)
theorem out {X : α → Prop} (hX : X ∈ P) : ∃ k, ¬ X k := by
 obtain ⟨Z, hZ, h1, _⟩ := third h.nd h.three X X
 obtain ⟨k, hk⟩ := h.ne Z hZ
 exact ⟨k, fun hx => h1 (h.disj Z hZ X hX k hk hx)⟩
theorem more {X Y : α → Prop} (hX : X ∈ P) (hY : Y ∈ P) : ∃ k, ¬ X k ∧ ¬ Y k := by
 obtain ⟨Z, hZ, h1, h2⟩ := third h.nd h.three X Y
 obtain ⟨k, hk⟩ := h.ne Z hZ
 exact ⟨k, fun hx => h1 (h.disj Z hZ X hX k hk hx), fun hy => h2 (h.disj Z hZ Y hY k hk hy)⟩
theorem not_neg {X Y : α → Prop} (hX : X ∈ P) (hY : Y ∈ P) (hs : ∀ k, ¬ X k → Y k) : False := by
 obtain ⟨k, h1, h2⟩ := h.more hX hY
 exact h2 (hs k h1)
theorem bd_of {X Y : α → Prop} (hX : X ∈ P) (hY : Y ∈ P) (hne : X ≠ Y) {k m : α} {v : Int} (hk : X k) (hm : Y m) (h1 : G.I k v) (h2 : G.I m v) : bd G X v :=
 ⟨⟨k, hk, h1⟩, m, fun hx => hne (h.disj X hX Y hY m hx hm), h2⟩
end IsPart
def Bond (G : Gr α) (P : List (α → Prop)) : Prop := ∃ a b, ∀ X ∈ P, ∀ v, bd G X v ↔ v = a ∨ v = b
def Cyc (G : Gr α) (P : List (α → Prop)) : Prop := ∀ v, ∀ X ∈ P, ∀ Y ∈ P, ∀ Z ∈ P, bd G X v → bd G Y v → bd G Z v → X = Y ∨ Y = Z ∨ X = Z
def Sat (P : List (α → Prop)) (C : α → Prop) : Prop := ∀ X ∈ P, (∀ k, X k → C k) ∨ ∀ k, X k → ¬ C k
def Rig (G : Gr α) (P : List (α → Prop)) : Prop := 4 ≤ P.length ∧ ∀ C, Sat P C → (∃ k, C k) → (∃ k, ¬ C k) → Two G C → C ∈ P ∨ neg C ∈ P
def Cross (C X : α → Prop) : Prop := (∃ k, C k ∧ X k) ∧ (∃ k, C k ∧ ¬ X k) ∧ (∃ k, ¬ C k ∧ X k) ∧ ∃ k, ¬ C k ∧ ¬ X k
theorem Cross.symm {C X : α → Prop} (h : Cross C X) : Cross X C := by
 obtain ⟨⟨a, a1, a2⟩, ⟨b, b1, b2⟩, ⟨c, c1, c2⟩, d, d1, d2⟩ := h
 exact ⟨⟨a, a2, a1⟩, ⟨c, c2, c1⟩, ⟨b, b2, b1⟩, d, d2, d1⟩
theorem Cross.negL {C X : α → Prop} (h : Cross C X) : Cross (neg C) X := by
 obtain ⟨⟨a, a1, a2⟩, ⟨b, b1, b2⟩, ⟨c, c1, c2⟩, d, d1, d2⟩ := h
 exact ⟨⟨c, c1, c2⟩, ⟨d, d1, d2⟩, ⟨a, fun n => n a1, a2⟩, b, fun n => n b1, b2⟩
theorem Cross.negR {C X : α → Prop} (h : Cross C X) : Cross C (neg X) := h.symm.negL.symm
section
variable {G : Gr α} (hG : Ok G) {P : List (α → Prop)} (hP : IsPart G P) {X : α → Prop} (hX : X ∈ P) {C : α → Prop} (hC : Two G C) (hcr : Cross C X)
include hG hP hX hC hcr
theorem half_two : Two G (fun k => C k ∧ ¬ X k) ∧ Two G (fun k => ¬ C k ∧ ¬ X k) := by
 have hN := (hP.two X hX).neg
 obtain ⟨⟨a, a1, a2⟩, ⟨b, b1, b2⟩, ⟨c, c1, c2⟩, d, d1, d2⟩ := hcr
 exact ⟨(corner hG hC hN ⟨b, b1, b2⟩ ⟨c, c1, fun n => n c2⟩).1, (corner hG hC.neg hN ⟨d, d1, d2⟩ ⟨a, fun n => n a1, fun n => n a2⟩).1⟩
theorem uncross : ∀ L : List (α → Prop), (∀ Y ∈ L, Y ∈ P ∧ Y ≠ X) → ∃ D : α → Prop, (∀ k, D k → ¬ X k) ∧ (∃ k, D k) ∧ (∃ k, ¬ D k ∧ ¬ X k) ∧ Two G D ∧ Two G (fun k => ¬ D k ∧ ¬ X k) ∧ ∀ Y ∈ L, (∀ k, Y k → D k) ∨ ∀ k, Y k → ¬ D k := by
 intro L
 induction L with
 | nil =>
  intro _
  obtain ⟨t1, t2⟩ := half_two hG hP hX hC hcr
  obtain ⟨_, ⟨b, b1, b2⟩, _, d, d1, d2⟩ := hcr
  have e : (fun k => ¬ (C k ∧ ¬ X k) ∧ ¬ X k) = fun k => ¬ C k ∧ ¬ X k := funext fun k => propext ⟨fun ⟨p, q⟩ => ⟨fun c => p ⟨c, q⟩, q⟩, fun ⟨p, q⟩ => ⟨fun c => p c.1, q⟩⟩
  exact ⟨fun k => C k ∧ ¬ X k, fun k h => h.2, ⟨b, b1, b2⟩, ⟨d, fun h => d1 h.1, d2⟩, t1, by rw [e]; exact t2, fun Y hY => by simp at hY⟩
 | cons Y L ih =>
  intro hL
  obtain ⟨hYP, hYX⟩ := hL Y (by simp)
  obtain ⟨D, d1, ⟨p, d2⟩, ⟨q, d3, d3'⟩, d4, d5, d6⟩ := ih fun Z hZ => hL Z (by simp [hZ])
  have hYo : ∀ k, Y k → ¬ X k := fun k hy hx => hYX (hP.disj Y hYP X hX k hy hx)
  by_cases hin : ∀ k, Y k → D k
  · exact ⟨D, d1, ⟨p, d2⟩, ⟨q, d3, d3'⟩, d4, d5, fun Z hZ => (List.mem_cons.1 hZ).elim (fun e => by subst e; exact .inl hin) (d6 Z)⟩
  by_cases hout : ∀ k, Y k → ¬ D k
  · exact ⟨D, d1, ⟨p, d2⟩, ⟨q, d3, d3'⟩, d4, d5, fun Z hZ => (List.mem_cons.1 hZ).elim (fun e => by subst e; exact .inr hout) (d6 Z)⟩
  have hin' : ∃ y, Y y ∧ ¬ D y := Classical.byContradiction fun hno => hin fun k hk => Classical.byContradiction fun hd => hno ⟨k, hk, hd⟩
  have hout' : ∃ z, Y z ∧ D z := Classical.byContradiction fun hno => hout fun k hk hd => hno ⟨k, hk, hd⟩
  obtain ⟨y, y1, y2⟩ := hin'
  obtain ⟨z, z1, z2⟩ := hout'
  obtain ⟨x, x1⟩ := hP.ne X hX
  have hother : ∀ Z ∈ L, (∀ k, Z k → Y k) ∨ (∀ k, Z k → ¬ Y k) := fun Z hZ => by
   by_cases e : Z = Y
   · subst e; exact .inl fun k h => h
   · exact .inr fun k h1 h2 => e (hP.disj Z (hL Z (by simp [hZ])).1 Y hYP k h1 h2)
  have tY := hP.two Y hYP
  by_cases hr : ∃ r, ¬ D r ∧ ¬ Y r ∧ ¬ X r
  ·
   obtain ⟨r, r1, r2, r3⟩ := hr; obtain ⟨_, t1⟩ := corner hG d4 tY ⟨z, z2, z1⟩ ⟨r, r1, r2⟩; obtain ⟨t2, _⟩ := corner hG d5 tY.neg ⟨r, ⟨r1, r3⟩, r2⟩ ⟨z, fun h => h.1 z2, fun h => h z1⟩; refine ⟨cup D Y, fun k h => h.elim (d1 k) (hYo k), ⟨p, .inl d2⟩, ⟨r, fun h => h.elim r1 r2, r3⟩, t1, ?_, fun Z hZ => ?_⟩
   ·
    have e : (fun k => ¬ (D k ∨ Y k) ∧ ¬ X k) = cap (fun k => ¬ D k ∧ ¬ X k) (neg Y) := funext fun k => propext ⟨fun ⟨a, b⟩ => ⟨⟨fun c => a (.inl c), b⟩, fun c => a (.inr c)⟩, fun ⟨⟨a, b⟩, c⟩ => ⟨fun d => d.elim a c, b⟩⟩; show Two G (fun k => ¬ (D k ∨ Y k) ∧ ¬ X k); rw [e]; exact t2
   ·
    rcases List.mem_cons.1 hZ with rfl | hZ
    · exact .inl fun k h => .inr h
    ·
     rcases hother Z hZ with h1 | h1
     · exact .inl fun k h => .inr (h1 k h)
     ·
      rcases d6 Z hZ with h2 | h2
      · exact .inl fun k h => .inl (h2 k h)
      · exact .inr fun k h n => n.elim (h2 k h) (h1 k h)
  ·
   have hr' : ∀ k, ¬ D k → ¬ X k → Y k := fun k k1 k2 => Classical.byContradiction fun hy => hr ⟨k, k1, hy, k2⟩; have hq : ∃ k, D k ∧ ¬ Y k := by
    obtain ⟨k, k1, k2⟩ := hP.more hX hYP; exact ⟨k, Classical.byContradiction fun hd => k2 (hr' k hd k1), k2⟩
   obtain ⟨s, s1, s2⟩ := hq; obtain ⟨t1, _⟩ := corner hG d4 tY.neg ⟨s, s1, s2⟩ ⟨y, y2, fun n => n y1⟩; refine ⟨cap D (neg Y), fun k h => d1 k h.1, ⟨s, s1, s2⟩, ⟨y, fun h => y2 h.1, hYo y y1⟩, t1, ?_, fun Z hZ => ?_⟩
   ·
    have e : (fun k => ¬ (D k ∧ ¬ Y k) ∧ ¬ X k) = Y := funext fun k => propext ⟨fun ⟨a, b⟩ => Classical.byContradiction fun hy => hy (hr' k (fun hd => a ⟨hd, hy⟩) b), fun hy => ⟨fun h => h.2 hy, hYo k hy⟩⟩; show Two G (fun k => ¬ (D k ∧ ¬ Y k) ∧ ¬ X k); rw [e]; exact tY
   ·
    rcases List.mem_cons.1 hZ with rfl | hZ
    · exact .inr fun k h n => n.2 h
    ·
     rcases hother Z hZ with h1 | h1
     · exact .inr fun k h n => n.2 (h1 k h)
     ·
      rcases d6 Z hZ with h2 | h2
      · exact .inl fun k h => ⟨h2 k h, h1 k h⟩
      · exact .inr fun k h n => h2 k h n.1
theorem cross_rig (hr : Rig G P) : False := by
 obtain ⟨D, d1, ⟨p, d2⟩, ⟨q, d3, d3'⟩, d4, d5, d6⟩ := uncross hG hP hX hC hcr (P.filter fun Y => decide (Y ≠ X)) fun Y hY => by
  rw [List.mem_filter, decide_eq_true_eq] at hY; exact hY
 obtain ⟨x, x1⟩ := hP.ne X hX
 have d6' : ∀ Y ∈ P, Y ≠ X → (∀ k, Y k → D k) ∨ ∀ k, Y k → ¬ D k := fun Y hY hne => d6 Y (by rw [List.mem_filter, decide_eq_true_eq]; exact ⟨hY, hne⟩)
 have hin : ∀ F : α → Prop, (∀ k, F k → ¬ X k) → (∃ k, F k) → (∃ k, ¬ F k ∧ ¬ X k) → Sat P F → Two G F → F ∈ P := fun F f1 f2 ⟨k, f3, f4⟩ f5 f6 => by
  rcases hr.2 F f5 f2 ⟨x, fun h => f1 x h x1⟩ f6 with h | h
  · exact h
  ·
   have := hP.sub_eq hX h fun k hk hf => f1 k hf hk; exact absurd (this ▸ f3 : X k) f4
 have s1 : Sat P D := fun Y hY => by
  by_cases e : Y = X
  · subst e; exact .inr fun k hk hd => d1 k hd hk
  · exact d6' Y hY e
 have s2 : Sat P (fun k => ¬ D k ∧ ¬ X k) := fun Y hY => by
  by_cases e : Y = X
  · subst e; exact .inr fun k hk hd => hd.2 hk
  ·
   rcases d6' Y hY e with h | h
   · exact .inr fun k hk hd => hd.1 (h k hk)
   · exact .inl fun k hk => ⟨h k hk, fun hx => e (hP.disj Y hY X hX k hk hx)⟩
 have m1 := hin D d1 ⟨p, d2⟩ ⟨q, d3, d3'⟩ s1 d4
 have m2 := hin (fun k => ¬ D k ∧ ¬ X k) (fun k h => h.2) ⟨q, d3, d3'⟩ ⟨p, fun h => h.1 d2, d1 p d2⟩ s2 d5
 have hle : P.length ≤ [X, D, fun k => ¬ D k ∧ ¬ X k].length := by
  refine sub_le hP.nd fun Y hY => ?_
  obtain ⟨k, hk⟩ := hP.ne Y hY
  simp only [List.mem_cons, List.not_mem_nil, or_false]
  by_cases hx : X k
  · exact .inl (hP.disj Y hY X hX k hk hx)
  ·
   by_cases hd : D k
   · exact .inr (.inl (hP.disj Y hY D m1 k hk hd))
   · exact .inr (.inr (hP.disj Y hY _ m2 k hk ⟨hd, hx⟩))
 have := hr.1
 simp at hle
 omega
theorem cross_bond (hb : Bond G P) : ∀ v, bd G (fun k => C k ∧ ¬ X k) v → bd G X v := by
 obtain ⟨t1, t2⟩ := half_two hG hP hX hC hcr
 obtain ⟨a, b, hab⟩ := hb
 have hbX := hab X hX
 obtain ⟨⟨c0, c1, c2⟩, ⟨p, p1, p2⟩, ⟨c3, c4, c5⟩, q, q1, q2⟩ := hcr
 intro w hw
 refine Classical.byContradiction fun hno => ?_
 rw [hbX] at hno
 have hw0 := hw
 obtain ⟨⟨k, ⟨k1, k2⟩, k3⟩, m, m1, m2⟩ := hw
 have mS : ¬ X m := fun hm => hno ((hbX w).1 ⟨⟨m, hm, m2⟩, k, k2, k3⟩)
 have mC : ¬ C m := fun hm => m1 ⟨hm, mS⟩
 have hw1 : bd G (fun k => ¬ C k ∧ ¬ X k) w := ⟨⟨m, ⟨mC, mS⟩, m2⟩, k, fun h => h.1 k1, k3⟩
 obtain ⟨Y, hY, hkY⟩ := hP.cover k
 have hYX : Y ≠ X := fun e => k2 (e ▸ hkY)
 have only : ∀ Z ∈ P, ∀ j, Z j → G.I j w → Z = Y := fun Z hZ j h1 h2 => Classical.byContradiction fun hne => hno ((hab Z hZ w).1 (hP.bd_of hZ hY hne h1 hkY h2 k3))
 obtain ⟨Z, hZ, z1, z2⟩ := third hP.nd hP.three X Y
 have hZo : ∀ j, Z j → ¬ X j := fun j h1 h2 => z1 (hP.disj Z hZ X hX j h1 h2)
 have hZw : ∀ j, Z j → ¬ G.I j w := fun j h1 h2 => z2 (only Z hZ j h1 h2)
 have half : ∀ D : α → Prop, Two G D → bd G D w → (∀ j, D j → ¬ X j) → ∀ j, Z j → ¬ D j := fun D hD hDw hDX j j1 j2 => by
  obtain ⟨x, y, hxy, hb⟩ := hD
  obtain ⟨u, hu⟩ : ∃ u, ∀ v, bd G D v → v = w ∨ v = u := by
   rcases (hb w).1 hDw with rfl | rfl
   · exact ⟨y, fun v hv => (hb v).1 hv⟩
   · exact ⟨x, fun v hv => ((hb v).1 hv).symm⟩
  obtain ⟨v, hvu, ⟨⟨i, ⟨i1, i2⟩, i3⟩, n, n1, n2⟩⟩ := hG.ge (X := cap Z D) ⟨j, j1, j2⟩ (by obtain ⟨x, x1⟩ := hP.ne X hX; exact ⟨x, fun h => hZo x h.1 x1⟩) u
  have hDv : bd G D v := by
   by_cases hn : Z n
   · exact ⟨⟨i, i2, i3⟩, n, fun hd => n1 ⟨hn, hd⟩, n2⟩
   ·
    have hv := (hab Z hZ v).1 ⟨⟨i, i1, i3⟩, n, hn, n2⟩; obtain ⟨⟨x, x1, x2⟩, _⟩ := (hbX v).2 hv; exact ⟨⟨i, i2, i3⟩, x, fun hd => hDX x hd x1, x2⟩
  rcases hu v hDv with rfl | rfl
  · exact hZw i i1 i3
  · exact hvu rfl
 obtain ⟨j, hj⟩ := hP.ne Z hZ
 by_cases hc : C j
 · exact half _ t1 hw0 (fun j h => h.2) j hj ⟨hc, hZo j hj⟩
 · exact half _ t2 hw1 (fun j h => h.2) j hj ⟨hc, hZo j hj⟩
theorem cross_cyc (hc : Cyc G P) : ∃ w, bd G (fun k => C k ∧ ¬ X k) w ∧ ¬ bd G X w := by
 refine Classical.byContradiction fun hno => ?_
 have hno' : ∀ w, bd G (fun k => C k ∧ ¬ X k) w → bd G X w := fun w h1 => Classical.byContradiction fun h2 => hno ⟨w, h1, h2⟩
 obtain ⟨t1, t2⟩ := half_two hG hP hX hC hcr
 obtain ⟨a, b, hab, hbX⟩ := hP.two X hX
 have same : ∀ D : α → Prop, Two G D → (∀ w, bd G D w → bd G X w) → ∀ v, bd G D v ↔ v = a ∨ v = b := fun D hD hDw => by
  obtain ⟨x, y, hxy, hb⟩ := hD
  have h1 := (hbX x).1 (hDw x ((hb x).2 (.inl rfl)))
  have h2 := (hbX y).1 (hDw y ((hb y).2 (.inr rfl)))
  intro v
  rw [hb]
  omega
 have s1 := same _ t1 hno'
 have s2 := same (fun k => ¬ C k ∧ ¬ X k) t2 fun w ⟨⟨k, ⟨k1, k2⟩, k3⟩, m, m1, m2⟩ => by
  by_cases hm : X m
  · exact ⟨⟨m, hm, m2⟩, k, k2, k3⟩
  ·
   have : C m := Classical.byContradiction fun h => m1 ⟨h, hm⟩; exact hno' w ⟨⟨m, ⟨this, hm⟩, m2⟩, k, fun h => k1 h.1, k3⟩
 obtain ⟨⟨x, x1, x2⟩, y, y1, y2⟩ := (hbX a).2 (.inl rfl)
 obtain ⟨Y, hY, hyY⟩ := hP.cover y
 have hYX : Y ≠ X := fun e => y1 (e ▸ hyY)
 have hYo : ∀ j, Y j → ¬ X j := fun j h1 h2 => hYX (hP.disj Y hY X hX j h1 h2)
 have hYa : bd G Y a := hP.bd_of hY hX hYX hyY x1 y2 x2
 have onlyA : ∀ j, G.I j a → X j ∨ Y j := fun j hj => by
  obtain ⟨Z, hZ, hjZ⟩ := hP.cover j
  by_cases e1 : Z = X
  · exact .inl (e1 ▸ hjZ)
  ·
   by_cases e2 : Z = Y
   · exact .inr (e2 ▸ hjZ)
   ·
    have hZa := hP.bd_of hZ hX e1 hjZ x1 hj x2; rcases hc a X hX Y hY Z hZ ((hbX a).2 (.inl rfl)) hYa hZa with h | h | h
    · exact absurd h.symm hYX
    · exact absurd h.symm e2
    · exact absurd h.symm e1
 have hYb : ∀ j, Y j → ¬ G.I j b := fun j j1 j2 => by
  obtain ⟨⟨x', x1', x2'⟩, _⟩ := (hbX b).2 (.inr rfl)
  have hYb := hP.bd_of hY hX hYX j1 x1' j2 x2'
  obtain ⟨p, q, hpq, hb⟩ := hP.two Y hY
  have e1 := (hb a).1 hYa
  have e2 := (hb b).1 hYb
  obtain ⟨v, hva, ⟨k, k1, k2⟩, m, m1, m2⟩ := hG.ge (X := cup X Y) ⟨x, .inl x1⟩ (by obtain ⟨z, z1, z2⟩ := hP.more hX hY; exact ⟨z, fun h => h.elim z1 z2⟩) b
  have hv : v = a ∨ v = b := by
   rcases k1 with k1 | k1
   · exact (hbX v).1 ⟨⟨k, k1, k2⟩, m, fun h => m1 (.inl h), m2⟩
   ·
    have := (hb v).1 ⟨⟨k, k1, k2⟩, m, fun h => m1 (.inr h), m2⟩; omega
  rcases hv with rfl | rfl
  · exact m1 (onlyA m m2)
  · exact hva rfl
 obtain ⟨w, hwa, hYw⟩ := hG.ge (X := Y) ⟨y, hyY⟩ (hP.out hY) a
 have hwb : w ≠ b := fun e => by
  subst e
  obtain ⟨⟨k, k1, k2⟩, _⟩ := hYw
  exact hYb k k1 k2
 have hYv : ∀ v, bd G Y v → v = a ∨ v = w := fun v hv => by
  obtain ⟨p, q, hpq, hb⟩ := hP.two Y hY
  have e1 := (hb a).1 hYa; have e2 := (hb w).1 hYw; have e3 := (hb v).1 hv
  omega
 have fin : ∀ D : α → Prop, (∀ v, bd G D v ↔ v = a ∨ v = b) → (∀ j, D j → ¬ X j) → (∀ j, D j → ¬ G.I j w) → False := fun D hD hDX hDw => by
  have hDY : ∀ j, Y j → ¬ D j := fun j j1 j2 => by
   obtain ⟨v, hva, ⟨k, ⟨k1, k2⟩, k3⟩, m, m1, m2⟩ := hG.ge (X := cap Y D) ⟨j, j1, j2⟩ ⟨x, fun h => hYo x h.1 x1⟩ a; by_cases hm : Y m
   ·
    have := (hD v).1 ⟨⟨k, k2, k3⟩, m, fun h => m1 ⟨hm, h⟩, m2⟩; rcases this with rfl | rfl
    · exact hva rfl
    · exact hYb k k1 k3
   ·
    rcases hYv v ⟨⟨k, k1, k3⟩, m, hm, m2⟩ with rfl | rfl
    · exact hva rfl
    · exact hDw k k2 k3
  obtain ⟨⟨k, k1, k2⟩, _⟩ := (hD a).2 (.inl rfl)
  rcases onlyA k k2 with h | h
  · exact hDX k k1 h
  · exact hDY k h k1
 by_cases hw : ∃ j, (C j ∧ ¬ X j) ∧ G.I j w
 ·
  refine fin _ s2 (fun j h => h.2) fun j h1 h2 => ?_
  obtain ⟨i, i1, i2⟩ := hw
  have := (s1 w).1 ⟨⟨i, i1, i2⟩, j, fun h => h1.1 h.1, h2⟩
  omega
 · exact fin _ s1 (fun j h => h.2) fun j h1 h2 => hw ⟨j, h1, h2⟩
end
def Big (X : α → Prop) : Prop := ∃ k m, k ≠ m ∧ X k ∧ X m
structure Fam (G : Gr α) (T : List (List (α → Prop))) : Prop where
 part : ∀ P ∈ T, IsPart G P
 kind : ∀ P ∈ T, Bond G P ∨ Cyc G P ∨ Rig G P
 adj : ∀ P ∈ T, ∀ X ∈ P, Big X → ∃ Q ∈ T, neg X ∈ Q
 norm : ∀ P ∈ T, ∀ Q ∈ T, ∀ X ∈ P, neg X ∈ Q → ¬ (Bond G P ∧ Bond G Q) ∧ ¬ (Cyc G P ∧ Cyc G Q)
theorem Cross.big {C X : α → Prop} (h : Cross C X) : Big X ∧ Big (neg X) := by
 obtain ⟨⟨a, a1, a2⟩, ⟨b, b1, b2⟩, ⟨c, c1, c2⟩, d, d1, d2⟩ := h
 exact ⟨⟨a, c, fun e => c1 (e ▸ a1), a2, c2⟩, b, d, fun e => d1 (e ▸ b1), b2, d2⟩
theorem Fam.uncrossed {G : Gr α} (hG : Ok G) {T : List (List (α → Prop))} (h : Fam G T) {P : List (α → Prop)} (hP : P ∈ T) {X : α → Prop} (hX : X ∈ P) {C : α → Prop} (hC : Two G C) : ¬ Cross C X := fun hcr => by
 obtain ⟨Q, hQ, hXQ⟩ := h.adj P hP X hX hcr.big.1
 have hcn : Cross C (neg X) := hcr.negR
 have pP := h.part P hP; have pQ := h.part Q hQ
 have hn := h.norm P hP Q hQ X hX hXQ
 have bb : ∀ v, bd G (neg X) v ↔ bd G X v := bd_neg G X
 obtain ⟨t1, t2⟩ := half_two hG pP hX hC hcr
 have mix : ∀ {X : α → Prop}, Two G X → Cross C X → (∀ v, bd G (fun k => C k ∧ ¬ X k) v → bd G X v) → Two G (fun k => C k ∧ ¬ X k) → (∃ w, bd G (fun k => C k ∧ ¬ neg X k) w ∧ ¬ bd G (neg X) w) → False := fun {X} hX2 hcr h1 t1 ⟨w, h2, h3⟩ => by
  obtain ⟨a, b, hab, hb⟩ := hX2
  rw [bd_neg] at h3
  obtain ⟨p, q, hpq, hpb⟩ := t1
  have e1 := (hb p).1 (h1 p ((hpb p).2 (.inl rfl)))
  have e2 := (hb q).1 (h1 q ((hpb q).2 (.inr rfl)))
  have hCp : ∀ u, u = p ∨ u = q → bd G C u := fun u hu => by
   obtain ⟨⟨k, ⟨k1, k2⟩, k3⟩, m, m1, m2⟩ := (hpb u).2 hu
   by_cases hm : C m
   ·
    
    have hmX : X m := Classical.byContradiction fun hx => m1 ⟨hm, hx⟩
    refine Classical.byContradiction fun hno => ?_
    have all : ∀ j, G.I j u → C j := fun j hj => Classical.byContradiction fun hc => hno ⟨⟨k, k1, k3⟩, j, hc, hj⟩
    have tD := (corner hG hC.neg (Two.neg ⟨a, b, hab, hb⟩) (by obtain ⟨_, _, _, d, d1, d2⟩ := hcr; exact ⟨d, d1, d2⟩) (by obtain ⟨⟨a, a1, a2⟩, _⟩ := hcr; exact ⟨a, fun n => n a1, fun n => n a2⟩)).1
    obtain ⟨v, hvu, ⟨i, ⟨i1, i2⟩, i3⟩, n, n1, n2⟩ := hG.ge (X := cap (neg C) (neg X)) (by obtain ⟨_, _, _, d, d1, d2⟩ := hcr; exact ⟨d, d1, d2⟩) ⟨k, fun h => h.1 k1⟩ (if u = p then q else p)
    have hv : bd G X v := by
     by_cases hn : X n
     · exact ⟨⟨n, hn, n2⟩, i, i2, i3⟩
     ·
      have hc : C n := Classical.byContradiction fun hc => n1 ⟨hc, hn⟩; exact h1 v ⟨⟨n, ⟨hc, hn⟩, n2⟩, i, fun h => i1 h.1, i3⟩
    have hv2 := (hb v).1 hv; have : v = u := by
     split at hvu <;> omega
    subst this; exact i1 (all i i3)
   · exact ⟨⟨k, k1, k3⟩, m, hm, m2⟩
  have hCw : bd G C w := by
   obtain ⟨⟨k, ⟨k1, k2⟩, k3⟩, m, m1, m2⟩ := h2; have hmX : X m := Classical.byContradiction fun hx => h3 ⟨⟨k, Classical.byContradiction k2, k3⟩, m, hx, m2⟩; exact ⟨⟨k, k1, k3⟩, m, fun hc => m1 ⟨hc, fun n => n hmX⟩, m2⟩
  obtain ⟨c, d, hcd, hcb⟩ := hC
  have f1 := (hcb p).1 (hCp p (.inl rfl)); have f2 := (hcb q).1 (hCp q (.inr rfl)); have f3 := (hcb w).1 hCw
  have f4 : w ≠ p := fun e => h3 (h1 w ((hpb w).2 (.inl e)))
  have f5 : w ≠ q := fun e => h3 (h1 w ((hpb w).2 (.inr e)))
  omega
 obtain ⟨u1, u2⟩ := half_two hG pQ hXQ hC hcn
 rcases h.kind P hP with kP | kP | kP
 ·
  rcases h.kind Q hQ with kQ | kQ | kQ
  · exact hn.1 ⟨kP, kQ⟩
  · exact mix (pP.two X hX) hcr (cross_bond hG pP hX hC hcr kP) t1 (cross_cyc hG pQ hXQ hC hcn kQ)
  · exact cross_rig hG pQ hXQ hC hcn kQ
 ·
  rcases h.kind Q hQ with kQ | kQ | kQ
  ·
   refine mix (pQ.two _ hXQ) hcn (cross_bond hG pQ hXQ hC hcn kQ) u1 ?_; rw [neg_neg]; exact cross_cyc hG pP hX hC hcr kP
  · exact hn.2 ⟨kP, kQ⟩
  · exact cross_rig hG pQ hXQ hC hcn kQ
 · exact cross_rig hG pP hX hC hcr kP
theorem sat_block {G : Gr α} (hG : Ok G) {P : List (α → Prop)} (hP : IsPart G P) (hk : Bond G P ∨ Cyc G P ∨ Rig G P) {C : α → Prop} (hs : Sat P C) (h1 : ∃ k, C k) (h2 : ∃ k, ¬ C k) (hC : Two G C) (hun : ∀ D, Two G D → ¬ Cross D C) : C ∈ P ∨ neg C ∈ P := by
 refine Classical.byContradiction fun hno => ?_
 have n1 : C ∉ P := fun h => hno (.inl h)
 have n2 : neg C ∉ P := fun h => hno (.inr h)
 have more1 : ∀ Y ∈ P, (∀ k, Y k → C k) → ∃ k, C k ∧ ¬ Y k := fun Y hY hYC => Classical.byContradiction fun hn => n1 (by
  have : C = Y := funext fun k => propext ⟨fun hc => Classical.byContradiction fun hy => hn ⟨k, hc, hy⟩, hYC k⟩
  rw [this]; exact hY)
 have more2 : ∀ Y ∈ P, (∀ k, Y k → ¬ C k) → ∃ k, ¬ C k ∧ ¬ Y k := fun Y hY hYC => Classical.byContradiction fun hn => n2 (by
  have : neg C = Y := funext fun k => propext ⟨fun hc => Classical.byContradiction fun hy => hn ⟨k, hc, hy⟩, hYC k⟩
  rw [this]; exact hY)
 have fin : ∀ Y ∈ P, ∀ Z ∈ P, (∀ k, Y k → C k) → (∀ k, Z k → ¬ C k) → (∃ a b, ∀ v, bd G (cup Y Z) v → v = a ∨ v = b) → False := fun Y hY Z hZ hYC hZC ⟨a, b, hab⟩ => by
  obtain ⟨y, y1⟩ := hP.ne Y hY
  obtain ⟨z, z1⟩ := hP.ne Z hZ
  obtain ⟨p, p1, p2⟩ := more1 Y hY hYC
  obtain ⟨q, q1, q2⟩ := more2 Z hZ hZC
  have hp : ¬ cup Y Z p := fun h => h.elim p2 fun h => hZC p h p1
  have hq : ¬ cup Y Z q := fun h => h.elim (fun h => q1 (hYC q h)) q2
  have ht : Two G (cup Y Z) := by
   obtain ⟨u, hu1, hu2⟩ := hG.ge (X := cup Y Z) ⟨y, .inl y1⟩ ⟨p, hp⟩ a; obtain ⟨v, hv1, hv2⟩ := hG.ge (X := cup Y Z) ⟨y, .inl y1⟩ ⟨p, hp⟩ b; have e1 := hab u hu2; have e2 := hab v hv2; refine ⟨u, v, by omega, fun w => ⟨fun hw => by have := hab w hw; omega, fun hw => by rcases hw with rfl | rfl; exact hu2; exact hv2⟩⟩
  exact hun _ ht ⟨⟨y, .inl y1, hYC y y1⟩, ⟨z, .inr z1, hZC z z1⟩, ⟨p, hp, p1⟩, q, hq, q1⟩
 obtain ⟨c, hc⟩ := h1
 obtain ⟨d, hd⟩ := h2
 rcases hk with hk | hk | hk
 ·
  obtain ⟨a, b, hab⟩ := hk
  obtain ⟨Y, hY, hcY⟩ := hP.cover c
  obtain ⟨Z, hZ, hdZ⟩ := hP.cover d
  have hYC := (hs Y hY).resolve_right fun h => h c hcY hc
  have hZC := (hs Z hZ).resolve_left fun h => hd (h d hdZ)
  refine fin Y hY Z hZ hYC hZC ⟨a, b, fun v hv => ?_⟩
  obtain ⟨⟨k, k1, k2⟩, m, m1, m2⟩ := hv
  rcases k1 with k1 | k1
  · exact (hab Y hY v).1 ⟨⟨k, k1, k2⟩, m, fun h => m1 (.inl h), m2⟩
  · exact (hab Z hZ v).1 ⟨⟨k, k1, k2⟩, m, fun h => m1 (.inr h), m2⟩
 ·
  obtain ⟨a, b, hab, hb⟩ := id hC
  obtain ⟨⟨k, k1, k2⟩, m, m1, m2⟩ := (hb a).2 (.inl rfl)
  obtain ⟨Y, hY, hkY⟩ := hP.cover k
  obtain ⟨Z, hZ, hmZ⟩ := hP.cover m
  have hYC := (hs Y hY).resolve_right fun h => h k hkY k1
  have hZC := (hs Z hZ).resolve_left fun h => m1 (h m hmZ)
  have hYZ : Y ≠ Z := fun e => m1 (hYC m (e ▸ hmZ))
  have bY : bd G Y a := hP.bd_of hY hZ hYZ hkY hmZ k2 m2
  have bZ : bd G Z a := hP.bd_of hZ hY (fun e => hYZ e.symm) hmZ hkY m2 k2
  obtain ⟨y1, y2, y3, y4⟩ := hP.two Y hY
  obtain ⟨z1, z2, z3, z4⟩ := hP.two Z hZ
  obtain ⟨y, hy⟩ : ∃ y, ∀ v, bd G Y v → v = a ∨ v = y := by
   rcases (y4 a).1 bY with rfl | rfl
   · exact ⟨y2, fun v hv => (y4 v).1 hv⟩
   · exact ⟨y1, fun v hv => ((y4 v).1 hv).symm⟩
  obtain ⟨z, hz⟩ : ∃ z, ∀ v, bd G Z v → v = a ∨ v = z := by
   rcases (z4 a).1 bZ with rfl | rfl
   · exact ⟨z2, fun v hv => (z4 v).1 hv⟩
   · exact ⟨z1, fun v hv => ((z4 v).1 hv).symm⟩
  refine fin Y hY Z hZ hYC hZC ⟨y, z, fun v hv => ?_⟩
  obtain ⟨⟨i, i1, i2⟩, n, n1, n2⟩ := hv
  by_cases hva : v = a
  ·
   subst hva; obtain ⟨W, hW, hnW⟩ := hP.cover n; have w1 : W ≠ Y := fun e => n1 (.inl (e ▸ hnW)); have w2 : W ≠ Z := fun e => n1 (.inr (e ▸ hnW)); have bW := hP.bd_of hW hY w1 hnW hkY n2 k2; rcases hk v Y hY Z hZ W hW bY bZ bW with h | h | h
   · exact absurd h hYZ
   · exact absurd h.symm w2
   · exact absurd h.symm w1
  ·
   rcases i1 with i1 | i1
   ·
    have := hy v ⟨⟨i, i1, i2⟩, n, fun h => n1 (.inl h), n2⟩; exact .inl (this.resolve_left hva)
   ·
    have := hz v ⟨⟨i, i1, i2⟩, n, fun h => n1 (.inr h), n2⟩; exact .inr (this.resolve_left hva)
 · exact hno (hk.2 C hs ⟨c, hc⟩ ⟨d, hd⟩ hC)
noncomputable def szU (U : List α) (X : α → Prop) : Nat := (U.filter fun k => decide (X k)).length
theorem szU_lt {U : List α} (hU : ∀ k, k ∈ U) {X Y : α → Prop} (h : ∀ k, X k → Y k) {m : α} (h1 : Y m) (h2 : ¬ X m) : szU U X < szU U Y := by
 unfold szU
 have key : ∀ l : List α, (l.filter fun k => decide (X k)).length ≤ (l.filter fun k => decide (Y k)).length ∧ (m ∈ l → (l.filter fun k => decide (X k)).length < (l.filter fun k => decide (Y k)).length) := by
  intro l
  induction l with
  | nil => simp
  | cons a l ih =>
   have ha := h a; simp only [List.filter_cons, decide_eq_true_eq, List.mem_cons]; by_cases hx : X a
   ·
    rw [if_pos hx, if_pos (ha hx)]; simp only [List.length_cons]; refine ⟨by omega, fun hm => ?_⟩; rcases hm with rfl | hm
    · exact absurd hx h2
    · have := ih.2 hm; omega
   ·
    rw [if_neg hx]; by_cases hy : Y a
    · rw [if_pos hy]; simp only [List.length_cons]; exact ⟨by omega, fun _ => by omega⟩
    ·
     rw [if_neg hy]; refine ⟨ih.1, fun hm => ?_⟩; rcases hm with rfl | hm
     · exact absurd h1 hy
     · exact ih.2 hm
 exact (key U).2 (hU m)
theorem Fam.find {G : Gr α} (hG : Ok G) {U : List α} (hU : ∀ k, k ∈ U) {T : List (List (α → Prop))} (h : Fam G T) (hne : T ≠ []) {C : α → Prop} (h1 : Big C) (h2 : Big (neg C)) (hC : Two G C) (hun : ∀ D, Two G D → ¬ Cross D C) : ∃ P ∈ T, C ∈ P := by
 obtain ⟨c, _, _, hc, _⟩ := id h1
 obtain ⟨d, _, _, hd, _⟩ := id h2
 have fin : ∀ P ∈ T, Sat P C → ∃ P ∈ T, C ∈ P := fun P hP hs => by
  rcases sat_block hG (h.part P hP) (h.kind P hP) hs ⟨c, hc⟩ ⟨d, hd⟩ hC hun with hb | hb
  · exact ⟨P, hP, hb⟩
  ·
   obtain ⟨Q, hQ, hq⟩ := h.adj P hP _ hb h2; rw [neg_neg] at hq; exact ⟨Q, hQ, hq⟩
 have step : ∀ n, ∀ P ∈ T, ∀ Y ∈ P, szU U Y = n → (∃ k, C k ∧ Y k) → (∃ k, ¬ C k ∧ Y k) → ∃ P ∈ T, C ∈ P := by
  intro n
  induction n using Nat.strongRecOn with
  | _ n ih =>
   intro P hP Y hY hn ⟨p, p1, p2⟩ ⟨q, q1, q2⟩; obtain ⟨Q, hQ, hQY⟩ := h.adj P hP Y hY ⟨p, q, fun e => q1 (e ▸ p1), p2, q2⟩; have pQ := h.part Q hQ; by_cases hs : Sat Q C
   · exact fin Q hQ hs
   ·
    have : ∃ Z ∈ Q, (∃ k, C k ∧ Z k) ∧ ∃ k, ¬ C k ∧ Z k := by
     refine Classical.byContradiction fun hno => hs fun Z hZ => ?_; by_cases e : ∀ k, Z k → C k
     · exact .inl e
     ·
      refine .inr fun k k1 k2 => hno ⟨Z, hZ, ⟨k, k2, k1⟩, ?_⟩; exact Classical.byContradiction fun hn => e fun m hm => Classical.byContradiction fun hc => hn ⟨m, hc, hm⟩
    obtain ⟨Z, hZ, z1, z2⟩ := this; have hZY : Z ≠ neg Y := fun e => by
     subst e; obtain ⟨i, i1, i2⟩ := z1; obtain ⟨j, j1, j2⟩ := z2; exact hun Y ((h.part P hP).two Y hY) ⟨⟨p, p2, p1⟩, ⟨q, q2, q1⟩, ⟨i, i2, i1⟩, j, j2, j1⟩
    have hsub : ∀ k, Z k → Y k := fun k hk => Classical.byContradiction fun hy => hZY (pQ.disj Z hZ _ hQY k hk hy); obtain ⟨m, m1, m2⟩ := pQ.more hZ hQY; exact ih (szU U Z) (by rw [← hn]; exact szU_lt hU hsub (Classical.byContradiction m2) m1) Q hQ Z hZ rfl z1 z2
 match T, hne, h, fin, step with
 | P :: T, _, h, fin, step =>
  by_cases hs : Sat P C
  · exact fin P (by simp) hs
  ·
   have : ∃ Z ∈ P, (∃ k, C k ∧ Z k) ∧ ∃ k, ¬ C k ∧ Z k := by
    refine Classical.byContradiction fun hno => hs fun Z hZ => ?_; by_cases e : ∀ k, Z k → C k
    · exact .inl e
    ·
     refine .inr fun k k1 k2 => hno ⟨Z, hZ, ⟨k, k2, k1⟩, ?_⟩; exact Classical.byContradiction fun hn => e fun m hm => Classical.byContradiction fun hc => hn ⟨m, hc, hm⟩
   obtain ⟨Z, hZ, z1, z2⟩ := this; exact step _ P (by simp) Z hZ rfl z1 z2
theorem Fam.nest {G : Gr α} (hG : Ok G) {T : List (List (α → Prop))} (h : Fam G T) {P : List (α → Prop)} (hP : P ∈ T) {C : α → Prop} (h1 : ∃ k, C k) (h2 : ∃ k, ¬ C k) (hC : Two G C) (hun : ∀ D, Two G D → ¬ Cross D C) : ∃ Y ∈ P, (∀ k, C k → Y k) ∨ ∀ k, ¬ C k → Y k := by
 have pP := h.part P hP
 by_cases hs : Sat P C
 ·
  rcases sat_block hG pP (h.kind P hP) hs h1 h2 hC hun with hb | hb
  · exact ⟨C, hb, .inl fun k hk => hk⟩
  · exact ⟨neg C, hb, .inr fun k hk => hk⟩
 ·
  have : ∃ Z ∈ P, (∃ k, C k ∧ Z k) ∧ ∃ k, ¬ C k ∧ Z k := by
   refine Classical.byContradiction fun hno => hs fun Z hZ => ?_; by_cases e : ∀ k, Z k → C k
   · exact .inl e
   ·
    refine .inr fun k k1 k2 => hno ⟨Z, hZ, ⟨k, k2, k1⟩, ?_⟩; exact Classical.byContradiction fun hn => e fun m hm => Classical.byContradiction fun hc => hn ⟨m, hc, hm⟩
  obtain ⟨Z, hZ, ⟨i, i1, i2⟩, j, j1, j2⟩ := this
  refine ⟨Z, hZ, ?_⟩
  by_cases e : ∀ k, C k → Z k
  · exact .inl e
  ·
   refine .inr fun k k1 => Classical.byContradiction fun k2 => e fun m m1 => Classical.byContradiction fun m2 => ?_; exact hun Z (pP.two Z hZ) ⟨⟨i, i2, i1⟩, ⟨j, j2, j1⟩, ⟨m, m2, m1⟩, k, k2, k1⟩
theorem Fam.refine {G : Gr α} (hG : Ok G) {T T' : List (List (α → Prop))} (h : Fam G T) (h' : Fam G T') {P P' : List (α → Prop)} (hP : P ∈ T) (hP' : P' ∈ T') {X : α → Prop} (hX : X ∈ P) (hX' : X ∈ P') : ∀ Y ∈ P, ∃ Y' ∈ P', ∀ k, Y k → Y' k := by
 intro Y hY
 have pP := h.part P hP; have pP' := h'.part P' hP'
 by_cases hb : Big Y
 ·
  by_cases e : Y = X
  · subst e; exact ⟨Y, hX', fun k h => h⟩
  obtain ⟨y, hy⟩ := pP.ne Y hY
  obtain ⟨Z, hZ, hz⟩ := h'.nest hG hP' ⟨y, hy⟩ (pP.out hY) (pP.two Y hY) fun D hD => h.uncrossed hG hP hY hD
  rcases hz with hz | hz
  · exact ⟨Z, hZ, hz⟩
  ·
   have hXY : ∀ k, X k → ¬ Y k := fun k h1 h2 => e (pP.disj Y hY X hX k h2 h1); obtain ⟨x, hx⟩ := pP.ne X hX; have hZX : Z = X := pP'.disj Z hZ X hX' x (hz x (hXY x hx)) hx; subst hZX; exact absurd (fun k hk => hz k hk) (fun hh => pP.not_neg hY hX hh)
 ·
  obtain ⟨y, hy⟩ := pP.ne Y hY
  obtain ⟨Y', hY', hy'⟩ := pP'.cover y
  refine ⟨Y', hY', fun k hk => ?_⟩
  have : k = y := Classical.byContradiction fun hne => hb ⟨k, y, hne, hk, hy⟩
  subst this; exact hy'
theorem Fam.one {G : Gr α} (hG : Ok G) {U : List α} (hU : ∀ k, k ∈ U) {T T' : List (List (α → Prop))} (h : Fam G T) (h' : Fam G T') (hne : T' ≠ []) {P : List (α → Prop)} (hP : P ∈ T) {X : α → Prop} (hX : X ∈ P) (hb : Big X) : ∃ P' ∈ T', P.Perm P' := by
 have pP := h.part P hP
 have hb2 : Big (neg X) := by
  obtain ⟨Q, hQ, hq⟩ := h.adj P hP X hX hb
  obtain ⟨Y, hY, y1, _⟩ := third pP.nd pP.three X X
  obtain ⟨Z, hZ, z1, z2⟩ := third pP.nd pP.three X Y
  obtain ⟨y, hy⟩ := pP.ne Y hY
  obtain ⟨z, hz⟩ := pP.ne Z hZ
  exact ⟨y, z, fun e => z2 (pP.disj Z hZ Y hY z hz (e ▸ hy)), fun hx => y1 (pP.disj Y hY X hX y hy hx), fun hx => z1 (pP.disj Z hZ X hX z hz hx)⟩
 obtain ⟨P', hP', hX'⟩ := h'.find hG hU hne hb hb2 (pP.two X hX) fun D hD => h.uncrossed hG hP hX hD
 have pP' := h'.part P' hP'
 have r1 := h.refine hG h' hP hP' hX hX'
 have r2 := h'.refine hG h hP' hP hX' hX
 have sub : ∀ {A B : List (α → Prop)}, IsPart G A → IsPart G B → (∀ Y ∈ A, ∃ Y' ∈ B, ∀ k, Y k → Y' k) → (∀ Y ∈ B, ∃ Y' ∈ A, ∀ k, Y k → Y' k) → ∀ Y ∈ A, Y ∈ B := fun {A B} pA pB s1 s2 Y hY => by
  obtain ⟨Z, hZ, hz⟩ := s1 Y hY
  obtain ⟨W, hW, hw⟩ := s2 Z hZ
  have e := pA.sub_eq hY hW fun k hk => hw k (hz k hk)
  have : Y = Z := funext fun k => propext ⟨hz k, fun hk => e ▸ hw k hk⟩
  rw [this]; exact hZ
 exact ⟨P', hP', (List.perm_ext_iff_of_nodup pP.nd pP'.nd).2 fun Y => ⟨sub pP pP' r1 r2 Y, sub pP' pP r2 r1 Y⟩⟩
end Uq
end Go.Proofs.YtagcbnpahgfgmaaGreat
namespace Go.Proofs.YtagcbnpahgfgmaaGreat
namespace Uq
open Classical
variable {α β : Type}
structure Iso (G : Gr α) (H : Gr β) (f : α → β) (g : β → α) (s t : Int → Int) : Prop where
 gf : ∀ a, g (f a) = a
 fg : ∀ b, f (g b) = b
 ts : ∀ v, t (s v) = v
 st : ∀ v, s (t v) = v
 inc : ∀ a v, G.I a v ↔ H.I (f a) (s v)
abbrev pull (f : α → β) (X : β → Prop) : α → Prop := fun a => X (f a)
namespace Iso
variable {G : Gr α} {H : Gr β} {f : α → β} {g : β → α} {s t : Int → Int} (h : Iso G H f g s t)
include h
theorem symm : Iso H G g f t s := ⟨h.fg, h.gf, h.st, h.ts, fun b v => by rw [h.inc, h.fg, h.st]⟩
theorem back (X : β → Prop) : pull g (pull f X) = X := funext fun b => by show X (f (g b)) = X b; rw [h.fg]
theorem inj {X Y : β → Prop} (e : pull f X = pull f Y) : X = Y := by rw [← h.back X, e, h.back]
theorem inj' {a b : α} (e : f a = f b) : a = b := by rw [← h.gf a, e, h.gf]
theorem bdp (X : β → Prop) (v : Int) : bd G (pull f X) v ↔ bd H X (s v) := by
 constructor
 ·
  rintro ⟨⟨k, h1, h2⟩, m, h3, h4⟩
  exact ⟨⟨f k, h1, (h.inc k v).1 h2⟩, f m, h3, (h.inc m v).1 h4⟩
 ·
  rintro ⟨⟨k, h1, h2⟩, m, h3, h4⟩
  exact ⟨⟨g k, by show X (f (g k)); rw [h.fg]; exact h1, (h.inc _ v).2 (by rw [h.fg]; exact h2)⟩, g m, by show ¬ X (f (g m)); rw [h.fg]; exact h3, (h.inc _ v).2 (by rw [h.fg]; exact h4)⟩
theorem eqv {v a : Int} : s v = a ↔ v = t a := ⟨fun e => by rw [← e, h.ts], fun e => by rw [e, h.st]⟩
theorem two {X : β → Prop} (hX : Two H X) : Two G (pull f X) := by
 obtain ⟨a, b, hab, hb⟩ := hX
 refine ⟨t a, t b, fun e => hab (by rw [← h.st a, e, h.st]), fun v => ?_⟩
 rw [h.bdp, hb, h.eqv, h.eqv]
theorem isPart {P : List (β → Prop)} (hP : IsPart H P) : IsPart G (P.map (pull f)) := by
 refine ⟨fun X hX => ?_, fun k => ?_, fun X hX Y hY k h1 h2 => ?_, ?_, by simpa using hP.three, fun X hX => ?_⟩
 ·
  obtain ⟨X, mX, rfl⟩ := List.mem_map.1 hX
  obtain ⟨k, hk⟩ := hP.ne X mX
  exact ⟨g k, by show X (f (g k)); rw [h.fg]; exact hk⟩
 ·
  obtain ⟨X, hX, hk⟩ := hP.cover (f k)
  exact ⟨_, List.mem_map_of_mem hX, hk⟩
 ·
  obtain ⟨X, mX, rfl⟩ := List.mem_map.1 hX
  obtain ⟨Y, mY, rfl⟩ := List.mem_map.1 hY
  rw [hP.disj X mX Y mY _ h1 h2]
 · exact List.pairwise_map.2 (hP.nd.imp fun hne e => hne (h.inj e))
 ·
  obtain ⟨X, mX, rfl⟩ := List.mem_map.1 hX
  exact h.two (hP.two X mX)
theorem bond {P : List (β → Prop)} (hP : Bond H P) : Bond G (P.map (pull f)) := by
 obtain ⟨a, b, hab⟩ := hP
 refine ⟨t a, t b, fun X hX v => ?_⟩
 obtain ⟨X, mX, rfl⟩ := List.mem_map.1 hX
 rw [h.bdp, hab X mX, h.eqv, h.eqv]
theorem cyc {P : List (β → Prop)} (hP : Cyc H P) : Cyc G (P.map (pull f)) := by
 intro v X hX Y hY Z hZ h1 h2 h3
 obtain ⟨X, mX, rfl⟩ := List.mem_map.1 hX
 obtain ⟨Y, mY, rfl⟩ := List.mem_map.1 hY
 obtain ⟨Z, mZ, rfl⟩ := List.mem_map.1 hZ
 rw [h.bdp] at h1 h2 h3
 rcases hP _ X mX Y mY Z mZ h1 h2 h3 with e | e | e
 · exact .inl (by rw [e])
 · exact .inr (.inl (by rw [e]))
 · exact .inr (.inr (by rw [e]))
theorem pulled (P : List (β → Prop)) : (P.map (pull f)).map (pull g) = P := by
 rw [List.map_map]
 conv => rhs; rw [← List.map_id P]
 exact List.map_congr_left fun X _ => h.back X
theorem rig {P : List (β → Prop)} (hP : Rig H P) : Rig G (P.map (pull f)) := by
 refine ⟨by simpa using hP.1, fun C hs ⟨k, hk⟩ ⟨m, hm⟩ hC => ?_⟩
 have e : pull f (pull g C) = C := h.symm.back C
 have hs2 : Sat P (pull g C) := fun X hX => by
  rcases hs _ (List.mem_map_of_mem hX) with h1 | h1
  · exact .inl fun b hb => h1 (g b) (by show X (f (g b)); rw [h.fg]; exact hb)
  · exact .inr fun b hb => h1 (g b) (by show X (f (g b)); rw [h.fg]; exact hb)
 rcases hP.2 (pull g C) hs2 ⟨f k, by show C (g (f k)); rw [h.gf]; exact hk⟩ ⟨f m, by show ¬ C (g (f m)); rw [h.gf]; exact hm⟩ (h.symm.two hC) with h1 | h1
 · exact .inl (by rw [← e]; exact List.mem_map_of_mem h1)
 ·
  refine .inr ?_
  have : neg C = pull f (neg (pull g C)) := by
   conv => lhs; rw [← e]
  rw [this]; exact List.mem_map_of_mem h1
theorem fam {T : List (List (β → Prop))} (hT : Fam H T) : Fam G (T.map fun P => P.map (pull f)) := by
 refine ⟨fun P hP => ?_, fun P hP => ?_, fun P hP X hX hb => ?_, fun P hP Q hQ X hX hn => ?_⟩
 ·
  obtain ⟨P, mP, rfl⟩ := List.mem_map.1 hP
  exact h.isPart (hT.part P mP)
 ·
  obtain ⟨P, mP, rfl⟩ := List.mem_map.1 hP
  rcases hT.kind P mP with k | k | k
  · exact .inl (h.bond k)
  · exact .inr (.inl (h.cyc k))
  · exact .inr (.inr (h.rig k))
 ·
  obtain ⟨P, mP, rfl⟩ := List.mem_map.1 hP
  obtain ⟨X, mX, rfl⟩ := List.mem_map.1 hX
  obtain ⟨k, m, hkm, hk, hm⟩ := hb
  obtain ⟨Q, hQ, hq⟩ := hT.adj P mP X mX ⟨f k, f m, fun e => hkm (by rw [← h.gf k, e, h.gf]), hk, hm⟩
  exact ⟨_, List.mem_map_of_mem hQ, List.mem_map.2 ⟨neg X, hq, rfl⟩⟩
 ·
  obtain ⟨P, mP, rfl⟩ := List.mem_map.1 hP
  obtain ⟨Q, mQ, rfl⟩ := List.mem_map.1 hQ
  obtain ⟨X, mX, rfl⟩ := List.mem_map.1 hX
  obtain ⟨Y, hY, e⟩ := List.mem_map.1 hn
  have e2 : Y = neg X := h.inj (e.trans rfl)
  subst e2
  have hno := hT.norm P mP Q mQ X mX hY
  have k1 : ∀ {P : List (β → Prop)}, Bond G (P.map (pull f)) → Bond H P := fun {P} hb => by have := h.symm.bond hb; rwa [h.pulled] at this
  have k2 : ∀ {P : List (β → Prop)}, Cyc G (P.map (pull f)) → Cyc H P := fun {P} hb => by have := h.symm.cyc hb; rwa [h.pulled] at this
  exact ⟨fun hb => hno.1 ⟨k1 hb.1, k1 hb.2⟩, fun hb => hno.2 ⟨k2 hb.1, k2 hb.2⟩⟩
end Iso
end Uq
end Go.Proofs.YtagcbnpahgfgmaaGreat
namespace Go.Proofs.YtagcbnpahgfgmaaGreat
inductive Con (bs : Nat → List Nat) (S : Nat → Prop) (x : Nat) : Nat → Prop
 | refl : S x → Con bs S x x
 | step {y z : Nat} : Con bs S x y → z ∈ bs y → S z → Con bs S x z
namespace Con
variable {bs : Nat → List Nat} {S T : Nat → Prop} {x y z : Nat}
theorem mono (h : Con bs S x y) (hs : ∀ a, S a → T a) : Con bs T x y := by
 induction h with
 | refl h => exact .refl (hs _ h)
 | step _ h1 h2 ih => exact ih.step h1 (hs _ h2)
theorem left (h : Con bs S x y) : S x := by
 induction h with
 | refl h => exact h
 | step _ _ _ ih => exact ih
theorem right (h : Con bs S x y) : S y := by
 cases h with
 | refl h => exact h
 | step _ _ h => exact h
theorem trans (h : Con bs S x y) (k : Con bs S y z) : Con bs S x z := by
 induction k with
 | refl _ => exact h
 | step _ h1 h2 ih => exact ih.step h1 h2
theorem head (hx : S x) (h1 : y ∈ bs x) (k : Con bs S y z) : Con bs S x z := ((Con.refl hx).step h1 k.left).trans k
theorem symm (hs : ∀ a b, b ∈ bs a → a ∈ bs b) (h : Con bs S x y) : Con bs S y x := by
 induction h with
 | refl h => exact .refl h
 | step h0 h1 h2 ih => exact head h2 (hs _ _ h1) ih
theorem closed (D : Nat → Prop) (hD : ∀ a b, D a → b ∈ bs a → S b → D b) (hx : D x) (h : Con bs S x y) : D y := by
 induction h with
 | refl _ => exact hx
 | step _ h1 h2 ih => exact hD _ _ ih h1 h2
end Con
def upd {α : Type} (f : Nat → α) (a : Nat) (b : α) : Nat → α := fun x => if x = a then b else f x
theorem upd_same {α : Type} (f : Nat → α) (a : Nat) (b : α) : upd f a b a = b := by simp [upd]
theorem upd_ne {α : Type} (f : Nat → α) {a x : Nat} (b : α) (h : x ≠ a) : upd f a b x = f x := by simp [upd, h]
structure CS where
 num : Nat → Nat
 low : Nat → Nat
 up : Nat → Nat
 at_ : Nat → Nat
 cut : Nat → Bool
 stack : List Nat
 met : Nat
 kids : Nat
def Pres (n : Nat) (gone : Int) (v : Nat) : Prop := v < n ∧ (v : Int) ≠ gone
def Stk (up : Nat → Nat) (root : Nat) : List Nat → Prop
 | [] => True
 | [a] => a = root
 | a :: b :: r => up a = b ∧ Stk up root (b :: r)
theorem Stk.tail {up : Nat → Nat} {root a : Nat} {l : List Nat} (h : Stk up root (a :: l)) : Stk up root l := by
 cases l with
 | nil => trivial
 | cons b r => exact h.2
theorem Stk.congr {up up' : Nat → Nat} {root : Nat} {l : List Nat} (h : Stk up root l) (he : ∀ a ∈ l, up' a = up a) : Stk up' root l := by
 induction l with
 | nil => trivial
 | cons a l ih =>
  cases l with
  | nil => exact h
  | cons b r => exact ⟨(he a (by simp)).trans h.1, ih h.2 fun c hc => he c (by simp [hc])⟩
namespace CS
variable (s : CS)
def Black (x : Nat) : Prop := s.num x ≠ 0 ∧ x ∉ s.stack
def InB (v x : Nat) : Prop := s.num v ≤ s.num x ∧ ∀ u ∈ s.stack, s.num v < s.num u → s.num x < s.num u
def Ex (bs : Nat → List Nat) (x w : Nat) : Prop := ∃ i, i < s.at_ x ∧ (bs x)[i]? = some w
end CS
structure CT (n : Nat) (bs : Nat → List Nat) (gone : Int) (root : Nat) (s : CS) : Prop where
 numP : ∀ x, s.num x ≠ 0 → Pres n gone x
 numle : ∀ x, s.num x ≤ s.met
 inj : ∀ x y, s.num x ≠ 0 → s.num x = s.num y → x = y
 root1 : s.num root = 1
 ord : ∃ o : List Nat, o.Nodup ∧ o.length = s.met ∧ ∀ x, x ∈ o ↔ s.num x ≠ 0
 stV : ∀ v ∈ s.stack, s.num v ≠ 0
 stS : s.stack.Pairwise (fun a b => s.num b < s.num a)
 chain : Stk s.up root s.stack
 atLe : ∀ v, s.at_ v ≤ (bs v).length
 at0 : ∀ v, s.num v = 0 → s.at_ v = 0
 seen : ∀ v w, s.Ex bs v w → Pres n gone w → s.num w ≠ 0
 full : ∀ x, s.Black x → s.at_ x = (bs x).length
 b1 : ∀ x v, s.Black x → v ∈ s.stack → s.num x < s.num v → ∀ y ∈ bs x, Pres n gone y → s.num y < s.num v
 tree : ∀ v ∈ s.stack, ∀ x, s.num v ≤ s.num x → Con bs (fun y => Pres n gone y ∧ s.num v ≤ s.num y) v x
 pth : ∀ x, s.num x ≠ 0 → Con bs (fun y => Pres n gone y ∧ s.num y ≠ 0 ∧ s.num y ≤ s.num x) root x
def Av (n : Nat) (gone : Int) (u : Nat) (y : Nat) : Prop := Pres n gone y ∧ y ≠ u
structure CL (n : Nat) (bs : Nat → List Nat) (gone : Int) (root : Nat) (s : CS) : Prop where
 lowle : ∀ v ∈ s.stack, s.low v ≤ s.num v
 lb : ∀ v ∈ s.stack, ∀ x w, s.InB v x → s.Ex bs x w → Pres n gone w → s.low v ≤ s.num w
 att : ∀ v ∈ s.stack, s.low v = s.num v ∨ ∃ x w, s.InB v x ∧ w ∈ bs x ∧ s.num w ≠ 0 ∧ s.num w = s.low v
 cutT : ∀ u, s.cut u = true → u ≠ root ∧ s.num u ≠ 0 ∧ ∃ c, s.num c ≠ 0 ∧ c ≠ u ∧ ¬ Con bs (Av n gone u) root c
 cutF : ∀ u, u ≠ root → s.Black u → s.cut u = false → ∀ x, s.num x ≠ 0 → x ≠ u → Con bs (Av n gone u) root x
 cutS : ∀ u ∈ s.stack, u ≠ root → s.cut u = false → ∀ x, s.Black x → s.InB u x → Con bs (Av n gone u) root x
 kids0 : s.kids = 0 → ∀ x, x ≠ root → s.Black x → ¬ s.InB root x
 kids1 : s.kids = 1 → ∃ c, c ≠ root ∧ s.Black c ∧ s.InB root c ∧ ∀ x, x ≠ root → s.Black x → s.InB root x → Con bs (Av n gone root) c x
 kids2 : 2 ≤ s.kids → ∃ c d, s.num c ≠ 0 ∧ s.num d ≠ 0 ∧ c ≠ root ∧ d ≠ root ∧ ¬ Con bs (Av n gone root) c d
section
variable {n : Nat} {bs : Nat → List Nat} {gone : Int} {root : Nat} {s : CS}
theorem CT.le_top (h : CT n bs gone root s) {v : Nat} {r : List Nat} (hs : s.stack = v :: r) {u : Nat} (hu : u ∈ s.stack) : s.num u ≤ s.num v := by
 have h1 := h.stS; rw [hs] at h1 hu
 rcases List.mem_cons.1 hu with rfl | hu
 · exact Nat.le_refl _
 · exact Nat.le_of_lt ((List.pairwise_cons.1 h1).1 u hu)
theorem CT.topIn (h : CT n bs gone root s) {v : Nat} {r : List Nat} (hs : s.stack = v :: r) {x : Nat} (hx : s.num v ≤ s.num x) : s.InB v x :=
 ⟨hx, fun u hu hlt => by have := h.le_top hs hu; omega⟩
theorem CT.full' (h : CT n bs gone root s) {x w : Nat} (hx : s.Black x) (hw : w ∈ bs x) : s.Ex bs x w := by
 obtain ⟨i, hi, e⟩ := List.getElem_of_mem hw
 exact ⟨i, by rw [h.full x hx]; exact hi, by rw [List.getElem?_eq_getElem hi, e]⟩
theorem CT.above (h : CT n bs gone root s) {v : Nat} {r : List Nat} (hs : s.stack = v :: r) {x : Nat} (hx : s.num v < s.num x) : s.Black x :=
 ⟨by omega, fun hx' => by have := h.le_top hs hx'; omega⟩
def CS.skip (s : CS) (v : Nat) : CS := { s with at_ := upd s.at_ v (s.at_ v + 1) }
def CS.exam (s : CS) (v w : Nat) : CS := { s with at_ := upd s.at_ v (s.at_ v + 1), low := upd s.low v (min (s.low v) (s.num w)) }
def CS.disc (s : CS) (v w : Nat) : CS :=
 { s with at_ := upd s.at_ v (s.at_ v + 1), num := upd s.num w (s.met + 1), low := upd s.low w (s.met + 1), up := upd s.up w v, stack := w :: s.stack, met := s.met + 1 }
theorem Ex_inc {v w0 : Nat} (hw : (bs v)[s.at_ v]? = some w0) {at' : Nat → Nat} (e : at' = upd s.at_ v (s.at_ v + 1)) {x w : Nat} (h : ∃ i, i < at' x ∧ (bs x)[i]? = some w) : s.Ex bs x w ∨ (x = v ∧ w = w0) := by
 obtain ⟨i, hi, hg⟩ := h
 subst e
 by_cases hx : x = v
 ·
  subst hx
  rw [upd_same] at hi
  by_cases h2 : i = s.at_ x
  · subst h2; rw [hw] at hg; cases hg; exact .inr ⟨rfl, rfl⟩
  · exact .inl ⟨i, by omega, hg⟩
 ·
  rw [upd_ne _ _ hx] at hi
  exact .inl ⟨i, hi, hg⟩
theorem at_le {v w0 : Nat} (h : CT n bs gone root s) (hw : (bs v)[s.at_ v]? = some w0) (x : Nat) : upd s.at_ v (s.at_ v + 1) x ≤ (bs x).length := by
 by_cases hx : x = v
 · subst hx; rw [upd_same]; exact (List.getElem?_eq_some_iff.1 hw).1
 · rw [upd_ne _ _ hx]; exact h.atLe x
theorem CT.skipLike (h : CT n bs gone root s) {v w : Nat} {r : List Nat} (hs : s.stack = v :: r) (hw : (bs v)[s.at_ v]? = some w) (hn : Pres n gone w → s.num w ≠ 0) (low : Nat → Nat) :
  CT n bs gone root { s with at_ := upd s.at_ v (s.at_ v + 1), low := low } where
 numP := h.numP
 numle := h.numle
 inj := h.inj
 root1 := h.root1
 ord := h.ord
 stV := h.stV
 stS := h.stS
 chain := h.chain
 atLe := at_le h hw
 at0 x hx := by
  by_cases e : x = v
  · subst e; exact absurd hx (h.stV x (by rw [hs]; simp))
  ·
   show upd s.at_ v _ x = 0; rw [upd_ne _ _ e]; exact h.at0 x hx
 seen x y hx hy := by
  rcases Ex_inc hw rfl hx with h1 | ⟨rfl, rfl⟩
  · exact h.seen x y h1 hy
  · exact hn hy
 full x hx := by
  have e : x ≠ v := fun e => hx.2 (by show x ∈ s.stack; rw [hs]; simp [e])
  show upd s.at_ v _ x = _
  rw [upd_ne _ _ e]; exact h.full x hx
 b1 := h.b1
 tree := h.tree
 pth := h.pth
theorem CL.skip (h : CL n bs gone root s) {v w : Nat} (hw : (bs v)[s.at_ v]? = some w) (hn : ¬ Pres n gone w) : CL n bs gone root (s.skip v) :=
 { h with
  lb := fun u hu x y hx he hy => by
   rcases Ex_inc hw rfl he with h1 | ⟨rfl, rfl⟩
   · exact h.lb u hu x y hx h1 hy
   · exact absurd hy hn }
theorem CL.exam (ht : CT n bs gone root s) (h : CL n bs gone root s) {v w : Nat} {r : List Nat} (hs : s.stack = v :: r) (hw : (bs v)[s.at_ v]? = some w) (hn : s.num w ≠ 0) : CL n bs gone root (s.exam v w) := by
 have hlow : ∀ u, (s.exam v w).low u ≤ s.low u := by
  intro u
  show upd s.low v _ u ≤ _
  by_cases e : u = v
  · subst e; rw [upd_same]; exact Nat.min_le_left _ _
  · rw [upd_ne _ _ e]; exact Nat.le_refl _
 have hv : v ∈ s.stack := by rw [hs]; simp
 exact { h with
  lowle := fun u hu => Nat.le_trans (hlow u) (h.lowle u hu)
  lb := fun u hu x y hx he hy => by
   rcases Ex_inc hw rfl he with h1 | ⟨rfl, rfl⟩
   · exact Nat.le_trans (hlow u) (h.lb u hu x y hx h1 hy)
   ·
    by_cases e : u = x
    ·
     subst e; show upd s.low u _ u ≤ _; rw [upd_same]; exact Nat.min_le_right _ _
    ·
     exfalso; have h1 := hx.2 x hv; have h2 := ht.le_top hs hu; have h3 : s.num u ≠ s.num x := fun e' => e (ht.inj u x (ht.stV u hu) e'); have := h1 (by show s.num u < s.num x; omega); exact absurd this (Nat.lt_irrefl _)
  att := fun u hu => by
   by_cases e : u = v
   ·
    subst e; show upd s.low u _ u = s.num u ∨ _; rw [upd_same]; by_cases hlt : s.low u ≤ s.num w
    ·
     rw [Nat.min_eq_left hlt]; rcases h.att u hu with h1 | ⟨x, y, h1, h2, h3, h4⟩
     · exact .inl h1
     · exact .inr ⟨x, y, h1, h2, h3, by show _ = upd s.low u _ u; rw [upd_same, Nat.min_eq_left hlt]; exact h4⟩
    ·
     rw [Nat.min_eq_right (by omega)]; exact .inr ⟨u, w, ht.topIn hs (Nat.le_refl _), List.mem_of_getElem? hw, hn, by show s.num w = upd s.low u _ u; rw [upd_same, Nat.min_eq_right (by omega)]⟩
   ·
    rcases h.att u hu with h1 | ⟨x, y, h1, h2, h3, h4⟩
    · exact .inl (by show upd s.low v _ u = _; rw [upd_ne _ _ e]; exact h1)
    · exact .inr ⟨x, y, h1, h2, h3, by show _ = upd s.low v _ u; rw [upd_ne _ _ e]; exact h4⟩ }
section disc
variable {v w : Nat} {r : List Nat} (ht : CT n bs gone root s) (hs : s.stack = v :: r) (hw : (bs v)[s.at_ v]? = some w) (hp : Pres n gone w) (hn : s.num w = 0)
include ht hs hw hp hn
theorem CT.disc : CT n bs gone root (s.disc v w) := by
 have hv : v ∈ s.stack := by rw [hs]; simp
 have hvn := ht.stV v hv
 have hvw : v ≠ w := fun e => hvn (e ▸ hn)
 have hwst : ∀ u ∈ s.stack, u ≠ w := fun u hu e => ht.stV u hu (e ▸ hn)
 have nw : (s.disc v w).num w = s.met + 1 := upd_same _ _ _
 have no : ∀ x, x ≠ w → (s.disc v w).num x = s.num x := fun x hx => upd_ne _ _ hx
 have nle : ∀ x, s.num x ≤ (s.disc v w).num x := by
  intro x
  by_cases e : x = w
  · subst e; omega
  · rw [no x e]; exact Nat.le_refl _
 have nz : ∀ x, (s.disc v w).num x ≠ 0 → x = w ∨ s.num x ≠ 0 := fun x hx => by
  by_cases e : x = w
  · exact .inl e
  · rw [no x e] at hx; exact .inr hx
 have hle := ht.numle
 have bl : ∀ x, (s.disc v w).Black x → s.Black x := fun x hx => by
  have e : x ≠ w := fun e => hx.2 (by show x ∈ w :: s.stack; simp [e])
  exact ⟨by have := hx.1; rwa [no x e] at this, fun h => hx.2 (by show x ∈ w :: s.stack; simp [h])⟩
 have blw : ∀ x, (s.disc v w).Black x → x ≠ w := fun x hx e => hx.2 (by show x ∈ w :: s.stack; simp [e])
 refine ⟨?_, ?_, ?_, ?_, ?_, ?_, ?_, ?_, at_le ht hw, ?_, ?_, ?_, ?_, ?_, ?_⟩
 ·
  intro x hx
  rcases nz x hx with rfl | h
  · exact hp
  · exact ht.numP x h
 ·
  intro x
  show _ ≤ s.met + 1
  by_cases e : x = w
  · subst e; omega
  · rw [no x e]; have := hle x; omega
 ·
  intro x y hx e
  by_cases ex : x = w
  ·
   by_cases ey : y = w
   · rw [ex, ey]
   · rw [ex, nw, no y ey] at e; have := hle y; omega
  ·
   by_cases ey : y = w
   · rw [ey, nw, no x ex] at e; have := hle x; omega
   · rw [no x ex] at hx e; rw [no y ey] at e; exact ht.inj x y hx e
 · rw [no root fun e => by have := ht.root1; rw [e, hn] at this; cases this]; exact ht.root1
 ·
  obtain ⟨o, h1, h2, h3⟩ := ht.ord
  refine ⟨w :: o, List.nodup_cons.2 ⟨fun h => (h3 w).1 h hn, h1⟩, by simp [CS.disc, h2], fun x => ?_⟩
  rw [List.mem_cons, h3]
  by_cases e : x = w
  · subst e; simp [nw]
  · rw [no x e]; simp [e]
 ·
  intro u hu
  rcases List.mem_cons.1 hu with rfl | hu
  · omega
  · rw [no u (hwst u hu)]; exact ht.stV u hu
 ·
  show (w :: s.stack).Pairwise _
  rw [List.pairwise_cons]
  refine ⟨fun u hu => by rw [nw, no u (hwst u hu)]; have := hle u; omega, ?_⟩
  refine ht.stS.imp_of_mem fun {a b} ha hb hab => ?_
  rw [no a (hwst a ha), no b (hwst b hb)]; exact hab
 ·
  show Stk (upd s.up w v) root (w :: s.stack)
  have hc : Stk (upd s.up w v) root s.stack := ht.chain.congr fun a ha => upd_ne _ _ (hwst a ha)
  rw [hs] at hc ⊢
  exact ⟨upd_same _ _ _, hc⟩
 ·
  intro x hx
  have e : x ≠ w := fun e => by subst e; omega
  rw [no x e] at hx
  show upd s.at_ v _ x = 0
  rw [upd_ne _ _ (fun (e : x = v) => hvn (by rw [← e]; exact hx))]; exact ht.at0 x hx
 ·
  intro x y hx hy
  rcases Ex_inc hw rfl hx with h1 | ⟨rfl, rfl⟩
  · have := ht.seen x y h1 hy; have := nle y; omega
  · omega
 ·
  intro x hx
  have e : x ≠ v := fun e => (bl x hx).2 (by rw [e]; exact hv)
  show upd s.at_ v _ x = _
  rw [upd_ne _ _ e]; exact ht.full x (bl x hx)
 ·
  intro x u hx hu hlt y hy hyp
  have hxb := bl x hx
  have hys := ht.seen x y (ht.full' hxb hy) hyp
  have eyw : y ≠ w := fun e => hys (e ▸ hn)
  rw [no y eyw]
  rcases List.mem_cons.1 hu with rfl | hu
  · rw [nw]; have := hle y; omega
  ·
   rw [no u (hwst u hu)] at hlt ⊢; rw [no x (blw x hx)] at hlt; exact ht.b1 x u hxb hu hlt y hy hyp
 ·
  intro u hu x hx
  rcases List.mem_cons.1 hu with rfl | hus
  ·
   have e : x = u := by
    refine Classical.byContradiction fun e => ?_; rw [no x e, nw] at hx; have := hle x; omega
   subst e; exact .refl ⟨hp, Nat.le_refl _⟩
  ·
   have huw := hwst u hus; rw [no u huw] at hx ⊢; have mono : ∀ a, (Pres n gone a ∧ s.num u ≤ s.num a) → (Pres n gone a ∧ s.num u ≤ (s.disc v w).num a) := fun a ⟨h1, h2⟩ => ⟨h1, Nat.le_trans h2 (nle a)⟩
   by_cases e : x = w
   ·
    subst e; exact ((ht.tree u hus v (ht.le_top hs hus)).mono mono).step (List.mem_of_getElem? hw) ⟨hp, by rw [nw]; have := hle u; omega⟩
   ·
    rw [no x e] at hx; exact (ht.tree u hus x hx).mono mono
 ·
  intro x hx
  have mono : ∀ z, s.num z ≠ 0 → ∀ a, (Pres n gone a ∧ s.num a ≠ 0 ∧ s.num a ≤ s.num z) → (Pres n gone a ∧ (s.disc v w).num a ≠ 0 ∧ (s.disc v w).num a ≤ s.num z) := fun z _ a ⟨h1, h2, h3⟩ => by
   have e : a ≠ w := fun e => h2 (e ▸ hn); rw [no a e]; exact ⟨h1, h2, h3⟩
  rcases nz x hx with rfl | h
  · refine (((ht.pth v hvn).mono (mono v hvn)).mono fun a ⟨h1, h2, h3⟩ => ⟨h1, h2, by rw [nw]; have := hle v; omega⟩).step (List.mem_of_getElem? hw) ⟨hp, by omega, Nat.le_refl _⟩
  ·
   rw [no x fun e => h (e ▸ hn)]; exact (ht.pth x h).mono (mono x h)
theorem CL.disc (h : CL n bs gone root s) : CL n bs gone root (s.disc v w) := by
 have hv : v ∈ s.stack := by rw [hs]; simp
 have hvn := ht.stV v hv
 have hwst : ∀ u ∈ s.stack, u ≠ w := fun u hu e => ht.stV u hu (e ▸ hn)
 have nw : (s.disc v w).num w = s.met + 1 := upd_same _ _ _
 have no : ∀ x, x ≠ w → (s.disc v w).num x = s.num x := fun x hx => upd_ne _ _ hx
 have lw : (s.disc v w).low w = s.met + 1 := upd_same _ _ _
 have lo : ∀ x, x ≠ w → (s.disc v w).low x = s.low x := fun x hx => upd_ne _ _ hx
 have nz : ∀ x, s.num x ≠ 0 → x ≠ w := fun x hx e => hx (e ▸ hn)
 have hle := ht.numle
 have hrw : root ≠ w := nz root (by have := ht.root1; omega)
 have bl : ∀ x, (s.disc v w).Black x → s.Black x ∧ x ≠ w := fun x hx => by
  have e : x ≠ w := fun e => hx.2 (by show x ∈ w :: s.stack; simp [e])
  exact ⟨⟨by have := hx.1; rwa [no x e] at this, fun h => hx.2 (by show x ∈ w :: s.stack; simp [h])⟩, e⟩
 have bl2 : ∀ x, s.Black x → (s.disc v w).Black x := fun x hx => by
  have e := nz x hx.1
  refine ⟨by rw [no x e]; exact hx.1, fun h => ?_⟩
  rcases List.mem_cons.1 h with h | h
  · exact e h
  · exact hx.2 h
 have inb : ∀ u x, u ≠ w → x ≠ w → (s.disc v w).InB u x → s.InB u x := fun u x hu hx hb => by
  have h1 := hb.1; rw [no u hu, no x hx] at h1
  refine ⟨h1, fun z hz hlt => ?_⟩
  have h2 := hb.2 z (by show z ∈ w :: s.stack; simp [hz])
  rw [no u hu, no x hx, no z (hwst z hz)] at h2
  exact h2 hlt
 have inb2 : ∀ u x, u ≠ w → s.num x ≠ 0 → s.InB u x → (s.disc v w).InB u x := fun u x hu hx hb => by
  refine ⟨by rw [no u hu, no x (nz x hx)]; exact hb.1, fun z hz hlt => ?_⟩
  rw [no x (nz x hx)]
  rcases List.mem_cons.1 hz with rfl | hz
  · rw [nw]; have := hle x; omega
  ·
   rw [no u hu, no z (hwst z hz)] at hlt; rw [no z (hwst z hz)]; exact hb.2 z hz hlt
 have inw : ∀ u, u ∈ s.stack → ¬ (s.disc v w).InB u w := fun u hu hb => by
  have h2 := hb.2 w (by show w ∈ w :: s.stack; simp)
  rw [no u (hwst u hu)] at h2
  have := h2 (by rw [nw]; have := hle u; omega)
  omega
 have hx0 : ∀ y, ¬ s.Ex bs w y := fun y ⟨i, hi, _⟩ => by rw [ht.at0 w hn] at hi; omega
 refine ⟨?_, ?_, ?_, ?_, ?_, ?_, ?_, ?_, ?_⟩
 ·
  intro u hu
  rcases List.mem_cons.1 hu with rfl | hu
  · omega
  · rw [no u (hwst u hu), lo u (hwst u hu)]; exact h.lowle u hu
 ·
  intro u hu x y hx he hy
  rcases Ex_inc hw rfl he with h1 | ⟨rfl, rfl⟩
  ·
   have hys := ht.seen x y h1 hy; have hxw : x ≠ w := fun e => hx0 y (e ▸ h1); rw [no y (nz y hys)]; rcases List.mem_cons.1 hu with rfl | hu
   ·
    exfalso; have := hx.1; rw [nw, no x hxw] at this; have := hle x; omega
   ·
    rw [lo u (hwst u hu)]; exact h.lb u hu x y (inb u x (hwst u hu) hxw hx) h1 hy
  ·
   rw [nw]; rcases List.mem_cons.1 hu with rfl | hu
   · omega
   ·
    rw [lo u (hwst u hu)]; have := h.lowle u hu; have := hle u; omega
 ·
  intro u hu
  rcases List.mem_cons.1 hu with rfl | hu
  · exact .inl (by rw [lw, nw])
  ·
   rw [lo u (hwst u hu), no u (hwst u hu)]; rcases h.att u hu with h1 | ⟨x, y, h1, h2, h3, h4⟩
   · exact .inl h1
   ·
    refine .inr ⟨x, y, inb2 u x (hwst u hu) (fun e => ?_) h1, h2, by rw [no y (nz y h3)]; exact h3, by rw [no y (nz y h3)]; exact h4⟩; have := h1.1; have := ht.stV u hu; omega
 ·
  intro u hu
  obtain ⟨h1, h2, c, h3, h4, h5⟩ := h.cutT u hu
  exact ⟨h1, by rw [no u (nz u h2)]; exact h2, c, by rw [no c (nz c h3)]; exact h3, h4, h5⟩
 ·
  intro u hu hb hc x hx hxu
  obtain ⟨hb', huw⟩ := bl u hb
  by_cases e : x = w
  ·
   subst e; have hvu : v ≠ u := fun e => hb'.2 (e ▸ hv); exact (h.cutF u hu hb' hc v hvn hvu).step (List.mem_of_getElem? hw) ⟨hp, hxu⟩
  ·
   rw [no x e] at hx; exact h.cutF u hu hb' hc x hx hxu
 ·
  intro u hu hur hc x hx hin
  obtain ⟨hx', hxw⟩ := bl x hx
  rcases List.mem_cons.1 hu with rfl | hu
  ·
   exfalso; have := hin.1; rw [nw, no x hxw] at this; have := hle x; omega
  · exact h.cutS u hu hur hc x hx' (inb u x (hwst u hu) hxw hin)
 ·
  intro hk x hxr hx hin
  obtain ⟨hx', hxw⟩ := bl x hx
  exact h.kids0 hk x hxr hx' (inb root x hrw hxw hin)
 ·
  intro hk
  obtain ⟨c, h1, h2, h3, h4⟩ := h.kids1 hk
  refine ⟨c, h1, bl2 c h2, inb2 root c hrw h2.1 h3, fun x hxr hx hin => ?_⟩
  obtain ⟨hx', hxw⟩ := bl x hx
  exact h4 x hxr hx' (inb root x hrw hxw hin)
 ·
  intro hk
  obtain ⟨c, d, h1, h2, h3⟩ := h.kids2 hk
  exact ⟨c, d, by rw [no c (nz c h1)]; exact h1, by rw [no d (nz d h2)]; exact h2, h3⟩
end disc
end
end Go.Proofs.YtagcbnpahgfgmaaGreat
namespace Go.Proofs.YtagcbnpahgfgmaaGreat
def CS.pop (s : CS) (v u root : Nat) : CS :=
 { s with stack := s.stack.tail, low := upd s.low u (min (s.low u) (s.low v)), kids := (if u = root then s.kids + 1 else s.kids), cut := (if u ≠ root ∧ s.num u ≤ s.low v then upd s.cut u true else s.cut) }
def CS.drop (s : CS) : CS := { s with stack := s.stack.tail }
section
variable {n : Nat} {bs : Nat → List Nat} {gone : Int} {root : Nat} {s : CS}
theorem CT.two (h : CT n bs gone root s) {v : Nat} {r : List Nat} (hs : s.stack = v :: r) (hv : v ≠ root) : ∃ u r', r = u :: r' ∧ s.up v = u ∧ s.num u < s.num v := by
 have h1 := h.chain; rw [hs] at h1
 cases r with
 | nil => exact absurd h1 hv
 | cons u r' =>
  refine ⟨u, r', rfl, h1.1, ?_⟩
  have := h.stS; rw [hs] at this
  exact (List.pairwise_cons.1 this).1 u (by simp)
theorem stk_root (up : Nat → Nat) (root : Nat) : ∀ l : List Nat, l ≠ [] → Stk up root l → root ∈ l := by
 intro l
 induction l with
 | nil => intro h; exact absurd rfl h
 | cons a l ih =>
  intro _ h
  cases l with
  | nil => have : a = root := h; simp [this]
  | cons b l => have := ih (by simp) h.2; simp only [List.mem_cons] at this ⊢; exact .inr this
theorem CT.rootIn (h : CT n bs gone root s) {v : Nat} {r : List Nat} (hs : s.stack = v :: r) : root ∈ s.stack := stk_root s.up root _ (by rw [hs]; simp) h.chain
theorem CT.popLike (ht : CT n bs gone root s) {v : Nat} {r : List Nat} (hs : s.stack = v :: r) (hat : s.at_ v = (bs v).length) (low : Nat → Nat) (kids : Nat) (cut : Nat → Bool) :
  CT n bs gone root { s with stack := r, low := low, kids := kids, cut := cut } := by
 have hmem : ∀ u, u ∈ r → u ∈ s.stack := fun u hu => by rw [hs]; simp [hu]
 have hb : ∀ x, (s.num x ≠ 0 ∧ x ∉ r) → x = v ∨ s.Black x := fun x hx => by
  by_cases e : x = v
  · exact .inl e
  · exact .inr ⟨hx.1, by rw [hs]; simp only [List.mem_cons, not_or]; exact ⟨e, hx.2⟩⟩
 exact {
  numP := ht.numP
  numle := ht.numle
  inj := ht.inj
  root1 := ht.root1
  ord := ht.ord
  stV := fun u hu => ht.stV u (hmem u hu)
  stS := by have := ht.stS; rw [hs] at this; exact (List.pairwise_cons.1 this).2
  chain := by have := ht.chain; rw [hs] at this; exact this.tail
  atLe := ht.atLe
  at0 := ht.at0
  seen := ht.seen
  full := fun x hx => by
   rcases hb x hx with rfl | h
   · exact hat
   · exact ht.full x h
  b1 := fun x u hx hu hlt y hy hp => by
   rcases hb x hx with rfl | h
   ·
    exfalso; have := ht.stS; rw [hs] at this; have h1 := (List.pairwise_cons.1 this).1 u hu; have h2 : s.num x < s.num u := hlt; omega
   · exact ht.b1 x u h (hmem u hu) hlt y hy hp
  tree := fun u hu => ht.tree u (hmem u hu)
  pth := ht.pth }
variable (ht : CT n bs gone root s) (hl : CL n bs gone root s) (hsy : ∀ a b, b ∈ bs a → a ∈ bs b) {v u : Nat} {r : List Nat} (hs : s.stack = v :: u :: r) (hat : s.at_ v = (bs v).length)
include ht hl hsy hs hat
theorem pop_out {y z : Nat} (hy : s.num v ≤ s.num y) (hz : z ∈ bs y) (hp : Pres n gone z) (hlt : s.num z < s.num v) : z ∈ u :: r ∧ s.low v ≤ s.num z := by
 have hv : v ∈ s.stack := by rw [hs]; simp
 have hvn := ht.stV v hv
 have hex : s.Ex bs y z := by
  by_cases e : y = v
  ·
   subst e; obtain ⟨i, hi, e⟩ := List.getElem_of_mem hz; exact ⟨i, by rw [hat]; exact hi, by rw [List.getElem?_eq_getElem hi, e]⟩
  ·
   refine ht.full' (ht.above hs ?_) hz; have : s.num v ≠ s.num y := fun e' => e (ht.inj v y hvn e').symm; omega
 have hzn := ht.seen y z hex hp
 refine ⟨?_, hl.lb v hv y z (ht.topIn hs hy) hex hp⟩
 refine Classical.byContradiction fun hnot => ?_
 have hzb : s.Black z := ⟨hzn, by rw [hs]; simp only [List.mem_cons, not_or] at hnot ⊢; exact ⟨fun e => by subst e; omega, hnot⟩⟩
 have := ht.b1 z v hzb hv hlt y (hsy _ _ hz) (ht.numP y (by omega))
 omega
theorem CL.pop : CL n bs gone root (s.pop v u root) := by
 have hv : v ∈ s.stack := by rw [hs]; simp
 have hu : u ∈ s.stack := by rw [hs]; simp
 have hvn := ht.stV v hv
 have hun := ht.stV u hu
 have hstk : (s.pop v u root).stack = u :: r := by show s.stack.tail = _; rw [hs]; rfl
 have hst := ht.stS; rw [hs, List.pairwise_cons, List.pairwise_cons] at hst
 have huv : s.num u < s.num v := hst.1 u (by simp)
 have hr : ∀ z ∈ r, s.num z < s.num u := hst.2.1
 have hmem : ∀ z, z ∈ u :: r → z ∈ s.stack := fun z hz => by rw [hs]; exact List.mem_cons_of_mem _ hz
 have hrv : root ≠ v := fun e => by have := ht.root1; rw [e] at this; omega
 have hu1 : s.num root ≤ s.num u := by have := ht.root1; omega
 have nm : ∀ x, (s.pop v u root).num x = s.num x := fun _ => rfl
 have hb : ∀ x, (s.pop v u root).Black x → x = v ∨ s.Black x := fun x hx => by
  by_cases e : x = v
  · exact .inl e
  ·
   refine .inr ⟨hx.1, fun h => hx.2 ?_⟩; rw [hstk]; rw [hs] at h; rcases List.mem_cons.1 h with h | h
   · exact absurd h e
   · exact h
 have hb2 : ∀ x, s.Black x → (s.pop v u root).Black x := fun x hx => ⟨hx.1, fun h => hx.2 (hmem x (by rw [← hstk]; exact h))⟩
 have hbv : (s.pop v u root).Black v := ⟨hvn, fun h => by
  rw [hstk] at h
  rcases List.mem_cons.1 h with h | h
  · rw [← h] at huv; omega
  · have := hr v h; omega⟩
 have inb2 : ∀ z x, s.InB z x → (s.pop v u root).InB z x := fun z x h => ⟨h.1, fun a ha => h.2 a (hmem a (by rw [← hstk]; exact ha))⟩
 have inb : ∀ z ∈ u :: r, ∀ x, (s.pop v u root).InB z x → s.InB z x ∨ (z = u ∧ s.num v ≤ s.num x) := fun z hz x h => by
  by_cases hvx : s.num v ≤ s.num x
  ·
   rcases List.mem_cons.1 hz with e | hz
   · exact .inr ⟨e, hvx⟩
   ·
    exfalso; have h1 := h.2 u (by rw [hstk]; simp) (hr z hz); have h2 : s.num x < s.num u := h1; omega
  ·
   refine .inl ⟨h.1, fun a ha hlt => ?_⟩; rw [hs] at ha; rcases List.mem_cons.1 ha with rfl | ha
   · omega
   · exact h.2 a (by rw [hstk]; exact ha) hlt
 have low1 : ∀ z, z ≠ u → (s.pop v u root).low z = s.low z := fun z hz => upd_ne _ _ hz
 have lowu : (s.pop v u root).low u = min (s.low u) (s.low v) := upd_same _ _ _
 have lowle : ∀ z, (s.pop v u root).low z ≤ s.low z := fun z => by
  by_cases e : z = u
  · subst e; rw [lowu]; exact Nat.min_le_left _ _
  · rw [low1 z e]; exact Nat.le_refl _
 have tr : ∀ x, s.num v ≤ s.num x → Con bs (Av n gone u) v x := fun x hx =>
  (ht.tree v hv x hx).mono fun a ⟨h1, h2⟩ => ⟨h1, fun e => by subst e; omega⟩
 have sep : s.num u ≤ s.low v → ∀ x, Con bs (Av n gone u) v x → s.num v ≤ s.num x := fun hlow x hx => by
  refine hx.closed (fun y => s.num v ≤ s.num y) (fun y z hy hz hp => ?_) (Nat.le_refl _)
  refine Classical.byContradiction fun hnot => ?_
  obtain ⟨h1, h2⟩ := pop_out ht hl hsy hs hat hy hz hp.1 (by omega)
  rcases List.mem_cons.1 h1 with e | h1
  · exact hp.2 e
  · have := hr z h1; omega
 have sepR : u = root → ∀ x, Con bs (Av n gone root) v x → s.num v ≤ s.num x := fun hur x hx => by
  have hrn : r = [] := by
   cases r with
   | nil => rfl
   | cons a r' =>
    have h1 := hr a (by simp); have h2 := ht.stV a (by rw [hs]; simp); have := ht.root1; rw [hur] at h1; omega
  refine hx.closed (fun y => s.num v ≤ s.num y) (fun y z hy hz hp => ?_) (Nat.le_refl _)
  refine Classical.byContradiction fun hnot => ?_
  obtain ⟨h1, _⟩ := pop_out ht hl hsy hs hat hy hz hp.1 (by omega)
  rw [hrn] at h1
  simp at h1
  exact hp.2 (h1.trans hur)
 refine ⟨?_, ?_, ?_, ?_, ?_, ?_, ?_, ?_, ?_⟩
 ·
  intro z hz
  rw [hstk] at hz
  exact Nat.le_trans (lowle z) (hl.lowle z (hmem z hz))
 ·
  intro z hz x w hx he hp
  rw [hstk] at hz
  rcases inb z hz x hx with h | ⟨rfl, h⟩
  · exact Nat.le_trans (lowle z) (hl.lb z (hmem z hz) x w h he hp)
  ·
   rw [lowu]; exact Nat.le_trans (Nat.min_le_right _ _) (hl.lb v hv x w (ht.topIn hs h) he hp)
 ·
  intro z hz
  rw [hstk] at hz
  by_cases e : z = u
  ·
   subst e; rw [lowu]; by_cases hmin : s.low z ≤ s.low v
   ·
    rw [Nat.min_eq_left hmin]; rcases hl.att z hu with h1 | ⟨x, y, h1, h2, h3, h4⟩
    · exact .inl h1
    · exact .inr ⟨x, y, inb2 z x h1, h2, h3, h4⟩
   ·
    rw [Nat.min_eq_right (by omega)]; rcases hl.att v hv with h1 | ⟨x, y, h1, h2, h3, h4⟩
    · have := hl.lowle z hu; omega
    ·
     refine .inr ⟨x, y, ⟨?_, fun a ha hlt => ?_⟩, h2, h3, h4⟩
     · have := h1.1; show s.num z ≤ s.num x; omega
     ·
      rw [hstk] at ha; rcases List.mem_cons.1 ha with rfl | ha
      · exact absurd hlt (Nat.lt_irrefl _)
      ·
       have h5 := hr a ha; have h6 : s.num z < s.num a := hlt; omega
  ·
   rw [low1 z e]; rcases hl.att z (hmem z hz) with h1 | ⟨x, y, h1, h2, h3, h4⟩
   · exact .inl h1
   · exact .inr ⟨x, y, inb2 z x h1, h2, h3, h4⟩
 ·
  intro z hz
  by_cases hc : u ≠ root ∧ s.num u ≤ s.low v
  ·
   have e1 : (s.pop v u root).cut = upd s.cut u true := if_pos hc; rw [e1] at hz; by_cases e : z = u
   ·
    subst e; refine ⟨hc.1, hun, v, hvn, fun e => by subst e; omega, fun hcon => ?_⟩; have := sep hc.2 root (hcon.symm hsy); have := ht.root1; omega
   · rw [upd_ne _ _ e] at hz; exact hl.cutT z hz
  ·
   have e1 : (s.pop v u root).cut = s.cut := if_neg hc; rw [e1] at hz; exact hl.cutT z hz
 ·
  intro z hzr hzb hzc x hx hxz
  rcases hb z hzb with rfl | hzb
  ·
   have hc' : s.cut z = false := by
    by_cases hc : u ≠ root ∧ s.num u ≤ s.low z
    ·
     have e1 : (s.pop z u root).cut = upd s.cut u true := if_pos hc; rw [e1, upd_ne _ _ (fun (e : z = u) => by rw [e] at huv; omega)] at hzc; exact hzc
    ·
     have e1 : (s.pop z u root).cut = s.cut := if_neg hc; rw [e1] at hzc; exact hzc
   have hx' : s.num x ≠ 0 := hx; by_cases hlt : s.num x < s.num z
   · exact (ht.pth x hx').mono fun a ⟨h1, h2, h3⟩ => ⟨h1, fun e => by subst e; omega⟩
   ·
    have hne : s.num z ≠ s.num x := fun e' => hxz (ht.inj z x hvn e').symm; exact hl.cutS z hv hzr hc' x (ht.above hs (by omega)) (ht.topIn hs (by omega))
  ·
   have hzu : z ≠ u := fun e => hzb.2 (by rw [e]; exact hu); have hc' : s.cut z = false := by
    by_cases hc : u ≠ root ∧ s.num u ≤ s.low v
    ·
     have e1 : (s.pop v u root).cut = upd s.cut u true := if_pos hc; rw [e1, upd_ne _ _ hzu] at hzc; exact hzc
    ·
     have e1 : (s.pop v u root).cut = s.cut := if_neg hc; rw [e1] at hzc; exact hzc
   exact hl.cutF z hzr hzb hc' x hx hxz
 ·
  intro z hz hzr hzc x hxb hin
  rw [hstk] at hz
  by_cases e : z = u
  ·
   subst e; have hlow : s.low v < s.num z := by
    refine Classical.byContradiction fun hnot => ?_; have e1 : (s.pop v z root).cut = upd s.cut z true := if_pos ⟨hzr, by omega⟩; rw [e1, upd_same] at hzc; cases hzc
   have hc' : s.cut z = false := by
    have e1 : (s.pop v z root).cut = s.cut := if_neg fun h => by omega
    rw [e1] at hzc; exact hzc
   rcases inb z hz x hin with h | ⟨_, h⟩
   ·
    have hxv : x ≠ v := fun e => by
     subst e; have := h.2 x hv huv; omega
    rcases hb x hxb with e | hxb
    · exact absurd e hxv
    · exact hl.cutS z hu hzr hc' x hxb h
   ·
    rcases hl.att v hv with h1 | ⟨y, w, h1, h2, h3, h4⟩
    · omega
    ·
     have c1 : Con bs (Av n gone z) root w := (ht.pth w h3).mono fun a ⟨k1, k2, k3⟩ => ⟨k1, fun e => by subst e; omega⟩
     have hyn : s.num y ≠ 0 := by have := h1.1; omega
     have c2 : Con bs (Av n gone z) root y := c1.step (hsy _ _ h2) ⟨ht.numP y hyn, fun e => by subst e; have := h1.1; omega⟩; exact (c2.trans ((tr y h1.1).symm hsy)).trans (tr x h)
  ·
   have hc' : s.cut z = false := by
    by_cases hc : u ≠ root ∧ s.num u ≤ s.low v
    ·
     have e1 : (s.pop v u root).cut = upd s.cut u true := if_pos hc; rw [e1, upd_ne _ _ e] at hzc; exact hzc
    ·
     have e1 : (s.pop v u root).cut = s.cut := if_neg hc; rw [e1] at hzc; exact hzc
   rcases inb z hz x hin with h | ⟨h, _⟩
   ·
    have hzv : s.num z < s.num v := by
     rcases List.mem_cons.1 hz with e' | hz
     · exact absurd e' e
     · have := hr z hz; omega
    rcases hb x hxb with e' | hxb
    ·
     subst e'; have := h.2 x hv hzv; omega
    · exact hl.cutS z (hmem z hz) hzr hc' x hxb h
   · exact absurd h e
 ·
  intro hk x hxr hxb hin
  have hur : u ≠ root := fun e => by
   have e1 : (s.pop v u root).kids = s.kids + 1 := if_pos e; omega
  have e1 : (s.pop v u root).kids = s.kids := if_neg hur
  rw [e1] at hk
  have hri : root ∈ u :: r := by
   have := ht.rootIn hs; rw [hs] at this; rcases List.mem_cons.1 this with h | h
   · exact absurd h hrv
   · exact h
  rcases inb root hri x hin with h | ⟨h, _⟩
  ·
   rcases hb x hxb with rfl | hxb
   · have := h.2 x hv (by omega); omega
   · exact hl.kids0 hk x hxr hxb h
  · exact hur h.symm
 ·
  intro hk
  by_cases hur : u = root
  ·
   have e1 : (s.pop v u root).kids = s.kids + 1 := if_pos hur; have hk0 : s.kids = 0 := by omega
   refine ⟨v, hrv.symm, hbv, ⟨by show s.num root ≤ s.num v; omega, fun a ha hlt => ?_⟩, fun x hxr hxb hin => ?_⟩
   ·
    rw [hstk] at ha; rcases List.mem_cons.1 ha with rfl | ha
    · rw [hur] at hlt; exact absurd hlt (Nat.lt_irrefl _)
    ·
     have h1 := hr a ha; have h2 : s.num root < s.num a := hlt; rw [hur] at h1; omega
   ·
    rcases inb root (by rw [← hur]; simp) x hin with h | ⟨_, h⟩
    ·
     rcases hb x hxb with rfl | hxb
     · rw [← hur]; exact tr x (Nat.le_refl _)
     · exact absurd h (hl.kids0 hk0 x hxr hxb)
    · rw [← hur]; exact tr x h
  ·
   have e1 : (s.pop v u root).kids = s.kids := if_neg hur; rw [e1] at hk; have hri : root ∈ u :: r := by
    have := ht.rootIn hs; rw [hs] at this; rcases List.mem_cons.1 this with h | h
    · exact absurd h hrv
    · exact h
   obtain ⟨c, h1, h2, h3, h4⟩ := hl.kids1 hk; refine ⟨c, h1, hb2 c h2, inb2 root c h3, fun x hxr hxb hin => ?_⟩; rcases inb root hri x hin with h | ⟨h, _⟩
   ·
    rcases hb x hxb with rfl | hxb
    · have := h.2 x hv (by omega); omega
    · exact h4 x hxr hxb h
   · exact absurd h.symm hur
 ·
  intro hk
  by_cases hur : u = root
  ·
   have e1 : (s.pop v u root).kids = s.kids + 1 := if_pos hur; by_cases hk1 : s.kids = 1
   ·
    obtain ⟨c, h1, h2, h3, h4⟩ := hl.kids1 hk1; refine ⟨v, c, hvn, h2.1, hrv.symm, h1, fun hcon => ?_⟩; have h5 := sepR hur c hcon; have h6 := h3.2 v hv (by rw [← hur]; exact huv); omega
   · exact hl.kids2 (by omega)
  ·
   have e1 : (s.pop v u root).kids = s.kids := if_neg hur; rw [e1] at hk; exact hl.kids2 hk
end
section
variable {n : Nat} {bs : Nat → List Nat} {gone : Int} {root : Nat} {s : CS}
theorem CL.drop (hl : CL n bs gone root s) (hs : s.stack = [root]) : CL n bs gone root s.drop := by
 have hstk : s.drop.stack = [] := by show s.stack.tail = _; rw [hs]; rfl
 have hb : ∀ x, s.drop.Black x → x = root ∨ s.Black x := fun x hx => by
  by_cases e : x = root
  · exact .inl e
  · exact .inr ⟨hx.1, by rw [hs]; simpa using e⟩
 have hb2 : ∀ x, s.Black x → s.drop.Black x := fun x hx => ⟨hx.1, by rw [hstk]; simp⟩
 have inb : ∀ x, s.drop.InB root x → s.InB root x := fun x h => ⟨h.1, fun a ha hlt => by
  rw [hs] at ha; simp at ha; subst ha; exact absurd hlt (Nat.lt_irrefl _)⟩
 have inb2 : ∀ x, s.InB root x → s.drop.InB root x := fun x h => ⟨h.1, fun a ha => by rw [hstk] at ha; simp at ha⟩
 have no : ∀ z, z ∉ s.drop.stack := fun z => by rw [hstk]; simp
 refine ⟨fun z hz => absurd hz (no z), fun z hz => absurd hz (no z), fun z hz => absurd hz (no z), hl.cutT, fun z hzr hzb hzc x hx hxz => ?_, fun z hz => absurd hz (no z), fun hk x hxr hxb hin => ?_, fun hk => ?_, hl.kids2⟩
 ·
  rcases hb z hzb with e | hzb
  · exact absurd e hzr
  · exact hl.cutF z hzr hzb hzc x hx hxz
 ·
  rcases hb x hxb with e | hxb
  · exact absurd e hxr
  · exact hl.kids0 hk x hxr hxb (inb x hin)
 ·
  obtain ⟨c, h1, h2, h3, h4⟩ := hl.kids1 hk
  refine ⟨c, h1, hb2 c h2, inb2 c h3, fun x hxr hxb hin => ?_⟩
  rcases hb x hxb with e | hxb
  · exact absurd e hxr
  · exact h4 x hxr hxb (inb x hin)
def CS.start (root : Nat) : CS := ⟨upd (fun _ => 0) root 1, upd (fun _ => 0) root 1, fun _ => 0, fun _ => 0, fun _ => false, [root], 1, 0⟩
theorem CT.start (hr : Pres n gone root) : CT n bs gone root (CS.start root) := by
 have nr : (CS.start root).num root = 1 := by simp [CS.start, upd]
 have no : ∀ x, x ≠ root → (CS.start root).num x = 0 := fun x hx => by simp [CS.start, upd, hx]
 have only : ∀ x, (CS.start root).num x ≠ 0 → x = root := fun x hx => Classical.byContradiction fun e => hx (no x e)
 have nb : ∀ x, ¬ (CS.start root).Black x := fun x hx => hx.2 (by show x ∈ [root]; simp [only x hx.1])
 refine ⟨fun x hx => by rw [only x hx]; exact hr, fun x => ?_, fun x y hx e => ?_, nr, ⟨[root], by simp, rfl, fun x => ?_⟩, fun v hv => ?_, by show [root].Pairwise _; simp, rfl, fun v => Nat.zero_le _, fun _ _ => rfl, fun v w ⟨i, hi, _⟩ => absurd hi (Nat.not_lt_zero _), fun x hx => absurd hx (nb x), fun x v hx => absurd hx (nb x), fun v hv x hx => ?_, fun x hx => ?_⟩
 ·
  by_cases e : x = root
  · subst e; rw [nr]; exact Nat.le_refl _
  · rw [no x e]; exact Nat.zero_le _
 · rw [only x hx, only y (by rw [← e]; exact hx)]
 ·
  constructor
  · intro h; simp at h; subst h; omega
  · intro h; simp [only x h]
 ·
  have : v ∈ [root] := hv
  simp at this; subst this; omega
 ·
  have : v ∈ [root] := hv
  simp at this; subst this
  rw [only x (by omega)]
  exact .refl ⟨hr, Nat.le_refl _⟩
 ·
  rw [only x hx]
  exact .refl ⟨hr, by omega, Nat.le_refl _⟩
theorem CL.start : CL n bs gone root (CS.start root) := by
 have no : ∀ x, x ≠ root → (CS.start root).num x = 0 := fun x hx => by simp [CS.start, upd, hx]
 have only : ∀ x, (CS.start root).num x ≠ 0 → x = root := fun x hx => Classical.byContradiction fun e => hx (no x e)
 have nb : ∀ x, ¬ (CS.start root).Black x := fun x hx => hx.2 (by show x ∈ [root]; simp [only x hx.1])
 refine ⟨fun v _ => Nat.le_refl _, fun v _ x w _ ⟨i, hi, _⟩ => absurd hi (Nat.not_lt_zero _), fun v _ => .inl rfl, fun u hu => ?_, fun u _ hb => absurd hb (nb u), fun u _ _ _ x hx => absurd hx (nb x), fun _ x _ hx => absurd hx (nb x), fun hk => ?_, fun hk => ?_⟩
 · cases hu
 · cases hk
 · exact absurd hk (by show ¬ 2 ≤ 0; omega)
def presB (gone : Int) (x : Nat) : Bool := decide ((x : Int) ≠ gone)
theorem nodup_len_le {l m : List Nat} (h : l.Nodup) (hs : ∀ x ∈ l, x ∈ m) : l.length ≤ m.length := by
 induction l generalizing m with
 | nil => simp
 | cons a l ih =>
  obtain ⟨h1, h2⟩ := List.nodup_cons.1 h
  have ha := hs a (by simp)
  have h3 := ih (m := m.erase a) h2 fun x hx => by
   have hxa : x ≠ a := fun e => h1 (e ▸ hx); exact (List.mem_erase_of_ne hxa).2 (hs x (by simp [hx]))
  rw [List.length_erase_of_mem ha] at h3
  have := List.length_pos_of_mem ha
  simp only [List.length_cons]; omega
structure CutSpec (n : Nat) (bs : Nat → List Nat) (gone : Int) (join : Bool) (cut : Nat → Bool) : Prop where
 join_iff : join = true ↔ ∀ x y, Pres n gone x → Pres n gone y → Con bs (Pres n gone) x y
 cut_iff : join = true → ∀ u, Pres n gone u → (cut u = true ↔ ∃ x y, Av n gone u x ∧ Av n gone u y ∧ ¬ Con bs (Av n gone u) x y)
 cut_no : ∀ u, ¬ Pres n gone u → cut u = false
theorem cut_end (ht : CT n bs gone root s) (hl : CL n bs gone root s) (hsy : ∀ a b, b ∈ bs a → a ∈ bs b) (hs : s.stack = []) (left : Nat) (hleft : left = ((List.range n).filter (presB gone)).length) :
  CutSpec n bs gone (decide (s.met = left)) (upd s.cut root (decide (1 < s.kids))) := by
 have hblack : ∀ x, s.num x ≠ 0 → s.Black x := fun x hx => ⟨hx, by rw [hs]; simp⟩
 have hin : ∀ x, s.num x ≠ 0 → s.InB root x := fun x hx => ⟨by have := ht.root1; omega, fun a ha => by rw [hs] at ha; simp at ha⟩
 have hrn : s.num root ≠ 0 := by have := ht.root1; omega
 have hpr := ht.numP root hrn
 have hreach : ∀ x, Con bs (Pres n gone) root x → s.num x ≠ 0 := fun x hx =>
  hx.closed (fun y => s.num y ≠ 0) (fun a b ha hb hp => ht.seen a b (ht.full' (hblack a ha) hb) hp) hrn
 have hall : s.met = left ↔ ∀ x, Pres n gone x → s.num x ≠ 0 := by
  obtain ⟨o, h1, h2, h3⟩ := ht.ord
  have hsub : ∀ x ∈ o, x ∈ (List.range n).filter (presB gone) := fun x hx => by
   have := ht.numP x ((h3 x).1 hx); simp only [List.mem_filter, List.mem_range, presB, decide_eq_true_eq]; exact this
  have hnd : ((List.range n).filter (presB gone)).Nodup := List.nodup_range.filter _
  constructor
  ·
   intro e x hx; rw [← h3]; refine Classical.byContradiction fun hno => ?_; have hs2 : o ⊆ ((List.range n).filter (presB gone)).erase x := fun y hy => by
    rw [List.Nodup.mem_erase_iff hnd]; exact ⟨fun e => hno (e ▸ hy), hsub y hy⟩
   have hle := nodup_len_le h1 hs2; have hmem : x ∈ (List.range n).filter (presB gone) := by
    simp only [List.mem_filter, List.mem_range, presB, decide_eq_true_eq]; exact hx
   have hlen := List.length_erase_of_mem hmem; have hpos := List.length_pos_of_mem hmem; omega
  ·
   intro hx; have hs2 : ((List.range n).filter (presB gone)) ⊆ o := fun y hy => by
    simp only [List.mem_filter, List.mem_range, presB, decide_eq_true_eq] at hy; exact (h3 y).2 (hx y hy)
   have a1 := nodup_len_le h1 hsub; have a2 := nodup_len_le hnd hs2; omega
 have hjoin : s.met = left → ∀ x, Pres n gone x → Con bs (Pres n gone) root x := fun e x hx =>
  (ht.pth x (hall.1 e x hx)).mono fun a h => h.1
 refine ⟨?_, ?_, ?_⟩
 ·
  rw [decide_eq_true_eq]
  constructor
  ·
   intro e x y hx hy; exact ((hjoin e x hx).symm hsy).trans (hjoin e y hy)
  ·
   intro h; exact hall.2 fun x hx => hreach x (h root x hpr hx)
 ·
  intro hj u hu
  rw [decide_eq_true_eq] at hj
  have hvis := hall.1 hj
  by_cases e : u = root
  ·
   subst e; rw [upd_same, decide_eq_true_eq]; constructor
   ·
    intro hk; obtain ⟨c, d, h1, h2, h3, h4, h5⟩ := hl.kids2 hk; exact ⟨c, d, ⟨ht.numP c h1, h3⟩, ⟨ht.numP d h2, h4⟩, h5⟩
   ·
    rintro ⟨x, y, hx, hy, hno⟩; refine Classical.byContradiction fun hk => ?_; by_cases hk0 : s.kids = 0
    · exact hl.kids0 hk0 x hx.2 (hblack x (hvis x hx.1)) (hin x (hvis x hx.1))
    ·
     obtain ⟨c, h1, h2, h3, h4⟩ := hl.kids1 (by omega); exact hno (((h4 x hx.2 (hblack x (hvis x hx.1)) (hin x (hvis x hx.1))).symm hsy).trans (h4 y hy.2 (hblack y (hvis y hy.1)) (hin y (hvis y hy.1))))
  ·
   rw [upd_ne _ _ e]; constructor
   ·
    intro hc; obtain ⟨h1, h2, c, h3, h4, h5⟩ := hl.cutT u hc; exact ⟨root, c, ⟨hpr, fun e' => e e'.symm⟩, ⟨ht.numP c h3, h4⟩, h5⟩
   ·
    rintro ⟨x, y, hx, hy, hno⟩; refine Classical.byContradiction fun hc => ?_; have hc' : s.cut u = false := by simpa using hc
    have hf := hl.cutF u e (hblack u (hvis u hu)) hc'; exact hno (((hf x (hvis x hx.1) hx.2).symm hsy).trans (hf y (hvis y hy.1) hy.2))
 ·
  intro u hu
  have e : u ≠ root := fun e => hu (e ▸ hpr)
  rw [upd_ne _ _ e]
  refine Classical.byContradiction fun hc => ?_
  exact hu (ht.numP u (hl.cutT u (by simpa using hc)).2.1)
end
end Go.Proofs.YtagcbnpahgfgmaaGreat
namespace Go.Proofs.YtagcbnpahgfgmaaGreat
abbrev Lk := Int × Int × Int
def cmpI (a b : Int) : Int := if a < b then -1 else if b < a then 1 else 0
def orI (x y : Int) : Int := if x = 0 then y else x
def cmpL (a b : Lk) : Int := orI (cmpI a.1 b.1) (orI (cmpI a.2.1 b.2.1) (cmpI a.2.2 b.2.2))
def LtL (a b : Lk) : Prop := a.1 < b.1 ∨ (a.1 = b.1 ∧ (a.2.1 < b.2.1 ∨ (a.2.1 = b.2.1 ∧ a.2.2 < b.2.2)))
instance instLtL : DecidableRel LtL := fun a b => by unfold LtL; infer_instance
theorem cmpL_neg (a b : Lk) : cmpL a b < 0 ↔ LtL a b := by
 unfold cmpL orI cmpI LtL
 repeat' split
 all_goals omega
theorem LtL.irrefl (a : Lk) : ¬ LtL a a := by unfold LtL; omega
theorem LtL.trans {a b c : Lk} (h : LtL a b) (k : LtL b c) : LtL a c := by unfold LtL at *; omega
theorem LtL.total (a b : Lk) (h : ¬ LtL a b) (k : ¬ LtL b a) : a = b := by
 obtain ⟨a1, a2, a3⟩ := a; obtain ⟨b1, b2, b3⟩ := b
 simp only [LtL] at h k
 ext <;> simp only <;> omega
theorem LtL.asymm {a b : Lk} (h : LtL a b) : ¬ LtL b a := by unfold LtL at *; omega
def OkL (k : Lk) : Prop := 0 ≤ k.1 ∧ k.1 < k.2.1 ∧ k.2.1 < 1048576 ∧ 0 ≤ k.2.2 ∧ k.2.2 ≤ 1048576
instance instOkL (k : Lk) : Decidable (OkL k) := by unfold OkL; infer_instance
def RightL (ls : List Lk) : Prop := ls.length ≤ 1000 ∧ (∀ k ∈ ls, OkL k) ∧ ls.Pairwise LtL
instance instRightL (ls : List Lk) : Decidable (RightL ls) := by unfold RightL; infer_instance
def rightL (ls : List Lk) : Bool := decide (RightL ls)
theorem rightL_iff (ls : List Lk) : rightL ls = true ↔ RightL ls := by unfold rightL; rw [decide_eq_true_eq]
theorem pair_chain {α : Type} {R : α → α → Prop} (ht : ∀ a b c, R a b → R b c → R a c) (l : List α) : l.Pairwise R ↔ ∀ i (h : i + 1 < l.length), R l[i] l[i+1] := by
 rw [List.pairwise_iff_getElem]
 constructor
 · intro h i hi; exact h i (i+1) (by omega) hi (by omega)
 ·
  intro h i j hi hj hlt
  obtain ⟨d, rfl⟩ : ∃ d, j = i + 1 + d := ⟨j - (i + 1), by omega⟩
  clear hlt
  induction d with
  | zero => exact h i (by omega)
  | succ d ih => exact ht _ _ _ (ih (by omega)) (h (i + 1 + d) (by omega))
theorem rightL_at (ls : List Lk) : rightL ls = true ↔ ls.length ≤ 1000 ∧ (∀ i (h : i < ls.length), OkL ls[i]) ∧ (∀ i (h : i + 1 < ls.length), LtL ls[i] ls[i+1]) := by
 rw [rightL_iff]; unfold RightL
 rw [pair_chain (R := LtL) (fun a b c h k => LtL.trans h k)]
 constructor
 · rintro ⟨a, b, c⟩; exact ⟨a, fun i h => b _ (List.getElem_mem h), c⟩
 ·
  rintro ⟨a, b, c⟩
  refine ⟨a, fun k hk => ?_, c⟩
  obtain ⟨i, hi, rfl⟩ := List.getElem_of_mem hk
  exact b i hi
theorem rightL_false {ls : List Lk} (h : ¬ RightL ls) : rightL ls = false := by unfold rightL; simpa using h
def insL (x : Lk) : List Lk → List Lk
 | [] => [x]
 | y :: r => if LtL x y then x :: y :: r else y :: insL x r
def swapL (k : Lk) : Lk := if k.2.1 < k.1 then (k.2.1, k.1, k.2.2) else k
def sortL (ls : List Lk) : List Lk := ls.foldl (fun o k => insL (swapL k) o) []
def LeL (a b : Lk) : Prop := ¬ LtL b a
theorem LeL.trans {a b c : Lk} (h : LeL a b) (k : LeL b c) : LeL a c := by unfold LeL LtL at *; omega
theorem insL_perm (x : Lk) (l : List Lk) : (insL x l).Perm (x :: l) := by
 induction l with
 | nil => exact .refl _
 | cons y r ih =>
  unfold insL
  split
  · exact .refl _
  · exact (ih.cons y).trans (List.Perm.swap _ _ _)
theorem insL_sorted (x : Lk) (l : List Lk) (h : l.Pairwise LeL) : (insL x l).Pairwise LeL := by
 induction l with
 | nil => simp [insL]
 | cons y r ih =>
  obtain ⟨h1, h2⟩ := List.pairwise_cons.1 h
  unfold insL
  split
  ·
   rename_i hlt; rw [List.pairwise_cons]; refine ⟨fun z hz => ?_, h⟩; have hxy : LeL x y := hlt.asymm; rcases List.mem_cons.1 hz with rfl | hz
   · exact hxy
   · exact hxy.trans (h1 z hz)
  ·
   rename_i hlt; rw [List.pairwise_cons]; refine ⟨fun z hz => ?_, ih h2⟩; rcases List.mem_cons.1 ((insL_perm x r).mem_iff.1 hz) with rfl | hz
   · exact hlt
   · exact h1 z hz
theorem sortL_aux (ls o : List Lk) (ho : o.Pairwise LeL) : (ls.foldl (fun o k => insL (swapL k) o) o).Pairwise LeL ∧ (ls.foldl (fun o k => insL (swapL k) o) o).Perm (o ++ ls.map swapL) := by
 induction ls generalizing o with
 | nil => simp [ho]
 | cons k r ih =>
  obtain ⟨h1, h2⟩ := ih (insL (swapL k) o) (insL_sorted _ _ ho)
  refine ⟨h1, h2.trans ?_⟩
  rw [List.map_cons]
  exact ((insL_perm _ _).append_right _).trans (by simpa using (List.perm_middle (l₁ := o) (a := swapL k) (l₂ := r.map swapL)).symm)
theorem sortL_sorted (ls : List Lk) : (sortL ls).Pairwise LeL := (sortL_aux ls [] .nil).1
theorem sortL_perm (ls : List Lk) : (sortL ls).Perm (ls.map swapL) := (sortL_aux ls [] .nil).2
theorem sorted_one {a b : List Lk} (h : a.Perm b) (ha : a.Pairwise LeL) (hb : b.Pairwise LeL) : a = b :=
 h.eq_of_pairwise (fun x y _ _ h1 h2 => LtL.total x y h2 h1) ha hb
theorem sortL_length (ls : List Lk) : (sortL ls).length = ls.length := by rw [(sortL_perm ls).length_eq]; simp
theorem sortL_one {ls o : List Lk} (h : o.Perm (ls.map swapL)) (ho : o.Pairwise LeL) : o = sortL ls := sorted_one (h.trans (sortL_perm ls).symm) ho (sortL_sorted ls)
theorem sortL_merge (ls : List Lk) : (ls.map swapL).mergeSort (fun x y => !decide (cmpL y x < 0)) = sortL ls := by
 refine sortL_one (List.mergeSort_perm _ _) ?_
 have := List.pairwise_mergeSort (le := fun x y : Lk => !decide (cmpL y x < 0)) (fun a b c => by simp only [Bool.not_eq_true', decide_eq_false_iff_not, cmpL_neg]; exact LeL.trans) (fun a b => by
  simp only [Bool.or_eq_true, Bool.not_eq_true', decide_eq_false_iff_not, cmpL_neg]
  by_cases h : LtL b a
  · exact .inr h.asymm
  · exact .inl h) (ls.map swapL)
 refine this.imp fun {a b} h => ?_
 unfold LeL
 simpa [cmpL_neg] using h
theorem swapL_id {k : Lk} (h : OkL k) : swapL k = k := by unfold swapL; rw [if_neg (by unfold OkL at h; omega)]
theorem map_swapL {ls : List Lk} (h : ∀ k ∈ ls, OkL k) : ls.map swapL = ls := by
 induction ls with
 | nil => rfl
 | cons k r ih => rw [List.map_cons, swapL_id (h k (by simp)), ih fun x hx => h x (by simp [hx])]
theorem right_sorted {ls : List Lk} (h : RightL ls) : ls.Pairwise LeL := h.2.2.imp fun h => h.asymm
theorem sortL_right {ls : List Lk} (h : RightL ls) : sortL ls = ls := (sortL_one (by rw [map_swapL h.2.1]) (right_sorted h)).symm
theorem sortL_congr {a b : List Lk} (h : (a.map swapL).Perm (b.map swapL)) : sortL a = sortL b := sortL_one ((sortL_perm a).trans h) (sortL_sorted a)
def insV (x : Int) : List Int → List Int
 | [] => [x]
 | y :: r => if x < y then x :: y :: r else if x = y then y :: r else y :: insV x r
def endsL (ls : List Lk) : List Int := ls.flatMap fun k => [k.1, k.2.1]
def vertsL (ls : List Lk) : List Int := (endsL ls).foldl (fun o v => insV v o) []
theorem mem_insV (x : Int) (l : List Int) (z : Int) : z ∈ insV x l ↔ z = x ∨ z ∈ l := by
 induction l with
 | nil => simp [insV]
 | cons y r ih =>
  unfold insV
  split
  · simp
  ·
   split
   · rename_i h; subst h; simp
   ·
    simp only [List.mem_cons, ih]; constructor
    ·
     rintro (h | h | h)
     · exact .inr (.inl h)
     · exact .inl h
     · exact .inr (.inr h)
    ·
     rintro (h | h | h)
     · exact .inr (.inl h)
     · exact .inl h
     · exact .inr (.inr h)
theorem insV_sorted (x : Int) (l : List Int) (h : l.Pairwise (· < ·)) : (insV x l).Pairwise (· < ·) := by
 induction l with
 | nil => simp [insV]
 | cons y r ih =>
  obtain ⟨h1, h2⟩ := List.pairwise_cons.1 h
  unfold insV
  split
  ·
   rename_i hlt; rw [List.pairwise_cons]; refine ⟨fun z hz => ?_, h⟩; rcases List.mem_cons.1 hz with rfl | hz
   · exact hlt
   · have := h1 z hz; omega
  ·
   split
   · exact h
   ·
    rw [List.pairwise_cons]; refine ⟨fun z hz => ?_, ih h2⟩; rcases (mem_insV x r z).1 hz with rfl | hz
    · omega
    · exact h1 z hz
theorem vertsL_aux (vs o : List Int) (ho : o.Pairwise (· < ·)) : (vs.foldl (fun o v => insV v o) o).Pairwise (· < ·) ∧ ∀ z, z ∈ vs.foldl (fun o v => insV v o) o ↔ z ∈ o ∨ z ∈ vs := by
 induction vs generalizing o with
 | nil => simp [ho]
 | cons v r ih =>
  obtain ⟨h1, h2⟩ := ih (insV v o) (insV_sorted _ _ ho)
  refine ⟨h1, fun z => ?_⟩
  rw [List.foldl_cons, h2, mem_insV, List.mem_cons]
  constructor
  ·
   rintro ((h | h) | h)
   · exact .inr (.inl h)
   · exact .inl h
   · exact .inr (.inr h)
  ·
   rintro (h | h | h)
   · exact .inl (.inr h)
   · exact .inl (.inl h)
   · exact .inr h
theorem vertsL_sorted (ls : List Lk) : (vertsL ls).Pairwise (· < ·) := (vertsL_aux _ [] .nil).1
theorem mem_vertsL (ls : List Lk) (z : Int) : z ∈ vertsL ls ↔ ∃ k ∈ ls, z = k.1 ∨ z = k.2.1 := by
 unfold vertsL
 rw [(vertsL_aux _ [] .nil).2]
 simp [endsL]
theorem strict_one {a b : List Int} (ha : a.Pairwise (· < ·)) (hb : b.Pairwise (· < ·)) (h : ∀ z, z ∈ a ↔ z ∈ b) : a = b := by
 induction a generalizing b with
 | nil =>
  cases b with
  | nil => rfl
  | cons y r => have := (h y).2 (by simp); simp at this
 | cons x a ih =>
  cases b with
  | nil => have := (h x).1 (by simp); simp at this
  | cons y r =>
   obtain ⟨a1, a2⟩ := List.pairwise_cons.1 ha; obtain ⟨b1, b2⟩ := List.pairwise_cons.1 hb; have e : x = y := by
    have h1 := (h x).1 (by simp); have h2 := (h y).2 (by simp); rcases List.mem_cons.1 h1 with e | h1
    · exact e
    ·
     rcases List.mem_cons.1 h2 with e | h2
     · exact e.symm
     · have := b1 x h1; have := a1 y h2; omega
   subst e; rw [ih a2 b2 fun z => ?_]; constructor
   ·
    intro hz; rcases List.mem_cons.1 ((h z).1 (by simp [hz])) with rfl | h3
    · have := a1 z hz; omega
    · exact h3
   ·
    intro hz; rcases List.mem_cons.1 ((h z).2 (by simp [hz])) with rfl | h3
    · have := b1 z hz; omega
    · exact h3
theorem vertsL_one {ls : List Lk} {o : List Int} (ho : o.Pairwise (· < ·)) (h : ∀ z, z ∈ o ↔ ∃ k ∈ ls, z = k.1 ∨ z = k.2.1) : o = vertsL ls :=
 strict_one ho (vertsL_sorted ls) fun z => by rw [h, mem_vertsL]
theorem endsL_length (ls : List Lk) : (endsL ls).length = ls.length * 2 := by
 induction ls with
 | nil => rfl
 | cons k r ih => unfold endsL at ih ⊢; rw [List.flatMap_cons, List.length_append, ih]; simp only [List.length_cons, List.length_nil]; omega
theorem strict_len {l o : List Int} (ho : o.Pairwise (· < ·)) (h : ∀ z ∈ o, z ∈ l) : o.length ≤ l.length := by
 induction o generalizing l with
 | nil => simp
 | cons a o ih =>
  obtain ⟨h1, h2⟩ := List.pairwise_cons.1 ho
  have ha := h a (by simp)
  have h3 := ih (l := l.erase a) h2 fun x hx => by
   have := h1 x hx; exact (List.mem_erase_of_ne (by omega)).2 (h x (by simp [hx]))
  rw [List.length_erase_of_mem ha] at h3
  have := List.length_pos_of_mem ha
  simp only [List.length_cons]; omega
theorem vertsL_length (ls : List Lk) : (vertsL ls).length ≤ ls.length * 2 := by
 rw [← endsL_length]
 exact strict_len (vertsL_sorted ls) fun z hz => by rw [mem_vertsL] at hz; simp only [endsL, List.mem_flatMap, List.mem_cons, List.not_mem_nil, or_false]; exact hz
theorem compact_strict (zs : List Int) (hs : zs.Pairwise (· ≤ ·)) : (Lib.compact zs).Pairwise (· < ·) ∧ ∀ z, z ∈ Lib.compact zs ↔ z ∈ zs := by
 have hle := List.pairwise_iff_getElem.1 hs
 have hk : ∀ i, Lib.keeps zs.toArray i = true ↔ (i = 0 ∨ zs[i]! ≠ zs[i-1]!) := fun i => by simp [Lib.keeps]
 have hg : ∀ i (h : i < zs.length), zs.toArray[i]! = zs[i] := fun i h => by simp [h]
 unfold Lib.compact Lib.compactUpTo
 constructor
 ·
  rw [List.pairwise_map, List.pairwise_filter]
  refine List.Pairwise.imp_of_mem ?_ (List.pairwise_lt_range (n := zs.length))
  intro a b ha hb hab _ hkb
  rw [List.mem_range] at ha hb
  rw [hk] at hkb
  rcases hkb with rfl | hkb
  · omega
  ·
   rw [hg a ha, hg b hb]; have e1 : zs[b]! = zs[b] := by simp [hb]
   have e2 : zs[b-1]! = zs[b-1] := by simp [show b - 1 < zs.length by omega]
   rw [e1, e2] at hkb; have h1 := hle (b-1) b (by omega) hb (by omega); by_cases hab1 : a = b - 1
   · subst hab1; omega
   · have h2 := hle a (b-1) ha (by omega) (by omega); omega
 ·
  intro z
  simp only [List.mem_map, List.mem_filter, List.mem_range]
  constructor
  ·
   rintro ⟨i, ⟨hi, _⟩, rfl⟩; rw [hg i hi]; exact List.getElem_mem hi
  ·
   intro hz; obtain ⟨i, hi, rfl⟩ := List.getElem_of_mem hz; clear hz; induction i using Nat.strongRecOn with
   | _ i ih =>
    by_cases hki : Lib.keeps zs.toArray i = true
    · exact ⟨i, ⟨hi, hki⟩, hg i hi⟩
    ·
     rw [hk] at hki; have hi0 : i ≠ 0 := fun e => hki (.inl e); have e : zs[i]! = zs[i-1]! := Classical.byContradiction fun e => hki (.inr e); have e1 : zs[i]! = zs[i] := by simp [hi]
     have e2 : zs[i-1]! = zs[i-1]'(by omega) := by simp [show i - 1 < zs.length by omega]
     rw [e1, e2] at e; obtain ⟨j, hj, hje⟩ := ih (i-1) (by omega) (by omega); exact ⟨j, hj, by rw [hje, e]⟩
theorem vertsL_compact (ls : List Lk) : Lib.compact ((endsL ls).mergeSort fun x y => decide (x ≤ y)) = vertsL ls := by
 have hp := List.pairwise_mergeSort (le := fun x y : Int => decide (x ≤ y)) (fun a b c => by simp only [decide_eq_true_eq]; omega) (fun a b => by simp only [Bool.or_eq_true, decide_eq_true_eq]; omega) (endsL ls)
 obtain ⟨h1, h2⟩ := compact_strict _ (hp.imp fun {a b} h => by simpa using h)
 refine vertsL_one h1 fun z => ?_
 rw [h2, (List.mergeSort_perm _ _).mem_iff]
 simp [endsL]
end Go.Proofs.YtagcbnpahgfgmaaGreat
