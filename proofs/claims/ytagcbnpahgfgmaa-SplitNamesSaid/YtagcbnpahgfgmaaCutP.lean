/- Which vertices part a graph: the search with low points, as plain steps on functions. No program in sight. -/
import Derived.Tactics
namespace Go.Proofs.Ytagcbnpahgfgmaa

/-- from x one comes to y within S -/
inductive Con (bs : Nat → List Nat) (S : Nat → Prop) (x : Nat) : Nat → Prop
  | refl : S x → Con bs S x x
  | step {y z : Nat} : Con bs S x y → z ∈ bs y → S z → Con bs S x z

namespace Con
variable {bs : Nat → List Nat} {S T : Nat → Prop} {x y z : Nat}
theorem mono (h : Con bs S x y) (hs : ∀ a, S a → T a) : Con bs T x y := by
  induction h with
  | refl h => exact .refl (hs _ h)
  | step _ h1 h2 ih => exact ih.step h1 (hs _ h2)
theorem left (h : Con bs S x y) : S x := by
  induction h with
  | refl h => exact h
  | step _ _ _ ih => exact ih
theorem right (h : Con bs S x y) : S y := by
  cases h with
  | refl h => exact h
  | step _ _ h => exact h
theorem trans (h : Con bs S x y) (k : Con bs S y z) : Con bs S x z := by
  induction k with
  | refl _ => exact h
  | step _ h1 h2 ih => exact ih.step h1 h2
theorem head (hx : S x) (h1 : y ∈ bs x) (k : Con bs S y z) : Con bs S x z := ((Con.refl hx).step h1 k.left).trans k
theorem symm (hs : ∀ a b, b ∈ bs a → a ∈ bs b) (h : Con bs S x y) : Con bs S y x := by
  induction h with
  | refl h => exact .refl h
  | step h0 h1 h2 ih => exact head h2 (hs _ _ h1) ih
theorem closed (D : Nat → Prop) (hD : ∀ a b, D a → b ∈ bs a → S b → D b) (hx : D x) (h : Con bs S x y) : D y := by
  induction h with
  | refl _ => exact hx
  | step _ h1 h2 ih => exact hD _ _ ih h1 h2
end Con

def upd {α : Type} (f : Nat → α) (a : Nat) (b : α) : Nat → α := fun x => if x = a then b else f x
theorem upd_same {α : Type} (f : Nat → α) (a : Nat) (b : α) : upd f a b a = b := by simp [upd]
theorem upd_ne {α : Type} (f : Nat → α) {a x : Nat} (b : α) (h : x ≠ a) : upd f a b x = f x := by simp [upd, h]

structure CS where
  num : Nat → Nat
  low : Nat → Nat
  up : Nat → Nat
  at_ : Nat → Nat
  cut : Nat → Bool
  stack : List Nat
  met : Nat
  kids : Nat

def Pres (n : Nat) (gone : Int) (v : Nat) : Prop := v < n ∧ (v : Int) ≠ gone
def Stk (up : Nat → Nat) (root : Nat) : List Nat → Prop
  | [] => True
  | [a] => a = root
  | a :: b :: r => up a = b ∧ Stk up root (b :: r)
theorem Stk.tail {up : Nat → Nat} {root a : Nat} {l : List Nat} (h : Stk up root (a :: l)) : Stk up root l := by
  cases l with
  | nil => trivial
  | cons b r => exact h.2
theorem Stk.congr {up up' : Nat → Nat} {root : Nat} {l : List Nat} (h : Stk up root l) (he : ∀ a ∈ l, up' a = up a) : Stk up' root l := by
  induction l with
  | nil => trivial
  | cons a l ih =>
    cases l with
    | nil => exact h
    | cons b r => exact ⟨(he a (by simp)).trans h.1, ih h.2 fun c hc => he c (by simp [hc])⟩

namespace CS
variable (s : CS)
def Black (x : Nat) : Prop := s.num x ≠ 0 ∧ x ∉ s.stack
def InB (v x : Nat) : Prop := s.num v ≤ s.num x ∧ ∀ u ∈ s.stack, s.num v < s.num u → s.num x < s.num u
def Ex (bs : Nat → List Nat) (x w : Nat) : Prop := ∃ i, i < s.at_ x ∧ (bs x)[i]? = some w
end CS

/-- the tree that the search has gone -/
structure CT (n : Nat) (bs : Nat → List Nat) (gone : Int) (root : Nat) (s : CS) : Prop where
  numP : ∀ x, s.num x ≠ 0 → Pres n gone x
  numle : ∀ x, s.num x ≤ s.met
  inj : ∀ x y, s.num x ≠ 0 → s.num x = s.num y → x = y
  root1 : s.num root = 1
  ord : ∃ o : List Nat, o.Nodup ∧ o.length = s.met ∧ ∀ x, x ∈ o ↔ s.num x ≠ 0
  stV : ∀ v ∈ s.stack, s.num v ≠ 0
  stS : s.stack.Pairwise (fun a b => s.num b < s.num a)
  chain : Stk s.up root s.stack
  atLe : ∀ v, s.at_ v ≤ (bs v).length
  at0 : ∀ v, s.num v = 0 → s.at_ v = 0
  seen : ∀ v w, s.Ex bs v w → Pres n gone w → s.num w ≠ 0
  full : ∀ x, s.Black x → s.at_ x = (bs x).length
  b1 : ∀ x v, s.Black x → v ∈ s.stack → s.num x < s.num v → ∀ y ∈ bs x, Pres n gone y → s.num y < s.num v
  tree : ∀ v ∈ s.stack, ∀ x, s.num v ≤ s.num x → Con bs (fun y => Pres n gone y ∧ s.num v ≤ s.num y) v x
  pth : ∀ x, s.num x ≠ 0 → Con bs (fun y => Pres n gone y ∧ s.num y ≠ 0 ∧ s.num y ≤ s.num x) root x

def Av (n : Nat) (gone : Int) (u : Nat) (y : Nat) : Prop := Pres n gone y ∧ y ≠ u

/-- what the low points say, and what has been told -/
structure CL (n : Nat) (bs : Nat → List Nat) (gone : Int) (root : Nat) (s : CS) : Prop where
  lowle : ∀ v ∈ s.stack, s.low v ≤ s.num v
  lb : ∀ v ∈ s.stack, ∀ x w, s.InB v x → s.Ex bs x w → Pres n gone w → s.low v ≤ s.num w
  att : ∀ v ∈ s.stack, s.low v = s.num v ∨ ∃ x w, s.InB v x ∧ w ∈ bs x ∧ s.num w ≠ 0 ∧ s.num w = s.low v
  cutT : ∀ u, s.cut u = true → u ≠ root ∧ s.num u ≠ 0 ∧ ∃ c, s.num c ≠ 0 ∧ c ≠ u ∧ ¬ Con bs (Av n gone u) root c
  cutF : ∀ u, u ≠ root → s.Black u → s.cut u = false → ∀ x, s.num x ≠ 0 → x ≠ u → Con bs (Av n gone u) root x
  cutS : ∀ u ∈ s.stack, u ≠ root → s.cut u = false → ∀ x, s.Black x → s.InB u x → Con bs (Av n gone u) root x
  kids0 : s.kids = 0 → ∀ x, x ≠ root → s.Black x → ¬ s.InB root x
  kids1 : s.kids = 1 → ∃ c, c ≠ root ∧ s.Black c ∧ s.InB root c ∧ ∀ x, x ≠ root → s.Black x → s.InB root x → Con bs (Av n gone root) c x
  kids2 : 2 ≤ s.kids → ∃ c d, s.num c ≠ 0 ∧ s.num d ≠ 0 ∧ c ≠ root ∧ d ≠ root ∧ ¬ Con bs (Av n gone root) c d

section
variable {n : Nat} {bs : Nat → List Nat} {gone : Int} {root : Nat} {s : CS}

theorem CT.le_top (h : CT n bs gone root s) {v : Nat} {r : List Nat} (hs : s.stack = v :: r) {u : Nat} (hu : u ∈ s.stack) : s.num u ≤ s.num v := by
  have h1 := h.stS; rw [hs] at h1 hu
  rcases List.mem_cons.1 hu with rfl | hu
  · exact Nat.le_refl _
  · exact Nat.le_of_lt ((List.pairwise_cons.1 h1).1 u hu)
theorem CT.topIn (h : CT n bs gone root s) {v : Nat} {r : List Nat} (hs : s.stack = v :: r) {x : Nat} (hx : s.num v ≤ s.num x) : s.InB v x :=
  ⟨hx, fun u hu hlt => by have := h.le_top hs hu; omega⟩
theorem CT.full' (h : CT n bs gone root s) {x w : Nat} (hx : s.Black x) (hw : w ∈ bs x) : s.Ex bs x w := by
  obtain ⟨i, hi, e⟩ := List.getElem_of_mem hw
  exact ⟨i, by rw [h.full x hx]; exact hi, by rw [List.getElem?_eq_getElem hi, e]⟩
/-- of those behind the top, none is on the stack -/
theorem CT.above (h : CT n bs gone root s) {v : Nat} {r : List Nat} (hs : s.stack = v :: r) {x : Nat} (hx : s.num v < s.num x) : s.Black x :=
  ⟨by omega, fun hx' => by have := h.le_top hs hx'; omega⟩

/-! ### one step -/
/-- v's next one is not there -/
def CS.skip (s : CS) (v : Nat) : CS := { s with at_ := upd s.at_ v (s.at_ v + 1) }
/-- .. is known -/
def CS.exam (s : CS) (v w : Nat) : CS := { s with at_ := upd s.at_ v (s.at_ v + 1), low := upd s.low v (min (s.low v) (s.num w)) }
/-- .. is new -/
def CS.disc (s : CS) (v w : Nat) : CS :=
  { s with at_ := upd s.at_ v (s.at_ v + 1), num := upd s.num w (s.met + 1), low := upd s.low w (s.met + 1), up := upd s.up w v, stack := w :: s.stack, met := s.met + 1 }

theorem Ex_inc {v w0 : Nat} (hw : (bs v)[s.at_ v]? = some w0) {at' : Nat → Nat} (e : at' = upd s.at_ v (s.at_ v + 1)) {x w : Nat} (h : ∃ i, i < at' x ∧ (bs x)[i]? = some w) : s.Ex bs x w ∨ (x = v ∧ w = w0) := by
  obtain ⟨i, hi, hg⟩ := h
  subst e
  by_cases hx : x = v
  · subst hx
    rw [upd_same] at hi
    by_cases h2 : i = s.at_ x
    · subst h2; rw [hw] at hg; cases hg; exact .inr ⟨rfl, rfl⟩
    · exact .inl ⟨i, by omega, hg⟩
  · rw [upd_ne _ _ hx] at hi
    exact .inl ⟨i, hi, hg⟩
theorem at_le {v w0 : Nat} (h : CT n bs gone root s) (hw : (bs v)[s.at_ v]? = some w0) (x : Nat) : upd s.at_ v (s.at_ v + 1) x ≤ (bs x).length := by
  by_cases hx : x = v
  · subst hx; rw [upd_same]; exact (List.getElem?_eq_some_iff.1 hw).1
  · rw [upd_ne _ _ hx]; exact h.atLe x

theorem CT.skipLike (h : CT n bs gone root s) {v w : Nat} {r : List Nat} (hs : s.stack = v :: r) (hw : (bs v)[s.at_ v]? = some w) (hn : Pres n gone w → s.num w ≠ 0) (low : Nat → Nat) :
    CT n bs gone root { s with at_ := upd s.at_ v (s.at_ v + 1), low := low } where
  numP := h.numP
  numle := h.numle
  inj := h.inj
  root1 := h.root1
  ord := h.ord
  stV := h.stV
  stS := h.stS
  chain := h.chain
  atLe := at_le h hw
  at0 x hx := by
    by_cases e : x = v
    · subst e; exact absurd hx (h.stV x (by rw [hs]; simp))
    · show upd s.at_ v _ x = 0
      rw [upd_ne _ _ e]; exact h.at0 x hx
  seen x y hx hy := by
    rcases Ex_inc hw rfl hx with h1 | ⟨rfl, rfl⟩
    · exact h.seen x y h1 hy
    · exact hn hy
  full x hx := by
    have e : x ≠ v := fun e => hx.2 (by show x ∈ s.stack; rw [hs]; simp [e])
    show upd s.at_ v _ x = _
    rw [upd_ne _ _ e]; exact h.full x hx
  b1 := h.b1
  tree := h.tree
  pth := h.pth
theorem CL.skip (h : CL n bs gone root s) {v w : Nat} (hw : (bs v)[s.at_ v]? = some w) (hn : ¬ Pres n gone w) : CL n bs gone root (s.skip v) :=
  { h with
    lb := fun u hu x y hx he hy => by
      rcases Ex_inc hw rfl he with h1 | ⟨rfl, rfl⟩
      · exact h.lb u hu x y hx h1 hy
      · exact absurd hy hn }
theorem CL.exam (ht : CT n bs gone root s) (h : CL n bs gone root s) {v w : Nat} {r : List Nat} (hs : s.stack = v :: r) (hw : (bs v)[s.at_ v]? = some w) (hn : s.num w ≠ 0) : CL n bs gone root (s.exam v w) := by
  have hlow : ∀ u, (s.exam v w).low u ≤ s.low u := by
    intro u
    show upd s.low v _ u ≤ _
    by_cases e : u = v
    · subst e; rw [upd_same]; exact Nat.min_le_left _ _
    · rw [upd_ne _ _ e]; exact Nat.le_refl _
  have hv : v ∈ s.stack := by rw [hs]; simp
  exact { h with
    lowle := fun u hu => Nat.le_trans (hlow u) (h.lowle u hu)
    lb := fun u hu x y hx he hy => by
      rcases Ex_inc hw rfl he with h1 | ⟨rfl, rfl⟩
      · exact Nat.le_trans (hlow u) (h.lb u hu x y hx h1 hy)
      · by_cases e : u = x
        · subst e
          show upd s.low u _ u ≤ _
          rw [upd_same]; exact Nat.min_le_right _ _
        · exfalso
          have h1 := hx.2 x hv
          have h2 := ht.le_top hs hu
          have h3 : s.num u ≠ s.num x := fun e' => e (ht.inj u x (ht.stV u hu) e')
          have := h1 (by show s.num u < s.num x; omega)
          exact absurd this (Nat.lt_irrefl _)
    att := fun u hu => by
      by_cases e : u = v
      · subst e
        show upd s.low u _ u = s.num u ∨ _
        rw [upd_same]
        by_cases hlt : s.low u ≤ s.num w
        · rw [Nat.min_eq_left hlt]
          rcases h.att u hu with h1 | ⟨x, y, h1, h2, h3, h4⟩
          · exact .inl h1
          · exact .inr ⟨x, y, h1, h2, h3, by show _ = upd s.low u _ u; rw [upd_same, Nat.min_eq_left hlt]; exact h4⟩
        · rw [Nat.min_eq_right (by omega)]
          exact .inr ⟨u, w, ht.topIn hs (Nat.le_refl _), List.mem_of_getElem? hw, hn, by show s.num w = upd s.low u _ u; rw [upd_same, Nat.min_eq_right (by omega)]⟩
      · rcases h.att u hu with h1 | ⟨x, y, h1, h2, h3, h4⟩
        · exact .inl (by show upd s.low v _ u = _; rw [upd_ne _ _ e]; exact h1)
        · exact .inr ⟨x, y, h1, h2, h3, by show _ = upd s.low v _ u; rw [upd_ne _ _ e]; exact h4⟩ }

/-! ### a new one -/
section disc
variable {v w : Nat} {r : List Nat} (ht : CT n bs gone root s) (hs : s.stack = v :: r) (hw : (bs v)[s.at_ v]? = some w) (hp : Pres n gone w) (hn : s.num w = 0)
include ht hs hw hp hn
theorem CT.disc : CT n bs gone root (s.disc v w) := by
  have hv : v ∈ s.stack := by rw [hs]; simp
  have hvn := ht.stV v hv
  have hvw : v ≠ w := fun e => hvn (e ▸ hn)
  have hwst : ∀ u ∈ s.stack, u ≠ w := fun u hu e => ht.stV u hu (e ▸ hn)
  have nw : (s.disc v w).num w = s.met + 1 := upd_same _ _ _
  have no : ∀ x, x ≠ w → (s.disc v w).num x = s.num x := fun x hx => upd_ne _ _ hx
  have nle : ∀ x, s.num x ≤ (s.disc v w).num x := by
    intro x
    by_cases e : x = w
    · subst e; omega
    · rw [no x e]; exact Nat.le_refl _
  have nz : ∀ x, (s.disc v w).num x ≠ 0 → x = w ∨ s.num x ≠ 0 := fun x hx => by
    by_cases e : x = w
    · exact .inl e
    · rw [no x e] at hx; exact .inr hx
  have hle := ht.numle
  have bl : ∀ x, (s.disc v w).Black x → s.Black x := fun x hx => by
    have e : x ≠ w := fun e => hx.2 (by show x ∈ w :: s.stack; simp [e])
    exact ⟨by have := hx.1; rwa [no x e] at this, fun h => hx.2 (by show x ∈ w :: s.stack; simp [h])⟩
  have blw : ∀ x, (s.disc v w).Black x → x ≠ w := fun x hx e => hx.2 (by show x ∈ w :: s.stack; simp [e])
  refine ⟨?_, ?_, ?_, ?_, ?_, ?_, ?_, ?_, at_le ht hw, ?_, ?_, ?_, ?_, ?_, ?_⟩
  · intro x hx
    rcases nz x hx with rfl | h
    · exact hp
    · exact ht.numP x h
  · intro x
    show _ ≤ s.met + 1
    by_cases e : x = w
    · subst e; omega
    · rw [no x e]; have := hle x; omega
  · intro x y hx e
    by_cases ex : x = w
    · by_cases ey : y = w
      · rw [ex, ey]
      · rw [ex, nw, no y ey] at e; have := hle y; omega
    · by_cases ey : y = w
      · rw [ey, nw, no x ex] at e; have := hle x; omega
      · rw [no x ex] at hx e; rw [no y ey] at e; exact ht.inj x y hx e
  · rw [no root fun e => by have := ht.root1; rw [e, hn] at this; cases this]; exact ht.root1
  · obtain ⟨o, h1, h2, h3⟩ := ht.ord
    refine ⟨w :: o, List.nodup_cons.2 ⟨fun h => (h3 w).1 h hn, h1⟩, by simp [CS.disc, h2], fun x => ?_⟩
    rw [List.mem_cons, h3]
    by_cases e : x = w
    · subst e; simp [nw]
    · rw [no x e]; simp [e]
  · intro u hu
    rcases List.mem_cons.1 hu with rfl | hu
    · omega
    · rw [no u (hwst u hu)]; exact ht.stV u hu
  · show (w :: s.stack).Pairwise _
    rw [List.pairwise_cons]
    refine ⟨fun u hu => by rw [nw, no u (hwst u hu)]; have := hle u; omega, ?_⟩
    refine ht.stS.imp_of_mem fun {a b} ha hb hab => ?_
    rw [no a (hwst a ha), no b (hwst b hb)]; exact hab
  · show Stk (upd s.up w v) root (w :: s.stack)
    have hc : Stk (upd s.up w v) root s.stack := ht.chain.congr fun a ha => upd_ne _ _ (hwst a ha)
    rw [hs] at hc ⊢
    exact ⟨upd_same _ _ _, hc⟩
  · intro x hx
    have e : x ≠ w := fun e => by subst e; omega
    rw [no x e] at hx
    show upd s.at_ v _ x = 0
    rw [upd_ne _ _ (fun (e : x = v) => hvn (by rw [← e]; exact hx))]; exact ht.at0 x hx
  · intro x y hx hy
    rcases Ex_inc hw rfl hx with h1 | ⟨rfl, rfl⟩
    · have := ht.seen x y h1 hy; have := nle y; omega
    · omega
  · intro x hx
    have e : x ≠ v := fun e => (bl x hx).2 (by rw [e]; exact hv)
    show upd s.at_ v _ x = _
    rw [upd_ne _ _ e]; exact ht.full x (bl x hx)
  · intro x u hx hu hlt y hy hyp
    have hxb := bl x hx
    have hys := ht.seen x y (ht.full' hxb hy) hyp
    have eyw : y ≠ w := fun e => hys (e ▸ hn)
    rw [no y eyw]
    rcases List.mem_cons.1 hu with rfl | hu
    · rw [nw]; have := hle y; omega
    · rw [no u (hwst u hu)] at hlt ⊢
      rw [no x (blw x hx)] at hlt
      exact ht.b1 x u hxb hu hlt y hy hyp
  · intro u hu x hx
    rcases List.mem_cons.1 hu with rfl | hus
    · have e : x = u := by
        refine Classical.byContradiction fun e => ?_
        rw [no x e, nw] at hx; have := hle x; omega
      subst e
      exact .refl ⟨hp, Nat.le_refl _⟩
    · have huw := hwst u hus
      rw [no u huw] at hx ⊢
      have mono : ∀ a, (Pres n gone a ∧ s.num u ≤ s.num a) → (Pres n gone a ∧ s.num u ≤ (s.disc v w).num a) := fun a ⟨h1, h2⟩ => ⟨h1, Nat.le_trans h2 (nle a)⟩
      by_cases e : x = w
      · subst e
        exact ((ht.tree u hus v (ht.le_top hs hus)).mono mono).step (List.mem_of_getElem? hw) ⟨hp, by rw [nw]; have := hle u; omega⟩
      · rw [no x e] at hx
        exact (ht.tree u hus x hx).mono mono
  · intro x hx
    have mono : ∀ z, s.num z ≠ 0 → ∀ a, (Pres n gone a ∧ s.num a ≠ 0 ∧ s.num a ≤ s.num z) → (Pres n gone a ∧ (s.disc v w).num a ≠ 0 ∧ (s.disc v w).num a ≤ s.num z) := fun z _ a ⟨h1, h2, h3⟩ => by
      have e : a ≠ w := fun e => h2 (e ▸ hn)
      rw [no a e]; exact ⟨h1, h2, h3⟩
    rcases nz x hx with rfl | h
    · refine (((ht.pth v hvn).mono (mono v hvn)).mono fun a ⟨h1, h2, h3⟩ => ⟨h1, h2, by rw [nw]; have := hle v; omega⟩).step (List.mem_of_getElem? hw) ⟨hp, by omega, Nat.le_refl _⟩
    · rw [no x fun e => h (e ▸ hn)]
      exact (ht.pth x h).mono (mono x h)

theorem CL.disc (h : CL n bs gone root s) : CL n bs gone root (s.disc v w) := by
  have hv : v ∈ s.stack := by rw [hs]; simp
  have hvn := ht.stV v hv
  have hwst : ∀ u ∈ s.stack, u ≠ w := fun u hu e => ht.stV u hu (e ▸ hn)
  have nw : (s.disc v w).num w = s.met + 1 := upd_same _ _ _
  have no : ∀ x, x ≠ w → (s.disc v w).num x = s.num x := fun x hx => upd_ne _ _ hx
  have lw : (s.disc v w).low w = s.met + 1 := upd_same _ _ _
  have lo : ∀ x, x ≠ w → (s.disc v w).low x = s.low x := fun x hx => upd_ne _ _ hx
  have nz : ∀ x, s.num x ≠ 0 → x ≠ w := fun x hx e => hx (e ▸ hn)
  have hle := ht.numle
  have hrw : root ≠ w := nz root (by have := ht.root1; omega)
  have bl : ∀ x, (s.disc v w).Black x → s.Black x ∧ x ≠ w := fun x hx => by
    have e : x ≠ w := fun e => hx.2 (by show x ∈ w :: s.stack; simp [e])
    exact ⟨⟨by have := hx.1; rwa [no x e] at this, fun h => hx.2 (by show x ∈ w :: s.stack; simp [h])⟩, e⟩
  have bl2 : ∀ x, s.Black x → (s.disc v w).Black x := fun x hx => by
    have e := nz x hx.1
    refine ⟨by rw [no x e]; exact hx.1, fun h => ?_⟩
    rcases List.mem_cons.1 h with h | h
    · exact e h
    · exact hx.2 h
  have inb : ∀ u x, u ≠ w → x ≠ w → (s.disc v w).InB u x → s.InB u x := fun u x hu hx hb => by
    have h1 := hb.1; rw [no u hu, no x hx] at h1
    refine ⟨h1, fun z hz hlt => ?_⟩
    have h2 := hb.2 z (by show z ∈ w :: s.stack; simp [hz])
    rw [no u hu, no x hx, no z (hwst z hz)] at h2
    exact h2 hlt
  have inb2 : ∀ u x, u ≠ w → s.num x ≠ 0 → s.InB u x → (s.disc v w).InB u x := fun u x hu hx hb => by
    refine ⟨by rw [no u hu, no x (nz x hx)]; exact hb.1, fun z hz hlt => ?_⟩
    rw [no x (nz x hx)]
    rcases List.mem_cons.1 hz with rfl | hz
    · rw [nw]; have := hle x; omega
    · rw [no u hu, no z (hwst z hz)] at hlt
      rw [no z (hwst z hz)]
      exact hb.2 z hz hlt
  have inw : ∀ u, u ∈ s.stack → ¬ (s.disc v w).InB u w := fun u hu hb => by
    have h2 := hb.2 w (by show w ∈ w :: s.stack; simp)
    rw [no u (hwst u hu)] at h2
    have := h2 (by rw [nw]; have := hle u; omega)
    omega
  have hx0 : ∀ y, ¬ s.Ex bs w y := fun y ⟨i, hi, _⟩ => by rw [ht.at0 w hn] at hi; omega
  refine ⟨?_, ?_, ?_, ?_, ?_, ?_, ?_, ?_, ?_⟩
  · intro u hu
    rcases List.mem_cons.1 hu with rfl | hu
    · omega
    · rw [no u (hwst u hu), lo u (hwst u hu)]; exact h.lowle u hu
  · intro u hu x y hx he hy
    rcases Ex_inc hw rfl he with h1 | ⟨rfl, rfl⟩
    · have hys := ht.seen x y h1 hy
      have hxw : x ≠ w := fun e => hx0 y (e ▸ h1)
      rw [no y (nz y hys)]
      rcases List.mem_cons.1 hu with rfl | hu
      · exfalso
        have := hx.1
        rw [nw, no x hxw] at this; have := hle x; omega
      · rw [lo u (hwst u hu)]
        exact h.lb u hu x y (inb u x (hwst u hu) hxw hx) h1 hy
    · rw [nw]
      rcases List.mem_cons.1 hu with rfl | hu
      · omega
      · rw [lo u (hwst u hu)]
        have := h.lowle u hu; have := hle u; omega
  · intro u hu
    rcases List.mem_cons.1 hu with rfl | hu
    · exact .inl (by rw [lw, nw])
    · rw [lo u (hwst u hu), no u (hwst u hu)]
      rcases h.att u hu with h1 | ⟨x, y, h1, h2, h3, h4⟩
      · exact .inl h1
      · refine .inr ⟨x, y, inb2 u x (hwst u hu) (fun e => ?_) h1, h2, by rw [no y (nz y h3)]; exact h3, by rw [no y (nz y h3)]; exact h4⟩
        have := h1.1; have := ht.stV u hu; omega
  · intro u hu
    obtain ⟨h1, h2, c, h3, h4, h5⟩ := h.cutT u hu
    exact ⟨h1, by rw [no u (nz u h2)]; exact h2, c, by rw [no c (nz c h3)]; exact h3, h4, h5⟩
  · intro u hu hb hc x hx hxu
    obtain ⟨hb', huw⟩ := bl u hb
    by_cases e : x = w
    · subst e
      have hvu : v ≠ u := fun e => hb'.2 (e ▸ hv)
      exact (h.cutF u hu hb' hc v hvn hvu).step (List.mem_of_getElem? hw) ⟨hp, hxu⟩
    · rw [no x e] at hx
      exact h.cutF u hu hb' hc x hx hxu
  · intro u hu hur hc x hx hin
    obtain ⟨hx', hxw⟩ := bl x hx
    rcases List.mem_cons.1 hu with rfl | hu
    · exfalso
      have := hin.1; rw [nw, no x hxw] at this; have := hle x; omega
    · exact h.cutS u hu hur hc x hx' (inb u x (hwst u hu) hxw hin)
  · intro hk x hxr hx hin
    obtain ⟨hx', hxw⟩ := bl x hx
    exact h.kids0 hk x hxr hx' (inb root x hrw hxw hin)
  · intro hk
    obtain ⟨c, h1, h2, h3, h4⟩ := h.kids1 hk
    refine ⟨c, h1, bl2 c h2, inb2 root c hrw h2.1 h3, fun x hxr hx hin => ?_⟩
    obtain ⟨hx', hxw⟩ := bl x hx
    exact h4 x hxr hx' (inb root x hrw hxw hin)
  · intro hk
    obtain ⟨c, d, h1, h2, h3⟩ := h.kids2 hk
    exact ⟨c, d, by rw [no c (nz c h1)]; exact h1, by rw [no d (nz d h2)]; exact h2, h3⟩
end disc
end
end Go.Proofs.Ytagcbnpahgfgmaa
