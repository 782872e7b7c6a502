/- joint.Cuts: it tells whether what is left hangs together, and who parts it. -/
import Derived.Test.YtagcbnpahgfgmaaVn
import Derived.Test.YtagcbnpahgfgmaaReg
import Derived.Test.YtagcbnpahgfgmaaCutQ
import Derived.BigQuiet
import Derived.BigRegion
import Derived.Deep.QuietTactic
import Derived.Deep.DeepCutAuto
import Derived.Deep.LoopGhost
import Derived.Deep.Cut
import Derived.Deep.RegionHeld3
namespace Go.Proofs.Ytagcbnpahgfgmaa
open Go Go.RowKit

def rowN (n : Nat) (f : Nat → Nat) : List Value := (List.range n).map fun i => vN (f i)
def rowB (n : Nat) (f : Nat → Bool) : List Value := (List.range n).map fun i => .bool (f i)
theorem rowN_len (n : Nat) (f : Nat → Nat) : (rowN n f).length = n := by simp [rowN]
theorem rowB_len (n : Nat) (f : Nat → Bool) : (rowB n f).length = n := by simp [rowB]
theorem rowN_set (n : Nat) (f : Nat → Nat) (i y : Nat) : (rowN n f).set i (vN y) = rowN n (upd f i y) := by
  apply List.ext_getElem (by simp [rowN])
  intro j h1 h2
  simp only [rowN, List.length_set, List.length_map, List.length_range] at h1
  simp only [rowN, List.getElem_set, List.getElem_map, List.getElem_range, upd]
  by_cases e : i = j
  · simp [e]
  · rw [if_neg e, if_neg (fun e' => e e'.symm)]
theorem rowB_set (n : Nat) (f : Nat → Bool) (i : Nat) (y : Bool) : (rowB n f).set i (.bool y) = rowB n (upd f i y) := by
  apply List.ext_getElem (by simp [rowB])
  intro j h1 h2
  simp only [rowB, List.length_set, List.length_map, List.length_range] at h1
  simp only [rowB, List.getElem_set, List.getElem_map, List.getElem_range, upd]
  by_cases e : i = j
  · simp [e]
  · rw [if_neg e, if_neg (fun e' => e e'.symm)]
theorem rowN_zero (n : Nat) : List.replicate n (Value.int .i64 0) = rowN n (fun _ => 0) := by
  apply List.ext_getElem (by simp [rowN])
  intro j h1 h2
  simp [rowN, vN]
theorem rowB_zero (n : Nat) : List.replicate n (Value.bool false) = rowB n (fun _ => false) := by
  apply List.ext_getElem (by simp [rowB])
  intro j h1 h2
  simp [rowB]
theorem Row.atN {w : World} {g n cap : Nat} {e : TypeId} {f : Nat → Nat} (h : Row w g e 1 cap (rowN n f)) {i : Nat} (hi : i < n) : w.cell? ⟨g, i, none⟩ = some (.int .i64 (f i)) := by
  rw [h.cell? i (by rw [rowN_len]; exact hi)]; simp [rowN, hi, vN]
theorem Row.atB {w : World} {g n cap : Nat} {e : TypeId} {f : Nat → Bool} (h : Row w g e 1 cap (rowB n f)) {i : Nat} (hi : i < n) : w.cell? ⟨g, i, none⟩ = some (.bool (f i)) := by
  rw [h.cell? i (by rw [rowB_len]; exact hi)]; simp [rowB, hi]

/-- Block G holds n slices, v's reads as 'bs v'. -/
def RdG (w : World) (G n : Nat) (bs : Nat → List Nat) : Prop := ∀ v, v < n → ∃ au cu, w.cell? ⟨G, v, none⟩ = some (.slice au (bs v).length cu) ∧ CellsAt w au ((bs v).map vN)
theorem RdG.below {w w' : World} {G n : Nat} {bs : Nat → List Nat} (h : RdG w G n bs) (hb : Below w.heap.size w w') : RdG w' G n bs := fun v hv => by
  obtain ⟨au, cu, h1, h2⟩ := h v hv
  exact ⟨au, cu, keep_cell hb h1, h2.below hb⟩

/-- what the search keeps -/
structure CM (w : World) (B gn gl gu ga gc gs cs n : Nat) (num low up at_ : Nat → Nat) (cut : Nat → Bool) (stack : List Nat) : Prop where
  rn : Row w gn 3 1 n (rowN n num)
  rl : Row w gl 3 1 n (rowN n low)
  ru : Row w gu 3 1 n (rowN n up)
  ra : Row w ga 3 1 n (rowN n at_)
  rc : Row w gc 4 1 n (rowB n cut)
  rs : Row w gs 3 1 cs (stack.reverse.map vN)
  nd : gn ≠ gl ∧ gn ≠ gu ∧ gn ≠ ga ∧ gn ≠ gc ∧ gl ≠ gu ∧ gl ≠ ga ∧ gl ≠ gc ∧ gu ≠ ga ∧ gu ≠ gc ∧ ga ≠ gc
  ns : gs ≠ gn ∧ gs ≠ gl ∧ gs ≠ gu ∧ gs ≠ ga ∧ gs ≠ gc
  lo : B ≤ gn ∧ B ≤ gl ∧ B ≤ gu ∧ B ≤ ga ∧ B ≤ gc ∧ B ≤ gs
namespace CM
variable {w w' : World} {B gn gl gu ga gc gs cs n : Nat} {num low up at_ : Nat → Nat} {cut : Nat → Bool} {stack : List Nat}
theorem ext (h : CM w B gn gl gu ga gc gs cs n num low up at_ cut stack) (hb : Below w.heap.size w w') : CM w' B gn gl gu ga gc gs cs n num low up at_ cut stack :=
  { h with rn := h.rn.below hb h.rn.lt, rl := h.rl.below hb h.rl.lt, ru := h.ru.below hb h.ru.lt, ra := h.ra.below hb h.ra.lt, rc := h.rc.below hb h.rc.lt, rs := h.rs.below hb h.rs.lt }
theorem set_num (h : CM w B gn gl gu ga gc gs cs n num low up at_ cut stack) (v t : Nat) : CM (w.setCell ⟨gn, v, none⟩ (vN t)) B gn gl gu ga gc gs cs n (upd num v t) low up at_ cut stack := by
  obtain ⟨rn, rl, ru, ra, rc, rs, nd, ns, lo⟩ := h
  exact ⟨by rw [← rowN_set]; exact rn.set v _, rl.other nd.1.symm _, ru.other nd.2.1.symm _, ra.other nd.2.2.1.symm _, rc.other nd.2.2.2.1.symm _, rs.other ns.1 _, nd, ns, lo⟩
theorem set_low (h : CM w B gn gl gu ga gc gs cs n num low up at_ cut stack) (v t : Nat) : CM (w.setCell ⟨gl, v, none⟩ (vN t)) B gn gl gu ga gc gs cs n num (upd low v t) up at_ cut stack := by
  obtain ⟨rn, rl, ru, ra, rc, rs, nd, ns, lo⟩ := h
  exact ⟨rn.other nd.1 _, by rw [← rowN_set]; exact rl.set v _, ru.other nd.2.2.2.2.1.symm _, ra.other nd.2.2.2.2.2.1.symm _, rc.other nd.2.2.2.2.2.2.1.symm _, rs.other ns.2.1 _, nd, ns, lo⟩
theorem set_up (h : CM w B gn gl gu ga gc gs cs n num low up at_ cut stack) (v t : Nat) : CM (w.setCell ⟨gu, v, none⟩ (vN t)) B gn gl gu ga gc gs cs n num low (upd up v t) at_ cut stack := by
  obtain ⟨rn, rl, ru, ra, rc, rs, nd, ns, lo⟩ := h
  exact ⟨rn.other nd.2.1 _, rl.other nd.2.2.2.2.1 _, by rw [← rowN_set]; exact ru.set v _, ra.other nd.2.2.2.2.2.2.2.1.symm _, rc.other nd.2.2.2.2.2.2.2.2.1.symm _, rs.other ns.2.2.1 _, nd, ns, lo⟩
theorem set_at (h : CM w B gn gl gu ga gc gs cs n num low up at_ cut stack) (v t : Nat) : CM (w.setCell ⟨ga, v, none⟩ (vN t)) B gn gl gu ga gc gs cs n num low up (upd at_ v t) cut stack := by
  obtain ⟨rn, rl, ru, ra, rc, rs, nd, ns, lo⟩ := h
  exact ⟨rn.other nd.2.2.1 _, rl.other nd.2.2.2.2.2.1 _, ru.other nd.2.2.2.2.2.2.2.1 _, by rw [← rowN_set]; exact ra.set v _, rc.other nd.2.2.2.2.2.2.2.2.2.symm _, rs.other ns.2.2.2.1 _, nd, ns, lo⟩
theorem set_cut (h : CM w B gn gl gu ga gc gs cs n num low up at_ cut stack) (v : Nat) (b : Bool) : CM (w.setCell ⟨gc, v, none⟩ (.bool b)) B gn gl gu ga gc gs cs n num low up at_ (upd cut v b) stack := by
  obtain ⟨rn, rl, ru, ra, rc, rs, nd, ns, lo⟩ := h
  exact ⟨rn.other nd.2.2.2.1 _, rl.other nd.2.2.2.2.2.2.1 _, ru.other nd.2.2.2.2.2.2.2.2.1 _, ra.other nd.2.2.2.2.2.2.2.2.2 _, by rw [← rowB_set]; exact rc.set v _, rs.other ns.2.2.2.2 _, nd, ns, lo⟩
theorem pop (h : CM w B gn gl gu ga gc gs cs n num low up at_ cut stack) : CM w B gn gl gu ga gc gs cs n num low up at_ cut stack.tail :=
  { h with rs := (by
      have := h.rs.take (stack.length - 1)
      cases stack with
      | nil => simpa using this
      | cons a r => simpa [List.take_append] using this) }
theorem push {x g' c' : Nat} (h : CM w B gn gl gu ga gc gs cs n num low up at_ cut stack) (hr : Row w' g' 3 1 c' (stack.reverse.map vN ++ [vN x])) (hg : w.grownBy w' (some gs)) (hor : some gs = some g' ∨ w.heap.size ≤ g') :
    CM w' B gn gl gu ga gc g' c' n num low up at_ cut (x :: stack) := by
  obtain ⟨rn, rl, ru, ra, rc, rs, nd, ns, lo⟩ := h
  have hne : ∀ k, k ≠ gs → k < w.heap.size → g' ≠ k := fun k hk hlt e => by
    rcases hor with h1 | h1
    · cases h1; exact hk e.symm
    · omega
  have hs : ∀ k, gs ≠ k → some gs ≠ some k := fun k hk e => hk (Option.some.inj e)
  refine ⟨rn.grown hg (hs _ ns.1), rl.grown hg (hs _ ns.2.1), ru.grown hg (hs _ ns.2.2.1), ra.grown hg (hs _ ns.2.2.2.1), rc.grown hg (hs _ ns.2.2.2.2), by simpa using hr, nd, ?_, ?_⟩
  · exact ⟨hne _ ns.1.symm rn.lt, hne _ ns.2.1.symm rl.lt, hne _ ns.2.2.1.symm ru.lt, hne _ ns.2.2.2.1.symm ra.lt, hne _ ns.2.2.2.2.symm rc.lt⟩
  · obtain ⟨l1, l2, l3, l4, l5, l6⟩ := lo
    refine ⟨l1, l2, l3, l4, l5, ?_⟩
    rcases hor with h1 | h1
    · cases h1; exact l6
    · have := rn.lt; omega
end CM

theorem CT.met_le {n : Nat} {bs : Nat → List Nat} {gone : Int} {root : Nat} {s : CS} (h : CT n bs gone root s) : s.met ≤ n := by
  obtain ⟨o, h1, h2, h3⟩ := h.ord
  have := nodup_len_le (m := List.range n) h1 fun x hx => List.mem_range.2 (h.numP x ((h3 x).1 hx)).1
  rw [List.length_range] at this; omega
def sumR (f : Nat → Nat) : Nat → Nat
  | 0 => 0
  | n + 1 => sumR f n + f n
theorem sumR_congr {f g : Nat → Nat} {n : Nat} (h : ∀ x, x < n → f x = g x) : sumR f n = sumR g n := by
  induction n with
  | zero => rfl
  | succ n ih => rw [sumR, sumR, ih fun x hx => h x (by omega), h n (by omega)]
theorem sumR_one {f g : Nat → Nat} {n v : Nat} (hv : v < n) (h1 : g v + 1 = f v) (h : ∀ x, x ≠ v → f x = g x) : sumR g n + 1 = sumR f n := by
  induction n with
  | zero => omega
  | succ n ih =>
    rw [sumR, sumR]
    by_cases e : v = n
    · subst e
      have : sumR f v = sumR g v := sumR_congr fun x hx => h x (by omega)
      omega
    · have := ih (by omega); have := h n (fun e' => e e'.symm); omega
def restS (n : Nat) (bs : Nat → List Nat) (at_ : Nat → Nat) : Nat := sumR (fun v => (bs v).length - at_ v) n
theorem restS_inc {n : Nat} {bs : Nat → List Nat} {at_ : Nat → Nat} {v : Nat} (hv : v < n) (h : at_ v < (bs v).length) : restS n bs (upd at_ v (at_ v + 1)) + 1 = restS n bs at_ :=
  sumR_one hv (by simp only [upd_same]; omega) fun x hx => by simp only [upd_ne _ _ hx]

/-- What 'Cuts' hands back. -/
def RetCuts (w : World) (n : Nat) (bs : Nat → List Nat) (gone : Int) (e : Ending) (w' : World) : Prop :=
  ∃ (j : Bool) (cut : Nat → Bool) (gc : Nat), e = .returned (.tuple #[.bool j, .slice (some ⟨gc, 0, none⟩) n n]) ∧ Row w' gc 4 1 n (rowB n cut) ∧ w.heap.size ≤ gc ∧ Below w.heap.size w w' ∧ CutSpec n bs gone j cut

theorem left_len (n : Nat) (gone : Int) (h : -1 ≤ gone) (hn : gone < n) : (((List.range n).filter (presB gone)).length : Int) = if 0 ≤ gone then (n : Int) - 1 else n := by
  have key : ∀ m : Nat, (((List.range m).filter (presB gone)).length : Int) = if 0 ≤ gone ∧ gone < m then (m : Int) - 1 else m := by
    intro m
    induction m with
    | zero => simp
    | succ m ih =>
      rw [List.range_succ, List.filter_append, List.length_append]
      by_cases e : (m : Int) = gone
      · have hf : List.filter (presB gone) [m] = [] := by simp [presB, e]
        have : ¬ (0 ≤ gone ∧ gone < (m : Int)) := by omega
        rw [if_neg this] at ih
        rw [hf, if_pos (by omega)]
        simp only [List.length_nil]; omega
      · have hf : List.filter (presB gone) [m] = [m] := by simp [presB, e]
        rw [hf]
        by_cases h2 : 0 ≤ gone ∧ gone < (m : Int)
        · rw [if_pos h2] at ih; rw [if_pos (by omega)]; simp only [List.length_cons, List.length_nil]; omega
        · rw [if_neg h2] at ih; rw [if_neg (by omega)]; simp only [List.length_cons, List.length_nil]; omega
  rw [key n]
  by_cases h0 : 0 ≤ gone
  · rw [if_pos ⟨h0, hn⟩, if_pos h0]
  · rw [if_neg (by omega), if_neg h0]

theorem cut_none {n : Nat} {bs : Nat → List Nat} {gone : Int} (h : ∀ v, ¬ Pres n gone v) : CutSpec n bs gone true (fun _ => false) :=
  ⟨by simp; exact fun x y hx => absurd hx (h x), fun _ u hu => absurd hu (h u), fun _ _ => rfl⟩
end Go.Proofs.Ytagcbnpahgfgmaa
