/- walk.walk: what memory it keeps. -/
import Derived.Test.YtddndhhhmlcgjaaStart
import Derived.Test.YtddndhhhmlcgjaaDfs
import Derived.Deep.Cut
namespace Go.Proofs.Ytddndhhhmlcgjaa
open Go Go.RowKit

theorem bool_info : (Try.prog.info? 4).map (fun i => (i.zero, i.size, i.bytes)) = some (some (.bool false), 1, 1) := by kernel_rfl

/-- The five rows of a walk: up, met, tried, order, open (the youngest first). -/
structure WM (w : World) (B gu gm gt go gp co cp n : Nat) (up : List Int) (met : List Bool) (tried order opn : List Nat) : Prop where
  lu : up.length = n
  lm : met.length = n
  lt : tried.length = n
  ru : Row w gu 3 1 n (up.map (Value.int .i64))
  rm : Row w gm 4 1 n (met.map Value.bool)
  rt : Row w gt 3 1 n (tried.map vN)
  ro : Row w go 3 1 co (order.map vN)
  rp : Row w gp 3 1 cp (opn.reverse.map vN)
  d1 : gu ≠ gm ∧ gu ≠ gt ∧ gu ≠ go ∧ gu ≠ gp
  d2 : gm ≠ gt ∧ gm ≠ go ∧ gm ≠ gp
  d3 : gt ≠ go ∧ gt ≠ gp
  d4 : go ≠ gp
  lo : B ≤ gu ∧ B ≤ gm ∧ B ≤ gt ∧ B ≤ go ∧ B ≤ gp

namespace WM
variable {w w' : World} {B gu gm gt go gp co cp n : Nat} {up : List Int} {met : List Bool} {tried order opn : List Nat}
theorem ext (h : WM w B gu gm gt go gp co cp n up met tried order opn) (hb : Below w.heap.size w w') : WM w' B gu gm gt go gp co cp n up met tried order opn :=
  { h with ru := h.ru.below hb h.ru.lt, rm := h.rm.below hb h.rm.lt, rt := h.rt.below hb h.rt.lt, ro := h.ro.below hb h.ro.lt, rp := h.rp.below hb h.rp.lt }
theorem set_tried (h : WM w B gu gm gt go gp co cp n up met tried order opn) (v t : Nat) : WM (w.setCell ⟨gt, v, none⟩ (vN t)) B gu gm gt go gp co cp n up met (tried.set v t) order opn :=
  { h with
    lt := by simpa using h.lt
    ru := h.ru.other (by simpa using h.d1.2.1) _, rm := h.rm.other (by simpa using h.d2.1) _
    rt := by have := h.rt.set v (vN t); rwa [← List.map_set] at this
    ro := h.ro.other (by simpa using h.d3.1.symm) _, rp := h.rp.other (by simpa using h.d3.2.symm) _ }
theorem set_met (h : WM w B gu gm gt go gp co cp n up met tried order opn) (v : Nat) (b : Bool) : WM (w.setCell ⟨gm, v, none⟩ (.bool b)) B gu gm gt go gp co cp n up (met.set v b) tried order opn :=
  { h with
    lm := by simpa using h.lm
    ru := h.ru.other (by simpa using h.d1.1) _
    rm := by have := h.rm.set v (.bool b); rwa [← List.map_set] at this
    rt := h.rt.other (by simpa using h.d2.1.symm) _
    ro := h.ro.other (by simpa using h.d2.2.1.symm) _, rp := h.rp.other (by simpa using h.d2.2.2.symm) _ }
theorem set_up (h : WM w B gu gm gt go gp co cp n up met tried order opn) (v : Nat) (x : Int) : WM (w.setCell ⟨gu, v, none⟩ (.int .i64 x)) B gu gm gt go gp co cp n (up.set v x) met tried order opn :=
  { h with
    lu := by simpa using h.lu
    ru := by have := h.ru.set v (.int .i64 x); rwa [← List.map_set] at this
    rm := h.rm.other (by simpa using h.d1.1.symm) _, rt := h.rt.other (by simpa using h.d1.2.1.symm) _
    ro := h.ro.other (by simpa using h.d1.2.2.1.symm) _, rp := h.rp.other (by simpa using h.d1.2.2.2.symm) _ }
theorem push_order (h : WM w B gu gm gt go gp co cp n up met tried order opn) {x g c : Nat} (hr : Row w' g 3 1 c (order.map vN ++ [vN x])) (hg : w.grownBy w' (some go)) (hg' : some go = some g ∨ w.heap.size ≤ g) :
    WM w' B gu gm gt g gp c cp n up met tried (order ++ [x]) opn := by
  have hgo : ∀ {r e s cap vs}, Row w r e s cap vs → r ≠ go → r ≠ g := fun hr hne e => by
    rcases hg' with e' | e'
    · cases e'; exact hne e
    · have := hr.lt; omega
  have hlo : B ≤ g := by
    rcases hg' with e | e
    · cases e; exact h.lo.2.2.2.1
    · have := h.lo.1; have := h.ru.lt; omega
  exact { h with
    ru := h.ru.grown hg (by simp; exact h.d1.2.2.1.symm), rm := h.rm.grown hg (by simp; exact h.d2.2.1.symm), rt := h.rt.grown hg (by simp; exact h.d3.1.symm)
    ro := by simpa using hr
    rp := h.rp.grown hg (by simp; exact h.d4)
    d1 := ⟨h.d1.1, h.d1.2.1, hgo h.ru h.d1.2.2.1, h.d1.2.2.2⟩
    d2 := ⟨h.d2.1, hgo h.rm h.d2.2.1, h.d2.2.2⟩
    d3 := ⟨hgo h.rt h.d3.1, h.d3.2⟩
    d4 := (hgo h.rp h.d4.symm).symm
    lo := ⟨h.lo.1, h.lo.2.1, h.lo.2.2.1, hlo, h.lo.2.2.2.2⟩ }
theorem push_open (h : WM w B gu gm gt go gp co cp n up met tried order opn) {x g c : Nat} (hr : Row w' g 3 1 c (opn.reverse.map vN ++ [vN x])) (hg : w.grownBy w' (some gp)) (hg' : some gp = some g ∨ w.heap.size ≤ g) :
    WM w' B gu gm gt go g co c n up met tried order (x :: opn) := by
  have hgo : ∀ {r e s cap vs}, Row w r e s cap vs → r ≠ gp → r ≠ g := fun hr hne e => by
    rcases hg' with e' | e'
    · cases e'; exact hne e
    · have := hr.lt; omega
  have hlo : B ≤ g := by
    rcases hg' with e | e
    · cases e; exact h.lo.2.2.2.2
    · have := h.lo.1; have := h.ru.lt; omega
  exact { h with
    ru := h.ru.grown hg (by simp; exact h.d1.2.2.2.symm), rm := h.rm.grown hg (by simp; exact h.d2.2.2.symm), rt := h.rt.grown hg (by simp; exact h.d3.2.symm)
    ro := h.ro.grown hg (by simp; exact h.d4.symm)
    rp := by simpa using hr
    d1 := ⟨h.d1.1, h.d1.2.1, h.d1.2.2.1, hgo h.ru h.d1.2.2.2⟩
    d2 := ⟨h.d2.1, h.d2.2.1, hgo h.rm h.d2.2.2⟩
    d3 := ⟨h.d3.1, hgo h.rt h.d3.2⟩
    d4 := hgo h.ro h.d4
    lo := ⟨h.lo.1, h.lo.2.1, h.lo.2.2.1, h.lo.2.2.2.1, hlo⟩ }
theorem pop {v : Nat} (h : WM w B gu gm gt go gp co cp n up met tried order (v :: opn)) : WM w B gu gm gt go gp co cp n up met tried order opn := by
  have h1 := h.rp.take opn.length
  simp only [List.reverse_cons, List.map_append] at h1
  rw [List.take_left' (by simp)] at h1
  exact { h with rp := h1 }
end WM

theorem Own.shape {w : World} {u : Value} {e : TypeId} {vs : List Value} (h : Own w u e 1 vs.length vs) : ∃ a cap, u = .slice a vs.length cap ∧ CellsAt w a vs := by
  rcases h.2 with ⟨rfl, h0⟩ | ⟨g, cap, rfl, _, hr⟩
  · exact ⟨none, 0, by rw [h0], by intro i x hx; rw [List.eq_nil_of_length_eq_zero h0] at hx; simp at hx⟩
  · exact ⟨_, cap, rfl, hr.at_⟩

/-- What walk answers. -/
def RetWalk (w : World) (n : Nat) (r : List Nat × List Int) (e : Ending) (w' : World) : Prop :=
  ∃ go co gu, e = .returned (.tuple #[.slice (some ⟨go, 0, none⟩) r.1.length co, .slice (some ⟨gu, 0, none⟩) n n]) ∧ Row w' go 3 1 co (r.1.map vN) ∧ Row w' gu 3 1 n (r.2.map (Value.int .i64)) ∧ r.2.length = n ∧
    w.heap.size ≤ go ∧ w.heap.size ≤ gu ∧ go ≠ gu ∧ Below w.heap.size w w'
end Go.Proofs.Ytddndhhhmlcgjaa
