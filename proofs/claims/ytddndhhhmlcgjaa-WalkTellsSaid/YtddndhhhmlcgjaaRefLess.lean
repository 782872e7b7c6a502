/- fretworkref04.less; the memory of ways. -/
import Derived.Test.YtddndhhhmlcgjaaRefQP
import Derived.Test.YtddndhhhmlcgjaaRefParts
namespace Go.Proofs.Ytddndhhhmlcgjaa
open Go Go.RowKit

theorem lessB_drop {p q : List Nat} {k : Nat} {x y : Nat} (hx : p[k]? = some x) (hy : q[k]? = some y) : lessB (p.drop k) (q.drop k) = if x = y then lessB (p.drop (k + 1)) (q.drop (k + 1)) else decide (x < y) := by
  obtain ⟨h1, rfl⟩ := List.getElem?_eq_some_iff.1 hx
  obtain ⟨h2, rfl⟩ := List.getElem?_eq_some_iff.1 hy
  rw [List.drop_eq_getElem_cons h1, List.drop_eq_getElem_cons h2, lessB]

set_option maxHeartbeats 1000000 in
theorem less_walk (a b : Option Addr) (ca cb : Nat) (p q : List Nat) (w : World) (hx : RdI w a (castL p)) (hy : RdI w b (castL q)) (hl : p.length = q.length) (hlen : p.length ≤ 1000) :
    Calls Try.prog 32 #[.slice a p.length ca, .slice b q.length cb] w (RetB w (lessB p q)) := by
  go_enter Try.func32, Try.ntmps32
  go_wp2_with fail
  go_loopg [5] p.length (fun r i wr => ∃ k : Nat, i = .int .i64 k ∧ k + r = p.length ∧ lessB p q = lessB (p.drop k) (q.drop k) ∧ ∃ d, wr = w.drewN d)
  case atStart => exact ⟨0, rfl, by omega, rfl, 0, rfl⟩
  case round =>
    obtain ⟨k, rfl, hkr, hsame, d, rfl⟩ := hrel
    by_cases h1 : k < p.length
    · obtain ⟨x, hxk⟩ : ∃ x, p[k]? = some x := ⟨p[k], by simp⟩
      obtain ⟨y, hyk⟩ : ∃ y, q[k]? = some y := ⟨q[k]'(by omega), by simp⟩
      obtain ⟨b1, o1, rfl, c1⟩ := hx.at k (by rw [castL_len]; exact h1)
      obtain ⟨b2, o2, rfl, c2⟩ := hy.at k (by rw [castL_len]; omega)
      have e1 : (castL p)[k]'(by rw [castL_len]; exact h1) = (x : Int) := by
        obtain ⟨_, e⟩ := List.getElem?_eq_some_iff.1 hxk
        simp [castL, e]
      have e2 : (castL q)[k]'(by rw [castL_len]; omega) = (y : Int) := by
        obtain ⟨_, e⟩ := List.getElem?_eq_some_iff.1 hyk
        simp [castL, e]
      rw [e1] at c1; rw [e2] at c2
      rw [lessB_drop hxk hyk] at hsame
      have i1 : (k : Int) < (p.length : Int) := by omega
      have i2 : (k : Int) < (q.length : Int) := by omega
      have Hkr := Lib.hid hkr
      clear hxk hyk e1 e2 hkr
      by_cases he : x = y
      · rw [if_pos he] at hsame
        have g1 : ((x : Int) != (y : Int)) = false := by rw [he]; simp
        have Hs := Lib.hid hsame; clear hsame he
        go_wp2_with fail
        go_quiet (fail)
        go_wp2_with fail
        go_roundg (gk - 1)
        case measure => have := Hkr.out; omega
        case rel => exact ⟨k + 1, by go_num, by have := Hkr.out; omega, Hs.out, _, rfl⟩
      · rw [if_neg he] at hsame
        have g1 : ((x : Int) != (y : Int)) = true := by rw [bne_iff_ne]; omega
        have hres : lessB p q = decide ((x : Int) < (y : Int)) := by
          rw [hsame]; by_cases h : x < y <;> simp [h]
        have Hres := Lib.hid hres; clear hsame he hres
        go_wp2_with fail
        go_quiet (fail)
        go_wp2_with fail
        go_quiet (fail)
        go_wp2_with fail
        go_ret
        exact ⟨by rw [Hres.out] <;> simp, _, by rw [World.drewN_drewN, World.drewN_drewN]⟩
    · have hk : k = p.length := by omega
      have hres : lessB p q = false := by
        rw [hsame, hk, List.drop_length]; simp [lessB]
      have Hres := Lib.hid hres; clear hsame hres
      go_wp2_with fail
      go_ret
      exact ⟨by rw [Hres.out] <;> rfl, _, rfl⟩

/-- the memory of ways -/
structure WS (W1 w : World) (gw m : Nat) (vals : List Value) (ways : Nat → List Nat) : Prop where
  outer : Row w gw 27 1 m vals
  len : vals.length = m
  row : ∀ (i : Nat) (u : Value), vals[i]? = some u → ∃ a c, u = .slice a (ways i).length c ∧ RdI w a (castL (ways i)) ∧ ∀ ad, a = some ad → ad.block ≠ gw
  lo : W1.heap.size ≤ gw
  bl : Below W1.heap.size W1 w
def updW (ways : Nat → List Nat) (i : Nat) (l : List Nat) : Nat → List Nat := fun j => if j = i then l else ways j
theorem WS.ext {W1 w w' : World} {gw m : Nat} {vals : List Value} {ways : Nat → List Nat} (h : WS W1 w gw m vals ways) (hb : Below w.heap.size w w') : WS W1 w' gw m vals ways :=
  { h with
    outer := h.outer.below hb h.outer.lt
    row := fun i u hu => by
      obtain ⟨a, c, h1, h2, h3⟩ := h.row i u hu
      exact ⟨a, c, h1, h2.below hb, h3⟩
    bl := bl_trans h.bl hb }
theorem RdI.other {w : World} {a : Option Addr} {xs : List Int} (h : RdI w a xs) {p : Addr} (hne : ∀ ad, a = some ad → p.block ≠ ad.block) (u : Value) : RdI (w.setCell p u) a xs := by
  intro i v hv
  obtain ⟨b, o, ha, hc⟩ := h i v hv
  exact ⟨b, o, ha, (World.cell?_setCell_far w p ⟨b, o + i, none⟩ u (hne ⟨b, o, none⟩ ha)).trans hc⟩
theorem WS.store {W1 w : World} {gw m : Nat} {vals : List Value} {ways : Nat → List Nat} (h : WS W1 w gw m vals ways) (i : Nat) {a : Option Addr} {c : Nat} {l : List Nat} (hl : RdI w a (castL l)) (hne : ∀ ad, a = some ad → ad.block ≠ gw) :
    WS W1 (w.setCell ⟨gw, i, none⟩ (.slice a l.length c)) gw m (vals.set i (.slice a l.length c)) (updW ways i l) := by
  refine ⟨h.outer.set i _, by simp [h.len], ?_, h.lo, h.bl.setCell h.lo _⟩
  intro j u hu
  rw [List.getElem?_set] at hu
  unfold updW
  by_cases e : i = j
  · rw [if_pos e] at hu
    split at hu
    · cases hu
      rw [if_pos e.symm]
      exact ⟨a, c, rfl, hl.other (fun ad had => (hne ad had).symm) _, hne⟩
    · cases hu
  · rw [if_neg e] at hu
    rw [if_neg (fun e' => e e'.symm)]
    obtain ⟨a', c', h1, h2, h3⟩ := h.row j u hu
    exact ⟨a', c', h1, h2.other (fun ad had => (h3 ad had).symm) _, h3⟩

/-- which ways are known -/
def UptoW (bs : List (List Nat)) (d : List Int) (st f w : Nat) (ways : Nat → List Nat) : Prop :=
  (∀ (u j : Nat), d[u]? = some (j : Int) → (j ≤ f ∨ (j = f + 1 ∧ u < w)) → Least bs d st u (ways u)) ∧ (∀ u : Nat, (∀ j : Nat, d[u]? = some (j : Int) → f < j ∧ (j = f + 1 → w ≤ u)) → ways u = [])
theorem UptoW.start {bs : List (List Nat)} {d : List Int} {n st : Nat} (hd : IsDist bs n st d) : UptoW bs d st 0 0 (updW (fun _ => []) st [st]) := by
  refine ⟨fun u j hu hj => ?_, fun u hu => ?_⟩
  · have hj0 : j = 0 := by omega
    subst hj0
    have := hd.zero u (by simpa using hu)
    subst this
    simp only [updW, if_true]
    exact Least.start hd
  · unfold updW
    rw [if_neg]
    intro e
    subst e
    have := hu 0 (by simpa using hd.st0)
    omega
theorem UptoW.next {bs : List (List Nat)} {d : List Int} {n st f : Nat} {ways : Nat → List Nat} (hd : IsDist bs n st d) (h : UptoW bs d st f n ways) : UptoW bs d st (f + 1) 0 ways := by
  refine ⟨fun u j hu hj => h.1 u j hu ?_, fun u hu => h.2 u fun j hj => ?_⟩
  · have := (List.getElem?_eq_some_iff.1 hu).1
    rw [hd.len] at this
    omega
  · have := hu j hj
    exact ⟨by omega, fun e => by omega⟩
theorem UptoW.pass {bs : List (List Nat)} {d : List Int} {st f w : Nat} {ways : Nat → List Nat} (h : UptoW bs d st f w ways) (hw : d[w]? ≠ some ((f : Int) + 1)) : UptoW bs d st f (w + 1) ways := by
  refine ⟨fun u j hu hj => h.1 u j hu ?_, fun u hu => h.2 u fun j hj => ?_⟩
  · rcases hj with hj | ⟨rfl, hj⟩
    · exact .inl hj
    · right
      refine ⟨rfl, ?_⟩
      by_cases e : u = w
      · subst e; exact absurd hu (by simpa using hw)
      · omega
  · have := hu j hj
    exact ⟨this.1, fun e => by have := this.2 e; omega⟩
theorem UptoW.add {bs : List (List Nat)} {d : List Int} {st f w : Nat} {ways ways' : Nat → List Nat} (h : UptoW bs d st f w ways) (hw : d[w]? = some ((f : Int) + 1)) (hl : Least bs d st w (ways' w)) (hsame : ∀ u, u ≠ w → ways' u = ways u) : UptoW bs d st f (w + 1) ways' := by
  refine ⟨fun u j hu hj => ?_, fun u hu => ?_⟩
  · by_cases e : u = w
    · subst e; exact hl
    · rw [hsame u e]
      refine h.1 u j hu ?_
      rcases hj with hj | ⟨rfl, hj⟩
      · exact .inl hj
      · exact .inr ⟨rfl, by omega⟩
  · by_cases e : u = w
    · subst e
      have := hu (f + 1) (by rw [hw]; congr 1)
      have := this.2 rfl
      omega
    · rw [hsame u e]
      refine h.2 u fun j hj => ?_
      have := hu j hj
      exact ⟨this.1, fun e => by have := this.2 e; omega⟩
end Go.Proofs.Ytddndhhhmlcgjaa
