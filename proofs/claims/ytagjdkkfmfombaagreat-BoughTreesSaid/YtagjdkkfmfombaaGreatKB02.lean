/- Facts that the claim rests on, part 3. -/
import Derived.Test.YtagjdkkfmfombaaGreatKB01
namespace Go.Proofs.YtagjdkkfmfombaaGreat
abbrev Lk := Int × Int × Int
def cmpL (a b : Lk) : Int := orI (cmpI a.1 b.1) (orI (cmpI a.2.1 b.2.1) (cmpI a.2.2 b.2.2))
def LtL (a b : Lk) : Prop := a.1 < b.1 ∨ (a.1 = b.1 ∧ (a.2.1 < b.2.1 ∨ (a.2.1 = b.2.1 ∧ a.2.2 < b.2.2)))
instance instLtL : DecidableRel LtL := fun a b => by unfold LtL; infer_instance
theorem cmpL_neg (a b : Lk) : cmpL a b < 0 ↔ LtL a b := by
 unfold cmpL orI cmpI LtL
 repeat' split
 all_goals omega
theorem LtL.trans {a b c : Lk} (h : LtL a b) (k : LtL b c) : LtL a c := by unfold LtL at *; omega
def OkL (k : Lk) : Prop := 0 ≤ k.1 ∧ k.1 < k.2.1 ∧ k.2.1 < 1048576 ∧ 0 ≤ k.2.2 ∧ k.2.2 ≤ 1048576
instance instOkL (k : Lk) : Decidable (OkL k) := by unfold OkL; infer_instance
def RightL (ls : List Lk) : Prop := ls.length ≤ 1000 ∧ (∀ k ∈ ls, OkL k) ∧ ls.Pairwise LtL
instance instRightL (ls : List Lk) : Decidable (RightL ls) := by unfold RightL; infer_instance
def rightL (ls : List Lk) : Bool := decide (RightL ls)
theorem rightL_iff (ls : List Lk) : rightL ls = true ↔ RightL ls := by unfold rightL; rw [decide_eq_true_eq]
theorem pair_chain {α : Type} {R : α → α → Prop} (ht : ∀ a b c, R a b → R b c → R a c) (l : List α) : l.Pairwise R ↔ ∀ i (h : i + 1 < l.length), R l[i] l[i+1] := by
 rw [List.pairwise_iff_getElem]
 constructor
 · intro h i hi; exact h i (i+1) (by omega) hi (by omega)
 ·
  intro h i j hi hj hlt
  obtain ⟨d, rfl⟩ : ∃ d, j = i + 1 + d := ⟨j - (i + 1), by omega⟩
  clear hlt
  induction d with
  | zero => exact h i (by omega)
  | succ d ih => exact ht _ _ _ (ih (by omega)) (h (i + 1 + d) (by omega))
theorem rightL_at (ls : List Lk) : rightL ls = true ↔ ls.length ≤ 1000 ∧ (∀ i (h : i < ls.length), OkL ls[i]) ∧ (∀ i (h : i + 1 < ls.length), LtL ls[i] ls[i+1]) := by
 rw [rightL_iff]; unfold RightL
 rw [pair_chain (R := LtL) (fun a b c h k => LtL.trans h k)]
 constructor
 · rintro ⟨a, b, c⟩; exact ⟨a, fun i h => b _ (List.getElem_mem h), c⟩
 ·
  rintro ⟨a, b, c⟩
  refine ⟨a, fun k hk => ?_, c⟩
  obtain ⟨i, hi, rfl⟩ := List.getElem_of_mem hk
  exact b i hi
theorem rightL_false {ls : List Lk} (h : ¬ RightL ls) : rightL ls = false := by unfold rightL; simpa using h
def insV (x : Int) : List Int → List Int
 | [] => [x]
 | y :: r => if x < y then x :: y :: r else if x = y then y :: r else y :: insV x r
def endsL (ls : List Lk) : List Int := ls.flatMap fun k => [k.1, k.2.1]
def vertsL (ls : List Lk) : List Int := (endsL ls).foldl (fun o v => insV v o) []
theorem mem_insV (x : Int) (l : List Int) (z : Int) : z ∈ insV x l ↔ z = x ∨ z ∈ l := by
 induction l with
 | nil => simp [insV]
 | cons y r ih =>
  unfold insV
  split
  · simp
  ·
   split
   · rename_i h; subst h; simp
   ·
    simp only [List.mem_cons, ih]; constructor
    ·
     rintro (h | h | h)
     · exact .inr (.inl h)
     · exact .inl h
     · exact .inr (.inr h)
    ·
     rintro (h | h | h)
     · exact .inr (.inl h)
     · exact .inl h
     · exact .inr (.inr h)
theorem insV_sorted (x : Int) (l : List Int) (h : l.Pairwise (· < ·)) : (insV x l).Pairwise (· < ·) := by
 induction l with
 | nil => simp [insV]
 | cons y r ih =>
  obtain ⟨h1, h2⟩ := List.pairwise_cons.1 h
  unfold insV
  split
  ·
   rename_i hlt; rw [List.pairwise_cons]; refine ⟨fun z hz => ?_, h⟩; rcases List.mem_cons.1 hz with rfl | hz
   · exact hlt
   · have := h1 z hz; omega
  ·
   split
   · exact h
   ·
    rw [List.pairwise_cons]; refine ⟨fun z hz => ?_, ih h2⟩; rcases (mem_insV x r z).1 hz with rfl | hz
    · omega
    · exact h1 z hz
theorem vertsL_aux (vs o : List Int) (ho : o.Pairwise (· < ·)) : (vs.foldl (fun o v => insV v o) o).Pairwise (· < ·) ∧ ∀ z, z ∈ vs.foldl (fun o v => insV v o) o ↔ z ∈ o ∨ z ∈ vs := by
 induction vs generalizing o with
 | nil => simp [ho]
 | cons v r ih =>
  obtain ⟨h1, h2⟩ := ih (insV v o) (insV_sorted _ _ ho)
  refine ⟨h1, fun z => ?_⟩
  rw [List.foldl_cons, h2, mem_insV, List.mem_cons]
  constructor
  ·
   rintro ((h | h) | h)
   · exact .inr (.inl h)
   · exact .inl h
   · exact .inr (.inr h)
  ·
   rintro (h | h | h)
   · exact .inl (.inr h)
   · exact .inl (.inl h)
   · exact .inr h
theorem vertsL_sorted (ls : List Lk) : (vertsL ls).Pairwise (· < ·) := (vertsL_aux _ [] .nil).1
theorem mem_vertsL (ls : List Lk) (z : Int) : z ∈ vertsL ls ↔ ∃ k ∈ ls, z = k.1 ∨ z = k.2.1 := by
 unfold vertsL
 rw [(vertsL_aux _ [] .nil).2]
 simp [endsL]
theorem strict_one {a b : List Int} (ha : a.Pairwise (· < ·)) (hb : b.Pairwise (· < ·)) (h : ∀ z, z ∈ a ↔ z ∈ b) : a = b := by
 induction a generalizing b with
 | nil =>
  cases b with
  | nil => rfl
  | cons y r => have := (h y).2 (by simp); simp at this
 | cons x a ih =>
  cases b with
  | nil => have := (h x).1 (by simp); simp at this
  | cons y r =>
   obtain ⟨a1, a2⟩ := List.pairwise_cons.1 ha; obtain ⟨b1, b2⟩ := List.pairwise_cons.1 hb; have e : x = y := by
    have h1 := (h x).1 (by simp); have h2 := (h y).2 (by simp); rcases List.mem_cons.1 h1 with e | h1
    · exact e
    ·
     rcases List.mem_cons.1 h2 with e | h2
     · exact e.symm
     · have := b1 x h1; have := a1 y h2; omega
   subst e; rw [ih a2 b2 fun z => ?_]; constructor
   ·
    intro hz; rcases List.mem_cons.1 ((h z).1 (by simp [hz])) with rfl | h3
    · have := a1 z hz; omega
    · exact h3
   ·
    intro hz; rcases List.mem_cons.1 ((h z).2 (by simp [hz])) with rfl | h3
    · have := b1 z hz; omega
    · exact h3
theorem vertsL_one {ls : List Lk} {o : List Int} (ho : o.Pairwise (· < ·)) (h : ∀ z, z ∈ o ↔ ∃ k ∈ ls, z = k.1 ∨ z = k.2.1) : o = vertsL ls :=
 strict_one ho (vertsL_sorted ls) fun z => by rw [h, mem_vertsL]
theorem endsL_length (ls : List Lk) : (endsL ls).length = ls.length * 2 := by
 induction ls with
 | nil => rfl
 | cons k r ih => unfold endsL at ih ⊢; rw [List.flatMap_cons, List.length_append, ih]; simp only [List.length_cons, List.length_nil]; omega
theorem strict_len {l o : List Int} (ho : o.Pairwise (· < ·)) (h : ∀ z ∈ o, z ∈ l) : o.length ≤ l.length := by
 induction o generalizing l with
 | nil => simp
 | cons a o ih =>
  obtain ⟨h1, h2⟩ := List.pairwise_cons.1 ho
  have ha := h a (by simp)
  have h3 := ih (l := l.erase a) h2 fun x hx => by
   have := h1 x hx; exact (List.mem_erase_of_ne (by omega)).2 (h x (by simp [hx]))
  rw [List.length_erase_of_mem ha] at h3
  have := List.length_pos_of_mem ha
  simp only [List.length_cons]; omega
theorem vertsL_length (ls : List Lk) : (vertsL ls).length ≤ ls.length * 2 := by
 rw [← endsL_length]
 exact strict_len (vertsL_sorted ls) fun z hz => by rw [mem_vertsL] at hz; simp only [endsL, List.mem_flatMap, List.mem_cons, List.not_mem_nil, or_false]; exact hz
theorem compact_strict (zs : List Int) (hs : zs.Pairwise (· ≤ ·)) : (Lib.compact zs).Pairwise (· < ·) ∧ ∀ z, z ∈ Lib.compact zs ↔ z ∈ zs := by
 have hle := List.pairwise_iff_getElem.1 hs
 have hk : ∀ i, Lib.keeps zs.toArray i = true ↔ (i = 0 ∨ zs[i]! ≠ zs[i-1]!) := fun i => by simp [Lib.keeps]
 have hg : ∀ i (h : i < zs.length), zs.toArray[i]! = zs[i] := fun i h => by simp [h]
 unfold Lib.compact Lib.compactUpTo
 constructor
 ·
  rw [List.pairwise_map, List.pairwise_filter]
  refine List.Pairwise.imp_of_mem ?_ (List.pairwise_lt_range (n := zs.length))
  intro a b ha hb hab _ hkb
  rw [List.mem_range] at ha hb
  rw [hk] at hkb
  rcases hkb with rfl | hkb
  · omega
  ·
   rw [hg a ha, hg b hb]; have e1 : zs[b]! = zs[b] := by simp [hb]
   have e2 : zs[b-1]! = zs[b-1] := by simp [show b - 1 < zs.length by omega]
   rw [e1, e2] at hkb; have h1 := hle (b-1) b (by omega) hb (by omega); by_cases hab1 : a = b - 1
   · subst hab1; omega
   · have h2 := hle a (b-1) ha (by omega) (by omega); omega
 ·
  intro z
  simp only [List.mem_map, List.mem_filter, List.mem_range]
  constructor
  ·
   rintro ⟨i, ⟨hi, _⟩, rfl⟩; rw [hg i hi]; exact List.getElem_mem hi
  ·
   intro hz; obtain ⟨i, hi, rfl⟩ := List.getElem_of_mem hz; clear hz; induction i using Nat.strongRecOn with
   | _ i ih =>
    by_cases hki : Lib.keeps zs.toArray i = true
    · exact ⟨i, ⟨hi, hki⟩, hg i hi⟩
    ·
     rw [hk] at hki; have hi0 : i ≠ 0 := fun e => hki (.inl e); have e : zs[i]! = zs[i-1]! := Classical.byContradiction fun e => hki (.inr e); have e1 : zs[i]! = zs[i] := by simp [hi]
     have e2 : zs[i-1]! = zs[i-1]'(by omega) := by simp [show i - 1 < zs.length by omega]
     rw [e1, e2] at e; obtain ⟨j, hj, hje⟩ := ih (i-1) (by omega) (by omega); exact ⟨j, hj, by rw [hje, e]⟩
theorem vertsL_compact (ls : List Lk) : Lib.compact ((endsL ls).mergeSort fun x y => decide (x ≤ y)) = vertsL ls := by
 have hp := List.pairwise_mergeSort (le := fun x y : Int => decide (x ≤ y)) (fun a b c => by simp only [decide_eq_true_eq]; omega) (fun a b => by simp only [Bool.or_eq_true, decide_eq_true_eq]; omega) (endsL ls)
 obtain ⟨h1, h2⟩ := compact_strict _ (hp.imp fun {a b} h => by simpa using h)
 refine vertsL_one h1 fun z => ?_
 rw [h2, (List.mergeSort_perm _ _).mem_iff]
 simp [endsL]
end Go.Proofs.YtagjdkkfmfombaaGreat
namespace Go.Proofs.YtagjdkkfmfombaaGreat
open Go Go.RowKit Go.Sort
def lkCells (ls : List Lk) : List Value := ls.flatMap fun k => [.int .i64 k.1, .int .i64 k.2.1, .int .i64 k.2.2]
def lkV (k : Lk) : Value := .agg #[.int .i64 k.1, .int .i64 k.2.1, .int .i64 k.2.2]
def RdL (w : World) (a : Option Addr) (ls : List Lk) : Prop := CellsAt w a (lkCells ls)
theorem lkCells_length (ls : List Lk) : (lkCells ls).length = ls.length * 3 := by
 induction ls with
 | nil => rfl
 | cons e ls ih => simp only [lkCells, List.flatMap_cons, List.length_append, List.length_cons, List.length_nil] at ih ⊢; omega
theorem lkCells_get (ls : List Lk) (i : Nat) (h : i < ls.length) :
  (lkCells ls)[i * 3]? = some (.int .i64 ls[i].1) ∧ (lkCells ls)[i * 3 + 1]? = some (.int .i64 ls[i].2.1) ∧ (lkCells ls)[i * 3 + 2]? = some (.int .i64 ls[i].2.2) := by
 induction ls generalizing i with
 | nil => simp at h
 | cons e ls ih =>
  cases i with
  | zero => simp [lkCells]
  | succ i =>
   have := ih i (by simpa using h); have e1 : (i + 1) * 3 = i * 3 + 1 + 1 + 1 := by omega
   simp only [lkCells, List.flatMap_cons, List.cons_append, List.nil_append, List.getElem_cons_succ] at this ⊢; rw [e1]; simpa using this
theorem RdL.at {w : World} {a : Option Addr} {ls : List Lk} (h : RdL w a ls) (i : Nat) (hi : i < ls.length) :
  ∃ b o, a = some ⟨b, o, none⟩ ∧ w.cell? ⟨b, o + i * 3, none⟩ = some (.int .i64 ls[i].1) ∧ w.cell? ⟨b, o + i * 3 + 1, none⟩ = some (.int .i64 ls[i].2.1) ∧ w.cell? ⟨b, o + i * 3 + 2, none⟩ = some (.int .i64 ls[i].2.2) := by
 obtain ⟨h1, h2, h3⟩ := lkCells_get ls i hi
 obtain ⟨b, o, ha, hc⟩ := h _ _ h1
 obtain ⟨b', o', ha', hc'⟩ := h _ _ h2
 obtain ⟨b'', o'', ha'', hc''⟩ := h _ _ h3
 rw [ha] at ha' ha''
 simp only [Option.some.injEq, Addr.mk.injEq, and_true] at ha' ha''
 obtain ⟨rfl, rfl⟩ := ha'
 obtain ⟨rfl, rfl⟩ := ha''
 exact ⟨b, o, ha, hc, by simpa [Nat.add_assoc] using hc', by simpa [Nat.add_assoc] using hc''⟩
theorem RdL.below {w w' : World} {a : Option Addr} {ls : List Lk} (h : RdL w a ls) (hb : Below w.heap.size w w') : RdL w' a ls := CellsAt.below h hb
theorem below_grow (w : World) (q : Nat) (os : Array Obj) : Below w.heap.size w (grow (w.drewN q) os) := by
 refine Below.trans (below_drewN (Below.refl _ _) q) ?_
 refine ⟨rfl, rfl, rfl, by simp [grow], fun k hk => ?_⟩
 exact heap_grow_old _ _ (by simpa using hk)
theorem lcompare_grow (x y : Lk) (w : World) :
  Calls Tryz.prog 204 #[lkV x, lkV y] w
   fun e w' => e = .returned (.int .i64 (cmpL x y)) ∧ ∃ q os, w' = grow (w.drewN q) os := by
 obtain ⟨a1, a2, a3⟩ := x
 obtain ⟨b1, b2, b3⟩ := y
 unfold lkV
 dsimp only
 have e1 : cmpL (a1, a2, a3) (b1, b2, b3) = orI (cmpI a1 b1) (orI (cmpI a2 b2) (cmpI a3 b3)) := rfl
 rw [e1]; clear e1
 have c1 := fun w => compare_any a1 b1 w
 have c2 := fun w => compare_any a2 b2 w
 have c3 := fun w => compare_any a3 b3 w
 generalize cmpI a1 b1 = u1 at c1 ⊢
 generalize cmpI a2 b2 = u2 at c2 ⊢
 generalize cmpI a3 b3 = u3 at c3 ⊢
 by_cases h1 : u1 = 0
 ·
  subst h1
  by_cases h2 : u2 = 0
  ·
   subst h2; go_enter Tryz.func204, Tryz.ntmps204; go_wp2_with fail; refine (c1 _).mono ?_; rintro e w' ⟨rfl, rfl⟩; go_wp2_with fail; refine (c2 _).mono ?_; rintro e w' ⟨rfl, rfl⟩; go_wp2_with fail; refine (c3 _).mono ?_; rintro e w' ⟨rfl, rfl⟩; go_wp2_with fail; go_ret; exact ⟨rfl, 0, _, by rw [alloc_eq_grow, alloc_eq_grow, grow_grow]; rfl⟩
  ·
   have g2 : (u2 != 0) = true := by simpa using h2
   go_enter Tryz.func204, Tryz.ntmps204; go_wp2_with fail; refine (c1 _).mono ?_; rintro e w' ⟨rfl, rfl⟩; go_wp2_with fail; refine (c2 _).mono ?_; rintro e w' ⟨rfl, rfl⟩; go_wp2_with fail; go_ret; exact ⟨by simp [orI, h2], 0, _, by rw [alloc_eq_grow, alloc_eq_grow, grow_grow]; rfl⟩
 ·
  have g1 : (u1 != 0) = true := by simpa using h1
  go_enter Tryz.func204, Tryz.ntmps204
  go_wp2_with fail
  refine (c1 _).mono ?_; rintro e w' ⟨rfl, rfl⟩
  go_wp2_with fail
  go_ret
  exact ⟨by simp [orI, h1], 0, _, by rw [alloc_eq_grow, alloc_eq_grow, grow_grow]; rfl⟩
theorem lcompare_any (a1 a2 a3 b1 b2 b3 : Int) (w : World) :
  Calls Tryz.prog 204 #[.agg #[.int .i64 a1, .int .i64 a2, .int .i64 a3], .agg #[.int .i64 b1, .int .i64 b2, .int .i64 b3]] w
   fun e w' => e = .returned (.int .i64 (cmpL (a1, a2, a3) (b1, b2, b3))) ∧ Below w.heap.size w w' :=
 (lcompare_grow (a1, a2, a3) (b1, b2, b3) w).mono fun _ _ ⟨he, q, os, hw⟩ => ⟨he, by rw [hw]; exact below_grow _ _ _⟩
set_option maxHeartbeats 1000000 in
theorem lright_walk (a : Option Addr) (cap : Nat) (ls : List Lk) (w : World) (hr : RdL w a ls) (hcap : ls.length ≤ 9223372036854775807) :
  Calls Tryz.prog 182 #[.slice a ls.length cap] w
   fun e w' => e = .returned (.bool (rightL ls)) ∧ Below w.heap.size w w' := by
 by_cases hg : ls.length ≤ 1000
 ·
  go_enter Tryz.func182, Tryz.ntmps182
  go_wp2_with fail
  go_loopg [10] ls.length (fun r i wr => ∃ k : Nat, k + r = ls.length ∧ i = .int .i64 k ∧ Below w.heap.size w wr ∧
   (∀ j (h : j < ls.length), j < k → OkL ls[j]) ∧ (∀ j (h : j + 1 < ls.length), j + 1 < k → LtL ls[j] ls[j+1]))
  case atStart => exact ⟨0, by omega, rfl, Below.refl _ _, fun j _ h => absurd h (by omega), fun j _ h => absurd h (by omega)⟩
  case round =>
   obtain ⟨k, hk, rfl, hB, hok, hris⟩ := hrel; by_cases hlt : k < ls.length
   ·
    obtain ⟨b, o, rfl, c0, c1, c2⟩ := (hr.below hB).at k hlt; obtain ⟨⟨x, y, z⟩, hx⟩ : ∃ x : Lk, ls[k] = x := ⟨_, rfl⟩
    rw [hx] at c0 c1 c2; simp only at c0 c1 c2; by_cases he : OkL (x, y, z)
    ·
     obtain ⟨e0, e1, e2, e3, e4⟩ := he; simp only at e0 e1 e2 e3 e4; have hend : ∀ j (h : j < ls.length), j < k + 1 → OkL ls[j] := by
      intro j h hj; by_cases hjk : j < k
      · exact hok j h hjk
      ·
       obtain rfl : j = k := by omega
       rw [hx]; exact ⟨e0, e1, e2, e3, e4⟩
     by_cases hk0 : k = 0
     ·
      subst hk0; simp only [Nat.zero_mul, Nat.add_zero] at c0 c1 c2; have Hx := Lib.hid hx; clear hx; have Hend := Lib.hid hend; have Hok := Lib.hid hok; have Hris := Lib.hid hris; clear hend hok hris; go_wp2_with fail; go_quiet (fail)
      go_wp2; go_roundg (gk - 1)
      case measure => omega
      case rel => exact ⟨0 + 1, by omega, rfl, below_drewN (hB.alloc (by have := hB.size; omega) _) _, Hend.out, fun j _ h => absurd h (by omega)⟩
     ·
      obtain ⟨m, rfl⟩ : ∃ m, k = m + 1 := ⟨k - 1, by omega⟩
      obtain ⟨b', o', hbo, p0, p1, p2⟩ := (hr.below hB).at m (by omega); simp only [Option.some.injEq, Addr.mk.injEq, and_true] at hbo; obtain ⟨rfl, rfl⟩ := hbo; obtain ⟨⟨p, q, s⟩, hp⟩ : ∃ x : Lk, ls[m]'(by omega) = x := ⟨_, rfl⟩
      rw [hp] at p0 p1 p2; simp only at p0 p1 p2; have hmr : m + 1 < ls.length := hlt; have Hx := Lib.hid hx; have Hp := Lib.hid hp; clear hx hp; have Hend := Lib.hid hend; have Hok := Lib.hid hok; have Hris := Lib.hid hris; clear hend hok hris; go_wp2_with fail; have i1 : IntKind.i64.wrap ((m : Int) + 1 - 1) = (m : Int) := by rw [show ((m : Int) + 1 - 1) = m by omega]; exact IntWalk.i64_in _ (by omega)
      have i2 : IntKind.i64.wrap (m : Int) = (m : Int) := IntWalk.i64_in _ (by omega); have i3 : (0 : Int) ≤ (m : Int) := by omega
      have i4 : (m : Int) < (ls.length : Int) := by omega
      have i5 : m < ls.length := by omega
      go_region_held3 (fun w' => w'.cell? ⟨b, o + m * 3, none⟩ = some (.int .i64 p) ∧ w'.cell? ⟨b, o + m * 3 + 1, none⟩ = some (.int .i64 q) ∧ w'.cell? ⟨b, o + m * 3 + 2, none⟩ = some (.int .i64 s) ∧
       w'.cell? ⟨wr.heap.size, 0, none⟩ = some (.int .i64 x) ∧ w'.cell? ⟨wr.heap.size, 1, none⟩ = some (.int .i64 y) ∧ w'.cell? ⟨wr.heap.size, 2, none⟩ = some (.int .i64 z)) (first | (refine ⟨?_, ?_, ?_, ?_, ?_, ?_⟩ <;> (refine keep_cell (by assumption) ?_; simp [*]; done)) | go_keep)
       (first | (go_at_call 204; refine (lcompare_any _ _ _ _ _ _ _).mono ?_; rintro e w' ⟨rfl, hbw⟩))
      go_wp2
      ·
       have hge : 0 ≤ cmpL (p, q, s) (x, y, z) := by assumption
       go_ret; refine ⟨?_, bl_trans ((hB.alloc (by have := hB.size; omega) _).drew) hbw⟩; rw [rightL_false]; rfl; intro h; have h1 := ((rightL_at _).1 ((rightL_iff _).2 h)).2.2 m hmr; rw [Hx.out, Hp.out, ← cmpL_neg] at h1; omega
      ·
       have hge : cmpL (p, q, s) (x, y, z) < 0 := by assumption
       go_roundg (gk - 1)
       case measure => omega
       case rel =>
        refine ⟨m + 1 + 1, by omega, by go_num, bl_trans ((hB.alloc (by have := hB.size; omega) _).drew) hbw, Hend.out, ?_⟩; intro j h hj; by_cases hjm : j + 1 < m + 1
        · exact Hris.out j h hjm
        ·
         obtain rfl : j = m := by omega
         rw [Hx.out, Hp.out, ← cmpL_neg]; exact hge
    ·
     have hno : rightL ls = false := rightL_false fun h => he (by rw [← hx]; exact h.2.1 _ (List.getElem_mem hlt)); have Hx := Lib.hid hx; clear hx; have Hno := Lib.hid hno; clear hno hok hris; unfold OkL at he; simp only at he; go_wp2_with fail; all_goals
      go_ret; exact ⟨by rw [Hno.out]; rfl, hB.alloc (by have := hB.size; omega) _⟩
   ·
    have hkl : k = ls.length := by omega
    have hyes : rightL ls = true := by
     rw [rightL_at]; exact ⟨hg, fun j h => hok j h (by omega), fun j h => hris j h (by omega)⟩
    have Hyes := Lib.hid hyes; clear hyes hok hris hkl; go_wp2_with fail; go_ret; exact ⟨by rw [Hyes.out]; rfl, hB⟩
 ·
  have hno : rightL ls = false := rightL_false fun h => hg h.1
  rw [hno]
  go_enter Tryz.func182, Tryz.ntmps182
  go_wp2_with fail
  all_goals
   go_ret; exact ⟨rfl, bl_refl _⟩
end Go.Proofs.YtagjdkkfmfombaaGreat
namespace Go.Proofs.YtagjdkkfmfombaaGreat
open Go Go.RowKit Go.Sort
theorem link_info : (Tryz.prog.info? 120).map (fun i => (i.zero, i.size, i.bytes)) = some (some (.agg #[.int .i64 0, .int .i64 0, .int .i64 0]), 3, 24) := by kernel_rfl
end Go.Proofs.YtagjdkkfmfombaaGreat
namespace Go.Proofs.YtagjdkkfmfombaaGreat
open Go Go.RowKit Go.Sort
def GrN (w w' : World) : Prop := ∃ (q : Nat) (os : Array Obj), w' = grow (w.drewN q) os
theorem gr_alloc (w : World) (o : Obj) : GrN w (w.alloc o) := ⟨0, #[o], by rw [alloc_eq_grow]; cases w; simp [grow, World.drewN]⟩
theorem gr_drew (w : World) : GrN w w.drew := ⟨1, #[], by cases w; simp [grow, World.drewN, World.drew]⟩
theorem gr_trans {a b c : World} (h : GrN a b) (k : GrN b c) : GrN a c := by
 obtain ⟨q, os, rfl⟩ := h
 obtain ⟨q2, os2, rfl⟩ := k
 exact ⟨q + q2, os ++ os2, by cases a; simp [grow, World.drewN, Nat.add_assoc]⟩
theorem code1_walk (x y : Int × Int) (w : World) :
  Calls Tryz.prog 38 #[.agg #[.int .i64 x.1, .int .i64 x.2], .agg #[.int .i64 y.1, .int .i64 y.2]] w fun e w' => e = .returned (.int .i64 (cmpP x y)) ∧ GrN w w' := by
 obtain ⟨x1, x2⟩ := x
 obtain ⟨y1, y2⟩ := y
 simp only
 have e1 : cmpP (x1, x2) (y1, y2) = orI (cmpI x1 y1) (cmpI x2 y2) := rfl
 rw [e1]; clear e1
 have c1 := fun w => compare_any x1 y1 w
 have c2 := fun w => compare_any x2 y2 w
 generalize cmpI x1 y1 = u1 at c1 ⊢
 generalize cmpI x2 y2 = u2 at c2 ⊢
 have hG := gr_trans (gr_alloc w (.cells #[.int .i64 x1, .int .i64 x2] 51)) (gr_alloc _ (.cells #[.int .i64 y1, .int .i64 y2] 51))
 have d0 : (w.alloc (.cells #[.int .i64 x1, .int .i64 x2] 51)).heap.size = w.heap.size + 1 := by simp
 obtain ⟨w2, hw2⟩ : ∃ w2, w2 = (w.alloc (.cells #[.int .i64 x1, .int .i64 x2] 51)).alloc (.cells #[.int .i64 y1, .int .i64 y2] 51) := ⟨_, rfl⟩
 have k0 : w2.cell? ⟨w.heap.size, 0, none⟩ = some (.int .i64 x1) := by rw [hw2]; exact keep_cell (bl_alloc _ _) (by simp)
 have k1 : w2.cell? ⟨w.heap.size, 1, none⟩ = some (.int .i64 x2) := by rw [hw2]; exact keep_cell (bl_alloc _ _) (by simp)
 have k2 : w2.cell? ⟨w.heap.size + 1, 0, none⟩ = some (.int .i64 y1) := by rw [hw2, ← d0]; simp
 have k3 : w2.cell? ⟨w.heap.size + 1, 1, none⟩ = some (.int .i64 y2) := by rw [hw2, ← d0]; simp
 rw [← hw2] at hG
 have Hw2 := Lib.hid hw2; have HG := Lib.hid hG
 clear hw2 hG d0
 go_enter Tryz.func38, Tryz.ntmps38
 go_upto_region 1 with (fail)
 rw [← Hw2.out]
 refine regionT (fun w' => w'.cell? ⟨w.heap.size, 0, none⟩ = some (.int .i64 x1) ∧ w'.cell? ⟨w.heap.size, 1, none⟩ = some (.int .i64 x2) ∧ w'.cell? ⟨w.heap.size + 1, 0, none⟩ = some (.int .i64 y1) ∧ w'.cell? ⟨w.heap.size + 1, 1, none⟩ = some (.int .i64 y2)) 13 (by kernel_rfl) ?_
 have hS : w2.drew.cell? ⟨w.heap.size, 0, none⟩ = some (.int .i64 x1) ∧ w2.drew.cell? ⟨w.heap.size, 1, none⟩ = some (.int .i64 x2) ∧ w2.drew.cell? ⟨w.heap.size + 1, 0, none⟩ = some (.int .i64 y1) ∧ w2.drew.cell? ⟨w.heap.size + 1, 1, none⟩ = some (.int .i64 y2) := ⟨k0, k1, k2, k3⟩
 clear k0 k1 k2 k3
 refine tkT 0 ?_ rfl hS ?_ ?_ (by kernel_rfl) (fun _ _ _ h => h) (by rfl); rotate_left; (· intro wS hSw; (try dsimp only at hSw); go_simp; try with_reducible rfl); simp only [Act.put, zT]
 refine tkT 1 ?_ rfl hS ?_ ?_ (by kernel_rfl) (fun _ _ _ h => h) (by rfl); rotate_left; (· intro wS hSw; (try dsimp only at hSw); go_simp; try with_reducible rfl); simp only [Act.put, zT]
 refine tkT 2 ?_ rfl hS ?_ ?_ (by kernel_rfl) (fun _ _ _ h => h) (by rfl); rotate_left; (· intro wS hSw; (try dsimp only at hSw); go_simp; try with_reducible rfl); simp only [Act.put, zT]
 refine tkT 3 ?_ rfl hS ?_ ?_ (by kernel_rfl) (fun _ _ _ h => h) (by rfl); rotate_left; (· intro wS hSw; (try dsimp only at hSw); go_simp; try with_reducible rfl); simp only [Act.put, zT]
 refine tkT 5 ?_ rfl hS ?_ ?_ (by kernel_rfl) (fun _ _ _ h => h) (by rfl); rotate_left; (· intro wS hSw; (try dsimp only at hSw); go_simp; try with_reducible rfl); simp only [Act.put, zT]
 refine tkT 6 ?_ rfl hS ?_ ?_ (by kernel_rfl) (fun _ _ _ h => h) (by rfl); rotate_left; (· intro wS hSw; (try dsimp only at hSw); go_simp; try with_reducible rfl); simp only [Act.put, zT]
 refine tkT 7 ?_ rfl hS ?_ ?_ (by kernel_rfl) (fun _ _ _ h => h) (by rfl); rotate_left; (· intro wS hSw; (try dsimp only at hSw); go_simp; try with_reducible rfl); simp only [Act.put, zT]
 refine tkT 8 ?_ rfl hS ?_ ?_ (by kernel_rfl) (fun _ _ _ h => h) (by rfl); rotate_left; (· intro wS hSw; (try dsimp only at hSw); go_simp; try with_reducible rfl); simp only [Act.put, zT]
 refine oneT (i := 4) rfl (by kernel_rfl) (fun K hK => ?_)
 go_simp
 refine (c1 _).mono ?_
 rintro e w' ⟨rfl, rfl⟩
 simp only
 refine hK _ _ (fun _ => hS) ?_
 clear hK K
 refine oneT (i := 9) rfl (by kernel_rfl) (fun K hK => ?_)
 go_simp
 refine (c2 _).mono ?_
 rintro e w' ⟨rfl, rfl⟩
 simp only
 refine hK _ _ (fun _ => hS) ?_
 clear hK K
 refine oneT (i := 10) rfl (by kernel_rfl) (fun K hK => ?_)
 go_simp
 have hb := bl_alloc w2.drew (.cells #[.int .i64 u1, .int .i64 u2] 3)
 have hS2 := And.intro (keep_cell hb hS.1) (And.intro (keep_cell hb hS.2.1) (And.intro (keep_cell hb hS.2.2.1) (keep_cell hb hS.2.2.2)))
 refine hK _ _ (fun _ => hS2) ?_
 clear hK K hS
 have hS := hS2
 refine oneT (i := 11) rfl (by kernel_rfl) (fun K hK => ?_)
 go_simp
 refine (or_two _ u1 u2 _ ?_ ?_).mono ?_
 · simp
 · simp
 rintro e w' ⟨rfl, rfl⟩
 simp only
 refine hK _ _ (fun _ => hS) ?_
 clear hK K
 refine tkT 12 ?_ rfl hS ?_ ?_ (by kernel_rfl) (fun _ _ _ h => h) (by rfl); rotate_left; (· intro wS hSw; (try dsimp only at hSw); go_simp; try with_reducible rfl); simp only [Act.put, zT]
 refine doneT (by kernel_rfl) ?_ _
 go_wp2_with fail
 go_ret
 exact ⟨rfl, gr_trans (gr_trans HG.out (gr_drew _)) (gr_alloc _ _)⟩
end Go.Proofs.YtagjdkkfmfombaaGreat
namespace Go.Proofs.YtagjdkkfmfombaaGreat
open Go Go.RowKit Go.Sort
theorem pair_info2 : (Tryz.prog.info? 51).map (fun i => (i.zero, i.size, i.bytes)) = some (some (.agg #[.int .i64 0, .int .i64 0]), 2, 16) := by kernel_rfl
theorem pcells_append (a b : List (Int × Int)) : pairCells (a ++ b) = pairCells a ++ pairCells b := by simp [pairCells]
def prEnc (p : Int × Int) : List Value := [.int .i64 p.1, .int .i64 p.2]
theorem flatK_pr (ls : List (Int × Int)) : (flatK prEnc 2 ls.toArray).toList = pairCells ls := by
 apply List.ext_getElem?
 intro i
 by_cases hi : i < ls.length * 2
 ·
  have hk : i / 2 < ls.length := by omega
  have h1 : (flatK prEnc 2 ls.toArray).toList[i]? = some ((prEnc ls[i / 2])[i % 2]!) := by
   rw [Array.getElem?_toList, Array.getElem?_eq_getElem (by simpa using hi)]; simp [flatK, hk]
  rw [h1]
  obtain ⟨g1, g2⟩ := pairCells_get ls (i / 2) hk
  have h3 : i % 2 = 0 ∨ i % 2 = 1 := by omega
  rcases h3 with h | h
  · rw [show i / 2 * 2 = i by omega] at g1; rw [g1, h]; rfl
  · rw [show i / 2 * 2 + 1 = i by omega] at g2; rw [g2, h]; rfl
 · rw [List.getElem?_eq_none (by simp; omega), List.getElem?_eq_none (by rw [pairCells_length]; omega)]
theorem Row.holdsP {w : World} {g cap : Nat} {e : TypeId} {ls : List (Int × Int)} (h : Row w g e 2 cap (pairCells ls)) : HoldsK prEnc 2 w g 0 ls.toArray := by
 intro j hj
 have hj' : j < (pairCells ls).length := by rw [pairCells_length]; simpa using hj
 refine ⟨?_, h.frozen _⟩
 rw [Nat.zero_add, h.cell j hj']
 have := flatK_pr ls
 congr 1
 have h2 : (flatK prEnc 2 ls.toArray).toList[j]? = some ((pairCells ls)[j]) := by rw [this]; simp [hj']
 rw [Array.getElem?_toList] at h2
 simp [getElem!_def, h2]
theorem Row.sortedP {w : World} {g cap n : Nat} {e : TypeId} {os : Array Obj} {ls ts : List (Int × Int)} (h : Row w g e 2 cap (pairCells ls)) (hl : ts.length = ls.length) :
  Row (sortWorldK prEnc 2 w g 0 n ts.toArray os) g e 2 cap (pairCells ts) ∧ w.grownBy (sortWorldK prEnc 2 w g 0 n ts.toArray os) (some g) := by
 obtain ⟨cur, hg, hs, hle, hm, ht⟩ := h
 have hlt : g < w.heap.size := (Array.getElem?_eq_some_iff.1 hg).1
 have hcur : (sortWorldK prEnc 2 w g 0 n ts.toArray os).heap[g]? = some (.cells (putCells id 0 (flatK prEnc 2 ts.toArray) cur) e (0, 0)) := by
  unfold sortWorldK
  rw [heap_grow_old _ _ (by simpa [putRowK, putRow, mapBlock, Sort.ahead] using hlt)]
  simp [putRowK, putRow, mapBlock, Sort.ahead, Array.getElem?_modify, hg, onCells]
 have hlen : (pairCells ts).length = (pairCells ls).length := by rw [pairCells_length, pairCells_length, hl]
 refine ⟨⟨_, hcur, by simpa [putCells] using hs, by rw [hlen]; exact hle, hm, ?_⟩, ⟨rfl, rfl, rfl, by simp [sortWorldK, grow, putRowK, putRow, mapBlock, Sort.ahead], fun k hk hne => ?_⟩⟩
 ·
  apply List.ext_getElem?
  intro j
  by_cases hj : j < (pairCells ts).length
  ·
   rw [List.getElem?_take_of_lt hj, Array.getElem?_toList]; have hjc : j < cur.size := by rw [hlen] at hj; omega
   have hf : j < (flatK prEnc 2 ts.toArray).size := by rw [pairCells_length] at hj; simpa using hj
   have h2 : (flatK prEnc 2 ts.toArray)[j]? = (pairCells ts)[j]? := by rw [← Array.getElem?_toList, flatK_pr]
   rw [← h2]; have hf' : j < ts.length * 2 := by simpa using hf
   simp [putCells, hf', hjc]
  · rw [List.getElem?_take_eq_none (by omega), List.getElem?_eq_none (by omega)]
 ·
  unfold sortWorldK
  rw [heap_grow_old _ _ (by simpa [putRowK, putRow, mapBlock, Sort.ahead] using hk)]
  have : g ≠ k := fun e => hne (by rw [e])
  simp [putRowK, putRow, mapBlock, Sort.ahead, Array.getElem?_modify, this]
instance (x y : Int × Int) : Decidable (lessP x y) := by unfold lessP; infer_instance
theorem ltOf_cmpP (x y : Int × Int) : ltOf cmpP x y = decide (lessP x y) := by unfold ltOf; simp [cmpP_neg]
theorem swo_cmpP : SWO (ltOf cmpP) where
 irrefl x := by rw [ltOf_cmpP]; simp [lessP]
 trans x y z h1 h2 := by
  rw [ltOf_cmpP] at *; simp only [decide_eq_true_eq] at *
  unfold lessP at *; omega
 ntrans x y z h1 h2 := by
  rw [ltOf_cmpP] at *; simp only [decide_eq_false_iff_not] at *
  unfold lessP at *; omega
def sortP (l : List (Int × Int)) : List (Int × Int) := l.mergeSort fun x y => !decide (cmpP y x < 0)
theorem sortP_len (l : List (Int × Int)) : (sortP l).length = l.length := by simp [sortP]
theorem sortP_walk (g cap n : Nat) (ls : List (Int × Int)) (w : World) (h : Row w g 51 2 cap (pairCells ls)) (hn : ls.length = n) (hsz : ls.length ≤ 1000000) :
  Calls Tryz.prog 37 #[.slice (some ⟨g, 0, none⟩) n cap, .func (.func 38) #[] #[]] w
   fun e w' => e = .returned (.tuple #[]) ∧ Row w' g 51 2 cap (pairCells (sortP ls)) ∧ w.grownBy w' (some g) := by
 subst hn
 have eg : ∀ args w, (callFunc 38 args).run Tryz.prog w = .ok (.enter 38 args) w := enters_of Tryz.func38 (by kernel_rfl) rfl
 have hcon := Tryz.slices_SortFunc_total_f37 2 Tryz.isAgg51 Tryz.sizeOf51 prEnc (fun _ => rfl) (fun x v hv => by simp [prEnc] at hv; rcases hv with rfl | rfl <;> rfl) cmpP swo_cmpP 38 #[] g 0 cap ls.toArray w eg
  (fun _ _ _ _ x y => code1_walk x y _) h.holdsP h.lt (by simp; omega) (fun x y h1 h2 => by
   rw [ltOf_cmpP] at h1 h2; simp only [decide_eq_false_iff_not] at h1 h2; unfold lessP at h1 h2
   exact Prod.ext (by omega) (by omega))
 try simp only [List.size_toArray] at hcon
 refine hcon.mono ?_
 rintro e w' ⟨rfl, n, os, rfl⟩
 have := h.sortedP (n := n) (os := os) (ts := ls.mergeSort fun x y => !ltOf cmpP y x) (by simp)
 exact ⟨rfl, this⟩
def placeV (os : List Nat) (k : Nat) : List Int := (List.range os.length).map fun v => if v ∈ os.take k then ((os.idxOf v : Nat) : Int) else 0
def endP (os : List Nat) (e : Int × Int) : Int × Int := (min (os.idxOf e.1.toNat : Int) (os.idxOf e.2.toNat), max (os.idxOf e.1.toNat : Int) (os.idxOf e.2.toNat))
def endsF (os : List Nat) (es : List (Int × Int)) : List (Int × Int) := sortP (es.map (endP os))
def codeNums (ts : List Int) (os : List Nat) (es : List (Int × Int)) : List Int :=
 ((os.length : Int) :: os.map fun v => ts.getD v 0) ++ [(es.length : Int)] ++ (endsF os es).flatMap fun e => [e.1, e.2]
def codeL (ts : List Int) (os : List Nat) (es : List (Int × Int)) : List Int := bytesL (codeNums ts os es)
theorem placeV_len (os : List Nat) (k : Nat) : (placeV os k).length = os.length := by simp [placeV]
theorem placeV_set {os : List Nat} (hnd : os.Nodup) {k : Nat} (hk : k < os.length) (_hlt : os[k] < os.length) : (placeV os k).set os[k] (k : Int) = placeV os (k + 1) := by
 apply List.ext_getElem?
 intro i
 rw [List.getElem?_set, placeV_len]
 unfold placeV
 simp only [List.getElem?_map]
 by_cases hi : i < os.length
 ·
  rw [List.getElem?_range hi]
  have hm : i ∈ os.take (k + 1) ↔ (i ∈ os.take k ∨ i = os[k]) := by rw [List.take_succ_eq_append_getElem hk, List.mem_append, List.mem_singleton]
  by_cases e : os[k] = i
  ·
   have : os.idxOf i = k := by rw [← e]; exact hnd.idxOf_getElem k hk
   simp [e, hi, this, hm]
  · simp [e, hm, Ne.symm e]
 ·
  rw [List.getElem?_eq_none (l := List.range os.length) (by simpa using hi)]
  simp; omega
theorem placeV_end {os : List Nat} {v : Nat} (hv : v ∈ os) (hlt : v < os.length) : (placeV os os.length)[v]? = some ((os.idxOf v : Nat) : Int) := by
 unfold placeV
 rw [List.getElem?_map, List.getElem?_range hlt, List.take_length]
 simp [hv]
theorem all_in {os : List Nat} (hnd : os.Nodup) (hlt : ∀ v ∈ os, v < os.length) {v : Nat} (hv : v < os.length) : v ∈ os := by
 refine Classical.byContradiction fun h => ?_
 have h1 : os.length ≤ ((List.range os.length).erase v).length := by
  have := List.Nodup.length_le_of_subset (l₁ := os) (l₂ := (List.range os.length).erase v) hnd fun x hx => by
   rw [List.nodup_range.mem_erase_iff]; exact ⟨fun e => h (e ▸ hx), List.mem_range.2 (hlt x hx)⟩
  exact this
 rw [List.length_erase_of_mem (List.mem_range.2 hv), List.length_range] at h1
 omega
def nums1 (ts : List Int) (os : List Nat) (k : Nat) : List Int := (os.length : Int) :: (os.take k).map fun v => ts.getD v 0
theorem nums1_len (ts : List Int) (os : List Nat) {k : Nat} (h : k ≤ os.length) : (nums1 ts os k).length = k + 1 := by simp [nums1]; omega
theorem nums1_succ (ts : List Int) {os : List Nat} {k : Nat} (h : k < os.length) : nums1 ts os (k + 1) = nums1 ts os k ++ [ts.getD os[k] 0] := by
 unfold nums1
 rw [List.take_succ_eq_append_getElem h, List.map_append]; rfl
theorem Row.nums {w : World} {g c : Nat} {l : List Int} {x : Int} (h : Row w g 3 1 c (l.map (Value.int .i64) ++ [.int .i64 x])) : Row w g 3 1 c ((l ++ [x]).map (Value.int .i64)) := by
 rw [List.map_append]; exact h
set_option maxRecDepth 100000 in
set_option maxHeartbeats 4000000 in
theorem figcode_walk (a1 a2 a3 : Option Addr) (c1 c2 c3 : Nat) (ts : List Int) (os : List Nat) (es : List (Int × Int)) (w : World)
  (ht : RdI w a1 ts) (ho : CellsAt w a2 (os.map vN)) (he : RdP w a3 es) (hn : os.length ≤ 100000) (hes : es.length ≤ 100000) (hlt : ∀ v ∈ os, v < os.length) (hnd : os.Nodup) (htl : ts.length = os.length)
  (her : ∀ e ∈ es, 0 ≤ e.1 ∧ e.1 < os.length ∧ 0 ≤ e.2 ∧ e.2 < os.length) :
  Calls Tryz.prog 20 #[.slice a1 ts.length c1, .slice a2 os.length c2, .slice a3 es.length c3] w (RetBy w (codeL ts os es)) := by
 have hmi := run_make_row' (P := Tryz.prog) 25 3 (.int .i64 0) 8 Tryz.underlying25 int_info rfl .i64 .i64 os.length (by omega) (by omega)
 have hrm : Row (w.alloc (.cells (madeCells #[.int .i64 0] os.length) 3)) w.heap.size 3 1 os.length ((placeV os 0).map (Value.int .i64)) := by
  have := row_made w (.int .i64 0) os.length 3 (by unfold maxLen; omega)
  rwa [show (placeV os 0).map (Value.int .i64) = List.replicate os.length (.int .i64 0) by simp [placeV, List.eq_replicate_iff]]
 have hrm2 := hrm.alloc (.cells #[.int .i64 (os.length : Int)] 3)
 have hrn : Row ((w.alloc (.cells (madeCells #[.int .i64 0] os.length) 3)).alloc (.cells #[.int .i64 (os.length : Int)] 3)) (w.heap.size + 1) 3 1 1 ((nums1 ts os 0).map (Value.int .i64)) := by
  have := row_lit (w.alloc (.cells (madeCells #[.int .i64 0] os.length) 3)) [.int .i64 (os.length : Int)] 3 (by unfold maxLen; simp)
  simpa [nums1] using this
 have hb0 := bl_trans (bl_alloc w (.cells (madeCells #[.int .i64 0] os.length) 3)) (bl_alloc _ (.cells #[.int .i64 (os.length : Int)] 3))
 have Hrm := Lib.hid hrm2; have Hrn := Lib.hid hrn; have Hb0 := Lib.hid hb0; have Hlt := Lib.hid hlt; have Hnd := Lib.hid hnd; have Her := Lib.hid her; have Htl := Lib.hid htl
 clear hrm hrm2 hrn hb0 hlt hnd her htl
 unfold codeL
 obtain ⟨nums, hnums⟩ : ∃ nums, nums = codeNums ts os es := ⟨_, rfl⟩
 rw [← hnums]
 obtain ⟨outs, houts⟩ : ∃ outs, outs = bytesL nums := ⟨_, rfl⟩
 rw [← houts]
 have Hnums := Lib.hid hnums; have Houts := Lib.hid houts
 clear hnums houts
 go_enter Tryz.func20, Tryz.ntmps20
 go_wp2_with fail
 go_loopg [8, 26] os.length (fun r nv iv wj => ∃ (k g c : Nat), k + r = os.length ∧ iv = .int .i64 k ∧ nv = .slice (some ⟨g, 0, none⟩) (k + 1) c ∧ Row wj g 3 1 c ((nums1 ts os k).map (Value.int .i64)) ∧ k + 1 ≤ c ∧
  Row wj w.heap.size 3 1 os.length ((placeV os k).map (Value.int .i64)) ∧ w.heap.size < g ∧ Below w.heap.size w wj)
 case atStart => exact ⟨0, _, 1, by omega, rfl, rfl, Hrn.out, by omega, Hrm.out, by omega, Hb0.out⟩
 case round =>
  clear Hrn Hrm Hb0 hmi
  obtain ⟨k, g, c, hk, rfl, rfl, hnr, hc, hpr, hg, hB⟩ := hrel
  by_cases hkl : k < os.length
  ·
   obtain ⟨b2, o2, rfl, hx⟩ := (ho.below hB) k (vN os[k]) (by simp [hkl]); have hxl : os[k] < os.length := Hlt.out _ (List.getElem_mem hkl); obtain ⟨x, hxe⟩ : ∃ x, os[k] = x := ⟨_, rfl⟩
   have hps := placeV_set Hnd.out hkl hxl; have hns := nums1_succ ts hkl; rw [hxe] at hx hxl hps hns; unfold vN at hx; have htl := Htl.out; have hpr2 := hpr.set x (.int .i64 (k : Int)); rw [← List.map_set, hps] at hpr2; have hfz := hpr.frozen x; have hpc : wr.cell? ⟨w.heap.size, x, none⟩ = some (.int .i64 ((placeV os k)[x]'(by rw [placeV_len]; exact hxl))) := by
    rw [hpr.cell? x (by rw [List.length_map, placeV_len]; exact hxl), List.getElem?_map, List.getElem?_eq_getElem (by rw [placeV_len]; exact hxl)]; rfl
   have hB2 := hB.setCell (p := ⟨w.heap.size, x, none⟩) (Nat.le_refl _) (.int .i64 (k : Int)); have hnr2 := hnr.other (a := ⟨w.heap.size, x, none⟩) (show g ≠ w.heap.size by omega) (.int .i64 (k : Int)); obtain ⟨b1, o1, hb1, htx⟩ := (ht.below hB2).at x (by omega); subst hb1; obtain ⟨tx, hgd⟩ : ∃ tx, ts.getD x 0 = tx := ⟨_, rfl⟩
   have hgx : ts[x]'(by omega) = tx := by rw [← hgd]; simp [List.getD, show x < ts.length by omega]
   rw [hgx] at htx; rw [hgd] at hns; have i1 : (k : Int) < (os.length : Int) := by omega
   have i2 : (x : Int) < (os.length : Int) := by omega
   have i3 : (x : Int) < (ts.length : Int) := by omega
   have hws : w.heap.size < wr.heap.size := hpr.lt; have Hk := Lib.hid hk; have Hns := Lib.hid hns; have Hpr2 := Lib.hid hpr2; have HB2 := Lib.hid hB2; have hxs : x < ts.length := by omega
   clear hk hns hpr2 hB2 hgd hgx hpr hps hxe htl hnr hB; go_upto_region 7 with (fail)
   generalize wr.setCell ⟨w.heap.size, x, none⟩ (.int .i64 (k : Int)) = wa at *
   go_wp2_with (at_builtin; go_loud (refine wpList_append_row _ rfl (.tmp 35) (.tmp 40) 25 rfl 3 (.int .i64 0) 1 8 Tryz.underlying25 int_info rfl (.slice (some ⟨g, 0, none⟩) (k + 1) c) (k + 1) _ rfl ((hnr2.alloc _).own (by rw [List.length_map, nums1_len _ _ (by omega)]; simp) hc) ⟨wa.heap.size, 0, none⟩ 1 1 [.int .i64 tx] rfl rfl (one_new (by simp)) (one_ok _ _) (by omega) (by unfold maxLen; omega) (by omega) ?_; intro g3 c9 w3 hr3 hc3 hg3 hor3)); have hpr3 := (Hpr2.out.alloc (.cells #[.int .i64 tx] 3)).grown hg3 (by simp [Value.ownBlock]; omega); have hg3' : w.heap.size < g3 := by
    have h2 := HB2.out.size; rcases hor3 with h | h
    · cases h; exact hg
    · simp at h; omega
   have hB3 := (bl_trans HB2.out (bl_alloc wa (.cells #[.int .i64 tx] 3))).grown hg3 (by have := HB2.out.size; simp; omega) (fun j hj => by cases hj; show w.heap.size ≤ g; omega); have hr4 := hr3.nums; rw [← Hns.out] at hr4; have HB3 := Lib.hid hB3; have Hr4 := Lib.hid hr4; have Hpr3 := Lib.hid hpr3; clear hr3 hr4 hg3 hor3 hB3 hpr3; go_roundg (gk - 1)
   case measure => have := Hk.out; omega
   case rel => exact ⟨k + 1, g3, c9, by have := Hk.out; omega, by go_num, rfl, Hr4.out, by omega, Hpr3.out, hg3', HB3.out⟩
  ·
   have hkn : k = os.length := by omega
   subst hkn; have hmp := fun w => run_make_room (P := Tryz.prog) 22 51 (.agg #[.int .i64 0, .int .i64 0]) 2 16 Tryz.underlying22 pair_info2 es.length (by omega) (by omega) w; have hrr := row_room wr (.agg #[.int .i64 0, .int .i64 0]) es.length 2 51 (by unfold maxLen; omega); have hnr2 := hnr.alloc (.cells (madeCells (Value.agg #[.int .i64 0, .int .i64 0]).cells (es.length * 2)) 51); have hpr2 := hpr.alloc (.cells (madeCells (Value.agg #[.int .i64 0, .int .i64 0]).cells (es.length * 2)) 51); have hB2 := bl_trans hB (bl_alloc wr (.cells (madeCells (Value.agg #[.int .i64 0, .int .i64 0]).cells (es.length * 2)) 51)); have hgl := hnr.lt; have hpl := hpr.lt; have Hrr := Lib.hid hrr; have Hnr2 := Lib.hid hnr2; have Hpr2 := Lib.hid hpr2; have HB2 := Lib.hid hB2; clear hnr hpr hB hrr hnr2 hpr2 hB2; obtain ⟨wq, rfl⟩ : ∃ wq : World, wq = wr := ⟨_, rfl⟩
   clear hk; go_wp2_with fail
   go_loopg [11, 48] es.length (fun r ev iv wj => ∃ (k ge ce : Nat), k + r = es.length ∧ iv = .int .i64 k ∧ ev = .slice (some ⟨ge, 0, none⟩) k ce ∧ Row wj ge 51 2 ce (pairCells ((es.take k).map (endP os))) ∧ k ≤ ce ∧
    Row wj w.heap.size 3 1 os.length ((placeV os os.length).map (Value.int .i64)) ∧ Row wj g 3 1 c ((nums1 ts os os.length).map (Value.int .i64)) ∧ wq.heap.size ≤ ge ∧ Below w.heap.size w wj)
   case atStart => exact ⟨0, _, _, by omega, rfl, rfl, Hrr.out, by omega, Hpr2.out, Hnr2.out, Nat.le_refl _, HB2.out⟩
   case round =>
    clear Hrr Hpr2 Hnr2 HB2 hmp; obtain ⟨k, ge, ce, hk, rfl, rfl, her, hce, hpr, hnr, hge, hB⟩ := hrel; by_cases hkl : k < es.length
    ·
     obtain ⟨b3, o3, rfl, hx0, hx1⟩ := (he.below hB).at k hkl; obtain ⟨hr1, hr2, hr3, hr4⟩ := Her.out _ (List.getElem_mem hkl); obtain ⟨⟨x, y⟩, hxe⟩ : ∃ x, es[k] = x := ⟨_, rfl⟩
     rw [hxe] at hx0 hx1 hr1 hr2 hr3 hr4; simp only at hx0 hx1 hr1 hr2 hr3 hr4; obtain ⟨u, rfl⟩ : ∃ u : Nat, x = u := ⟨x.toNat, by omega⟩
     obtain ⟨v, rfl⟩ : ∃ v : Nat, y = v := ⟨y.toNat, by omega⟩
     have hu : u < os.length := by omega
     have hv : v < os.length := by omega
     have hst : (es.take (k + 1)).map (endP os) = (es.take k).map (endP os) ++ [(min (os.idxOf u : Int) (os.idxOf v), max (os.idxOf u : Int) (os.idxOf v))] := by
      rw [List.take_succ_eq_append_getElem hkl, List.map_append, hxe]; simp [endP]
     have hpu : wr.cell? ⟨w.heap.size, u, none⟩ = some (.int .i64 (os.idxOf u : Nat)) := by
      rw [hpr.cell? u (by rw [List.length_map, placeV_len]; exact hu), List.getElem?_map, placeV_end (all_in Hnd.out Hlt.out hu) hu]; rfl
     have hpv : wr.cell? ⟨w.heap.size, v, none⟩ = some (.int .i64 (os.idxOf v : Nat)) := by
      rw [hpr.cell? v (by rw [List.length_map, placeV_len]; exact hv), List.getElem?_map, placeV_end (all_in Hnd.out Hlt.out hv) hv]; rfl
     obtain ⟨pu, hpue⟩ : ∃ p, os.idxOf u = p := ⟨_, rfl⟩
     obtain ⟨pv, hpve⟩ : ∃ p, os.idxOf v = p := ⟨_, rfl⟩
     rw [hpue, hpve] at hst; rw [hpue] at hpu; rw [hpve] at hpv; have hbx := bl_alloc wr (.cells #[.int .i64 u, .int .i64 v] 51); have hpu2 := keep_cell hbx hpu; have hpv2 := keep_cell hbx hpv; have i1 : (k : Int) < (es.length : Int) := by omega
     have i2 : (u : Int) < (os.length : Int) := by omega
     have i3 : (v : Int) < (os.length : Int) := by omega
     have her2 := her.alloc (.cells #[.int .i64 u, .int .i64 v] 51); have hpr2 := hpr.alloc (.cells #[.int .i64 u, .int .i64 v] 51); have hnr2 := hnr.alloc (.cells #[.int .i64 u, .int .i64 v] 51); have hB2 := bl_trans hB hbx; have hlen : (es.take k).length = k := by rw [List.length_take]; omega
     have d0 : (wr.alloc (.cells #[.int .i64 u, .int .i64 v] 51)).cell? ⟨wr.heap.size, 0, none⟩ = some (.int .i64 u) := by simp
     have d1 : (wr.alloc (.cells #[.int .i64 u, .int .i64 v] 51)).cell? ⟨wr.heap.size, 1, none⟩ = some (.int .i64 v) := by simp
     have hgel := her.lt; have Hk := Lib.hid hk; have Hst := Lib.hid hst; have Her2 := Lib.hid her2; have Hpr2 := Lib.hid hpr2; have Hnr2 := Lib.hid hnr2; have HB2 := Lib.hid hB2; clear hk hst her2 hpr2 hnr2 hB2 her hpr hnr hB hpue hpve hpu hpv hxe hbx hr1 hr2 hr3 hr4; go_upto_region 13 with (fail)
     generalize wr.alloc (.cells #[.int .i64 u, .int .i64 v] 51) = wa at *
     go_quiet (fail)
     go_wp2_with (at_builtin; go_loud (refine wpList_append_row _ rfl (.tmp 62) (.tmp 70) 22 rfl 51 (.agg #[.int .i64 0, .int .i64 0]) 2 16 Tryz.underlying22 pair_info2 rfl (.slice (some ⟨ge, 0, none⟩) k ce) k _ rfl (((Her2.out.drew).alloc _).own (by rw [pairCells_length, List.length_map]; omega) hce) ⟨wa.heap.size, 0, none⟩ 1 1 [.int .i64 (min (pu : Int) pv), .int .i64 (max (pu : Int) pv)] rfl rfl (news_lit wa.drew _ [_, _]) (by intro u hu; simp at hu; rcases hu with rfl | rfl <;> rfl) (by omega) (by unfold maxLen; omega) (by omega) ?_; intro g3 c9 w3 hr3 hc3 hg3 hor3)); have hge' : wq.heap.size ≤ g3 := by
      rcases hor3 with h | h
      · cases h; exact hge
      · have h2 := Her2.out.lt; simp at h; omega
     have hB3 := ((below_drewN HB2.out nq).alloc (by have := HB2.out.size; simpa using this) (.cells #[.int .i64 (min (pu : Int) pv), .int .i64 (max (pu : Int) pv)] 51)).grown hg3 (by have := HB2.out.size; simp; omega) (fun j hj => by cases hj; show w.heap.size ≤ ge; omega); have hpr3 := ((Hpr2.out.drewN nq).alloc (.cells #[.int .i64 (min (pu : Int) pv), .int .i64 (max (pu : Int) pv)] 51)).grown hg3 (by simp [Value.ownBlock]; omega); have hnr3 := ((Hnr2.out.drewN nq).alloc (.cells #[.int .i64 (min (pu : Int) pv), .int .i64 (max (pu : Int) pv)] 51)).grown hg3 (by simp [Value.ownBlock]; omega); have hr4 : Row w3 g3 51 2 c9 (pairCells ((es.take (k + 1)).map (endP os))) := by rw [Hst.out, pcells_append]; exact hr3
     have HB3 := Lib.hid hB3; have Hr4 := Lib.hid hr4; have Hpr3 := Lib.hid hpr3; have Hnr3 := Lib.hid hnr3; clear hr3 hr4 hg3 hor3 hB3 hpr3 hnr3; go_roundg (gk - 1)
     case measure => have := Hk.out; omega
     case rel => exact ⟨k + 1, g3, c9, by have := Hk.out; omega, by go_num, rfl, Hr4.out, hc3, Hpr3.out, Hnr3.out, hge', HB3.out⟩
    ·
     have hkn : k = es.length := by omega
     subst hkn; rw [List.take_length] at her; have hgel := her.lt; have Hnr := Lib.hid hnr; have HB := Lib.hid hB; clear hk hpr hnr hB; go_wp2_with fail; refine (sortP_walk ge ce es.length _ _ her (by simp) (by simp; omega)).mono ?_; rintro e w4 ⟨rfl, hsr, hg4⟩; have hsr2 : Row w4 ge 51 2 ce (pairCells (endsF os es)) := hsr; obtain ⟨fs, hfs⟩ : ∃ fs, fs = endsF os es := ⟨_, rfl⟩
     have hfl : fs.length = es.length := by rw [hfs]; unfold endsF; rw [sortP_len]; simp
     rw [← hfs] at hsr2; have hnr4 := Hnr.out.grown hg4 (by simp; omega); have hB4 := HB.out.grown hg4 HB.out.size (fun j hj => by cases hj; omega); have hws := hsr2.lt; have Hfs := Lib.hid hfs; have Hsr2 := Lib.hid hsr2; have Hnr4 := Lib.hid hnr4; have HB4 := Lib.hid hB4; clear hsr hsr2 hfs hg4 hnr4 hB4 her; go_upto_region 18 with (at_builtin; go_loud (refine wpList_append_row _ rfl (.tmp 75) (.tmp 78) 25 rfl 3 (.int .i64 0) 1 8 Tryz.underlying25 int_info rfl (.slice (some ⟨g, 0, none⟩) (os.length + 1) c) (os.length + 1) _ rfl ((Hnr4.out.alloc _).own (by rw [List.length_map, nums1_len _ _ (Nat.le_refl _)]; simp) hc) ⟨w4.heap.size, 0, none⟩ 1 1 [.int .i64 (es.length : Int)] rfl rfl (one_new (by simp)) (one_ok _ _) (by omega) (by unfold maxLen; omega) (by omega) ?_; intro g3 c9 w3 hr3 hc3 hg3 hor3))
     have hnr5 : Row w3 g3 3 1 c9 ((nums1 ts os os.length ++ [(es.length : Int)]).map (Value.int .i64)) := hr3.nums; have hg3' : w.heap.size < g3 := by
      rcases hor3 with h | h
      · cases h; exact hg
      · simp at h; omega
     have hsr5 := (Hsr2.out.alloc (.cells #[.int .i64 (es.length : Int)] 3)).grown hg3 (by simp [Value.ownBlock]; omega); have hB5 := (bl_trans HB4.out (bl_alloc w4 (.cells #[.int .i64 (es.length : Int)] 3))).grown hg3 (by have := HB4.out.size; simp; omega) (fun j hj => by cases hj; show w.heap.size ≤ g; omega); have hne5 : g3 ≠ ge := fun e => by
      rcases hor3 with h | h
      · cases h; exact absurd (show g = ge from e) (by omega)
      · simp at h; omega
     have Hnr5 := Lib.hid hnr5; have Hsr5 := Lib.hid hsr5; have HB5 := Lib.hid hB5; clear hnr5 hsr5 hB5 hr3 hg3 hor3; obtain ⟨L, hL⟩ : ∃ L, L = nums1 ts os os.length ++ [(es.length : Int)] := ⟨_, rfl⟩
     have hLl : L.length = os.length + 1 + 1 := by rw [hL, List.length_append, nums1_len _ _ (Nat.le_refl _)]; simp
     have Hnr6 := Lib.hid (hL ▸ Hnr5.out); have HL := Lib.hid hL; have HLl := Lib.hid hLl; clear hL hLl Hnr5 Hnr4 Hsr2; go_wp2_with fail
     go_loopg [8, 82] es.length (fun r nv iv wj => ∃ (k g c : Nat), k + r = es.length ∧ iv = .int .i64 k ∧ nv = .slice (some ⟨g, 0, none⟩) (os.length + 1 + 1 + 2 * k) c ∧ Row wj g 3 1 c ((L ++ (fs.take k).flatMap fun e => [e.1, e.2]).map (Value.int .i64)) ∧ os.length + 1 + 1 + 2 * k ≤ c ∧
      Row wj ge 51 2 ce (pairCells fs) ∧ w.heap.size < g ∧ g ≠ ge ∧ Below w.heap.size w wj)
     case atStart => exact ⟨0, g3, c9, by omega, rfl, rfl, by simpa using Hnr6.out, by omega, Hsr5.out, hg3', hne5, HB5.out⟩
     case round =>
      clear Hnr6 Hsr5 HB5 hg3' hne5; obtain ⟨k, gn, cn, hk, rfl, rfl, hnr, hcn, hsr, hgn, hne, hB⟩ := hrel; have hkf : fs.length = es.length := hfl; by_cases hkl : k < es.length
      ·
       have hkl2 : k < fs.length := by omega
       obtain ⟨b3, o3, hb3, hx0, hx1⟩ := (show RdP wr (some ⟨ge, 0, none⟩) fs from hsr.at_).at k hkl2; cases hb3; rw [Nat.zero_add] at hx0 hx1; obtain ⟨⟨x, y⟩, hxe⟩ : ∃ x, fs[k] = x := ⟨_, rfl⟩
       rw [hxe] at hx0 hx1; simp only at hx0 hx1; have hst : L ++ (fs.take (k + 1)).flatMap (fun e => [e.1, e.2]) = (L ++ (fs.take k).flatMap fun e => [e.1, e.2]) ++ [x, y] := by
        rw [List.take_succ_eq_append_getElem hkl2, List.flatMap_append, hxe]; simp
       have hlen : ((L ++ (fs.take k).flatMap fun e => [e.1, e.2]).map (Value.int .i64)).length = os.length + 1 + 1 + 2 * k := by
        have : ∀ l : List (Int × Int), (l.flatMap fun e => [e.1, e.2]).length = 2 * l.length := fun l => by
         induction l with
         | nil => rfl
         | cons a l ih => simp only [List.flatMap_cons, List.length_append, List.length_cons, List.length_nil, ih]; omega
        rw [List.length_map, List.length_append, this, HLl.out, List.length_take]; omega
       have i1 : (k : Int) < (es.length : Int) := by omega
       have hbx := bl_alloc wr (.cells #[.int .i64 x, .int .i64 y] 51); have hnr2 := hnr.alloc (.cells #[.int .i64 x, .int .i64 y] 51); have hsr2 := hsr.alloc (.cells #[.int .i64 x, .int .i64 y] 51); have hB2 := bl_trans hB hbx; have d0 : (wr.alloc (.cells #[.int .i64 x, .int .i64 y] 51)).cell? ⟨wr.heap.size, 0, none⟩ = some (.int .i64 x) := by simp
       have d1 : (wr.alloc (.cells #[.int .i64 x, .int .i64 y] 51)).cell? ⟨wr.heap.size, 1, none⟩ = some (.int .i64 y) := by simp
       have Hk := Lib.hid hk; have Hst := Lib.hid hst; have Hsr2 := Lib.hid hsr2; have HB2 := Lib.hid hB2; clear hk hst hsr2 hB2 hnr hsr hB hxe hbx; go_upto_region 21 with (fail)
       generalize wr.alloc (.cells #[.int .i64 x, .int .i64 y] 51) = wa at *
       go_wp2_with (at_builtin; go_loud (refine wpList_append_row _ rfl (.tmp 86) (.tmp 91) 25 rfl 3 (.int .i64 0) 1 8 Tryz.underlying25 int_info rfl (.slice (some ⟨gn, 0, none⟩) (os.length + 1 + 1 + 2 * k) cn) (os.length + 1 + 1 + 2 * k) _ rfl ((hnr2.alloc _).own (by rw [hlen]; simp) hcn) ⟨wa.heap.size, 0, none⟩ 2 2 [.int .i64 x, .int .i64 y] rfl rfl (news_lit wa _ [_, _]) (by intro u hu; simp at hu; rcases hu with rfl | rfl <;> rfl) (by omega) (by unfold maxLen; omega) (by omega) ?_; intro g5 c5 w5 hr5 hc5 hg5 hor5)); have hgn5 : w.heap.size < g5 := by
        rcases hor5 with h | h
        · cases h; exact hgn
        · have h1 := HB2.out.size; simp at h; omega
       have hne5 : g5 ≠ ge := fun e => by
        have h2 := Hsr2.out.lt; rcases hor5 with h | h
        · cases h; exact hne e
        · simp at h; omega
       have hsr5 := (Hsr2.out.alloc (.cells #[.int .i64 x, .int .i64 y] 3)).grown hg5 (by simp [Value.ownBlock]; exact hne); have hB5 := (bl_trans HB2.out (bl_alloc wa (.cells #[.int .i64 x, .int .i64 y] 3))).grown hg5 (by have := HB2.out.size; simp; omega) (fun j hj => by cases hj; show w.heap.size ≤ gn; omega); have hr6 : Row w5 g5 3 1 c5 ((L ++ (fs.take (k + 1)).flatMap fun e => [e.1, e.2]).map (Value.int .i64)) := by
        rw [Hst.out, List.map_append]; exact hr5
       have HB5 := Lib.hid hB5; have Hr6 := Lib.hid hr6; have Hsr5 := Lib.hid hsr5; clear hr5 hr6 hg5 hor5 hB5 hsr5; go_roundg (gk - 1)
       case measure => have := Hk.out; omega
       case rel => exact ⟨k + 1, g5, c5, by have := Hk.out; omega, by go_num, by rw [show os.length + 1 + 1 + 2 * k + 2 = os.length + 1 + 1 + 2 * (k + 1) by omega], Hr6.out, by omega, Hsr5.out, hgn5, hne5, HB5.out⟩
      ·
       have hkn : k = es.length := by omega
       subst hkn; rw [List.take_of_length_le (by omega)] at hnr; have hfin : L ++ fs.flatMap (fun e => [e.1, e.2]) = nums := by
        rw [Hnums.out, HL.out, Hfs.out]; unfold nums1 codeNums; rw [List.take_length]
       rw [hfin] at hnr; have hlen : nums.length = os.length + 1 + 1 + 2 * es.length := by
        have : ∀ l : List (Int × Int), (l.flatMap fun e => [e.1, e.2]).length = 2 * l.length := fun l => by
         induction l with
         | nil => rfl
         | cons a l ih => simp only [List.flatMap_cons, List.length_append, List.length_cons, List.length_nil, ih]; omega
        rw [← hfin, List.length_append, this, HLl.out]; omega
       have hrd : RdI wr (some ⟨gn, 0, none⟩) nums := hnr.at_; have HB := Lib.hid hB; have Hlen := Lib.hid hlen; have Hrd := Lib.hid hrd; clear hB hlen hrd hnr hfin hsr; go_wp2_with fail; have hbw := bytes_walk (some ⟨gn, 0, none⟩) cn nums wr Hrd.out (by rw [Hlen.out]; omega); rw [Hlen.out, ← Houts.out] at hbw; refine hbw.mono ?_; rintro e w6 ⟨g6, c6, rfl, hr6, hc6, hg6, hb6⟩; go_wp2_with fail; go_ret; exact ⟨g6, c6, rfl, hr6, hc6, Nat.le_trans HB.out.size hg6, bl_trans HB.out hb6⟩
end Go.Proofs.YtagjdkkfmfombaaGreat
namespace Go.Proofs.YtagjdkkfmfombaaGreat
open Go Go.Sort
def cmpB : List Int → List Int → Int
 | [], [] => 0
 | [], _ :: _ => -1
 | _ :: _, [] => 1
 | a :: xs, b :: ys => if cmpI a b = 0 then cmpB xs ys else cmpI a b
def lessB : List Int → List Int → Prop
 | [], [] => False
 | [], _ :: _ => True
 | _ :: _, [] => False
 | a :: xs, b :: ys => a < b ∨ (a = b ∧ lessB xs ys)
theorem cmpB_neg : ∀ a b : List Int, cmpB a b < 0 ↔ lessB a b
 | [], [] => by simp [cmpB, lessB]
 | [], _ :: _ => by simp [cmpB, lessB]
 | _ :: _, [] => by simp [cmpB, lessB]
 | a :: xs, b :: ys => by
  have ih := cmpB_neg xs ys
  unfold cmpB lessB
  unfold cmpI
  by_cases h1 : a < b
  · simp [h1]
  ·
   by_cases h2 : b < a
   ·
    have : ¬ a = b := by omega
    simp [h1, h2, this]
   ·
    have : a = b := by omega
    simp [h1, h2, this, ih]
theorem cmpB_zero : ∀ a b : List Int, cmpB a b = 0 ↔ a = b
 | [], [] => by simp [cmpB]
 | [], _ :: _ => by simp [cmpB]
 | _ :: _, [] => by simp [cmpB]
 | a :: xs, b :: ys => by
  have ih := cmpB_zero xs ys
  unfold cmpB cmpI
  by_cases h1 : a < b
  ·
   have : ¬ a = b := by omega
   simp [h1, this]
  ·
   by_cases h2 : b < a
   ·
    have : ¬ a = b := by omega
    simp [h1, h2, this]
   ·
    have : a = b := by omega
    simp [h1, h2, this, ih]
theorem lessB_irr : ∀ a : List Int, ¬ lessB a a
 | [] => by simp [lessB]
 | a :: xs => by have := lessB_irr xs; simp [lessB, this]
theorem lessB_trans : ∀ {a b d : List Int}, lessB a b → lessB b d → lessB a d
 | [], [], _, h, _ => by simp [lessB] at h
 | [], _ :: _, [], _, h => by simp [lessB] at h
 | [], _ :: _, _ :: _, _, _ => by simp [lessB]
 | _ :: _, [], _, h, _ => by simp [lessB] at h
 | _ :: _, _ :: _, [], _, h => by simp [lessB] at h
 | a :: xs, b :: ys, d :: ds, h, k => by
  simp only [lessB] at h k ⊢
  rcases h with h | ⟨h, h'⟩ <;> rcases k with k | ⟨k, k'⟩
  · left; omega
  · left; omega
  · left; omega
  · exact .inr ⟨h.trans k, lessB_trans h' k'⟩
theorem lessB_tri : ∀ a b : List Int, lessB a b ∨ a = b ∨ lessB b a
 | [], [] => by simp
 | [], _ :: _ => by simp [lessB]
 | _ :: _, [] => by simp [lessB]
 | a :: xs, b :: ys => by
  have := lessB_tri xs ys
  simp only [lessB, List.cons.injEq]
  rcases Int.lt_trichotomy a b with h | h | h
  · exact .inl (.inl h)
  ·
   rcases this with t | t | t
   · exact .inl (.inr ⟨h, t⟩)
   · exact .inr (.inl ⟨h, t⟩)
   · exact .inr (.inr (.inr ⟨h.symm, t⟩))
  · exact .inr (.inr (.inl h))
theorem ltOf_cmpB (x y : List Int) : ltOf cmpB x y = decide (cmpB x y < 0) := rfl
theorem swo_cmpB : SWO (ltOf cmpB) where
 irrefl x := by rw [ltOf_cmpB, decide_eq_false_iff_not, cmpB_neg]; exact lessB_irr x
 trans x y z h1 h2 := by
  rw [ltOf_cmpB] at *
  rw [decide_eq_true_eq, cmpB_neg] at *
  exact lessB_trans h1 h2
 ntrans x y z h1 h2 := by
  rw [ltOf_cmpB] at *
  rw [decide_eq_false_iff_not, cmpB_neg] at *
  intro h3
  rcases lessB_tri y x with t | t | t
  ·
   rcases lessB_tri z y with u | u | u
   · exact lessB_irr _ (lessB_trans h3 (lessB_trans u t))
   · subst u; exact h1 h3
   · exact h2 u
  · subst t; exact h2 h3
  · exact h1 t
def RisB (l : List (List Int)) : Prop := l.Pairwise lessB
theorem risB_same : ∀ {l m : List (List Int)}, RisB l → RisB m → (∀ x, x ∈ l ↔ x ∈ m) → l = m
 | [], [], _, _, _ => rfl
 | [], b :: m, _, _, h => absurd ((h b).2 (by simp)) (by simp)
 | a :: l, [], _, _, h => absurd ((h a).1 (by simp)) (by simp)
 | a :: l, b :: m, hl, hm, h => by
  obtain ⟨l1, l2⟩ := List.pairwise_cons.1 hl
  obtain ⟨m1, m2⟩ := List.pairwise_cons.1 hm
  have hab : a = b := by
   rcases List.mem_cons.1 ((h a).1 (by simp)) with e | e
   · exact e
   ·
    rcases List.mem_cons.1 ((h b).2 (by simp)) with e' | e'
    · exact e'.symm
    · exact absurd (lessB_trans (m1 a e) (l1 b e')) (lessB_irr _)
  subst hab
  have : l = m := risB_same l2 m2 fun x => by
   constructor
   ·
    intro hx; rcases List.mem_cons.1 ((h x).1 (by simp [hx])) with e | e
    · subst e; exact absurd (l1 _ hx) (lessB_irr _)
    · exact e
   ·
    intro hx; rcases List.mem_cons.1 ((h x).2 (by simp [hx])) with e | e
    · subst e; exact absurd (m1 _ hx) (lessB_irr _)
    · exact e
  rw [this]
def onceB : List (List Int) → List (List Int)
 | [] => []
 | [a] => [a]
 | a :: b :: r => if a = b then onceB (b :: r) else a :: onceB (b :: r)
theorem mem_onceB : ∀ {l : List (List Int)} {x : List Int}, x ∈ onceB l ↔ x ∈ l
 | [], x => by simp [onceB]
 | [a], x => by simp [onceB]
 | a :: b :: r, x => by
  have ih := @mem_onceB (b :: r) x
  unfold onceB
  by_cases e : a = b
  · rw [if_pos e, ih]; subst e; simp
  · rw [if_neg e, List.mem_cons, ih, List.mem_cons (a := x) (b := a)]
def sortB (l : List (List Int)) : List (List Int) := l.mergeSort fun x y => !decide (cmpB y x < 0)
theorem sortB_le (x y : List Int) : (!decide (cmpB y x < 0)) = true ↔ ¬ lessB y x := by simp [cmpB_neg]
theorem sortB_rises (l : List (List Int)) : (sortB l).Pairwise fun x y => ¬ lessB y x := by
 have := List.pairwise_mergeSort (le := fun x y => !decide (cmpB y x < 0)) (fun a b c h1 h2 => by
  rw [sortB_le] at *
  intro h
  rcases lessB_tri c b with t | t | t
  · exact h2 t
  · subst t; exact h1 h
  · exact h1 (lessB_trans t h)) (fun a b => by
  rw [Bool.or_eq_true, sortB_le, sortB_le]
  rcases lessB_tri a b with t | t | t
  · exact .inl fun h => lessB_irr _ (lessB_trans t h)
  · subst t; exact .inl (lessB_irr _)
  · exact .inr fun h => lessB_irr _ (lessB_trans t h)) l
 exact this.imp fun h => (sortB_le _ _).1 h
theorem onceB_ris : ∀ {l : List (List Int)}, (l.Pairwise fun x y => ¬ lessB y x) → RisB (onceB l)
 | [], _ => by simp [onceB, RisB]
 | [a], _ => by simp [onceB, RisB]
 | a :: b :: r, h => by
  obtain ⟨h1, h2⟩ := List.pairwise_cons.1 h
  have ih := onceB_ris h2
  unfold onceB
  by_cases e : a = b
  · rw [if_pos e]; exact ih
  ·
   rw [if_neg e]
   refine List.pairwise_cons.2 ⟨fun x hx => ?_, ih⟩
   have hab : lessB a b := by
    rcases lessB_tri a b with t | t | t
    · exact t
    · exact absurd t e
    · exact absurd t (h1 b (by simp))
   rcases List.mem_cons.1 (mem_onceB.1 hx) with rfl | hx
   · exact hab
   ·
    rcases lessB_tri b x with t | t | t
    · exact lessB_trans hab t
    · rw [← t]; exact hab
    · exact absurd t ((List.pairwise_cons.1 h2).1 x hx)
def sortU (l : List (List Int)) : List (List Int) := onceB (sortB l)
theorem mem_sortU {l : List (List Int)} {x : List Int} : x ∈ sortU l ↔ x ∈ l := by
 unfold sortU sortB
 rw [mem_onceB, List.mem_mergeSort]
theorem sortU_ris (l : List (List Int)) : RisB (sortU l) := onceB_ris (sortB_rises l)
theorem sortU_same {l m : List (List Int)} (h : ∀ x, x ∈ l ↔ x ∈ m) : sortU l = sortU m :=
 risB_same (sortU_ris l) (sortU_ris m) fun x => by rw [mem_sortU, mem_sortU, h]
def rankB (l : List (List Int)) (x : List Int) : Nat := (sortU l).idxOf x
theorem onceB_len : ∀ l : List (List Int), (onceB l).length ≤ l.length
 | [] => by simp [onceB]
 | [a] => by simp [onceB]
 | a :: b :: r => by
  have ih := onceB_len (b :: r)
  unfold onceB
  split
  · simp only [List.length_cons] at ih ⊢; omega
  · simp only [List.length_cons] at ih ⊢; omega
theorem rankB_lt {l : List (List Int)} {x : List Int} (hx : x ∈ l) : rankB l x < l.length := by
 have h1 := List.idxOf_lt_length_iff.2 (mem_sortU.2 hx)
 have h2 := onceB_len (sortB l)
 have h3 : (sortB l).length = l.length := by simp [sortB]
 unfold rankB
 unfold sortU at h1 ⊢
 omega
theorem four_inj {a b : Int} (ha : 0 ≤ a ∧ a < 4294967296) (hb : 0 ≤ b ∧ b < 4294967296) (h : four a = four b) : a = b := by
 simp only [four, List.cons.injEq, and_true] at h
 omega
theorem bytesL_inj : ∀ {l m : List Int}, (∀ a ∈ l, 0 ≤ a ∧ a < 4294967296) → (∀ a ∈ m, 0 ≤ a ∧ a < 4294967296) → bytesL l = bytesL m → l = m
 | [], [], _, _, _ => rfl
 | [], b :: m, _, _, h => by simp [bytesL, four] at h
 | a :: l, [], _, _, h => by simp [bytesL, four] at h
 | a :: l, b :: m, hl, hm, h => by
  have h' : four a ++ bytesL l = four b ++ bytesL m := h
  obtain ⟨h1, h2⟩ := List.append_inj h' (by simp [four])
  rw [four_inj (hl a (by simp)) (hm b (by simp)) h1, bytesL_inj (fun x hx => hl x (by simp [hx])) (fun x hx => hm x (by simp [hx])) h2]
end Go.Proofs.YtagjdkkfmfombaaGreat
namespace Go.Proofs.YtagjdkkfmfombaaGreat
structure IsDist (bs : List (List Nat)) (n st : Nat) (far : List Int) : Prop where
 len : far.length = n
 val : ∀ (v : Nat) (x : Int), far[v]? = some x → x = -1 ∨ (0 ≤ x ∧ x < n)
 st0 : far[st]? = some 0
 zero : ∀ v : Nat, far[v]? = some 0 → v = st
 up : ∀ (v : Nat) (x : Int), far[v]? = some x → 0 < x → ∃ u, v ∈ bs.getD u [] ∧ far[u]? = some (x - 1)
 near : ∀ (u : Nat) (x : Int), far[u]? = some x → 0 ≤ x → ∀ w ∈ bs.getD u [], ∃ y, far[w]? = some y ∧ 0 ≤ y ∧ y ≤ x + 1
structure BI (bs : List (List Nat)) (n st i : Nat) (s : List Int × List Nat) : Prop where
 base : AInv n s
 mem : ∀ (v : Nat) (x : Int), s.1[v]? = some x → 0 ≤ x → v ∈ s.2
 st0 : s.1[st]? = some 0
 zero : ∀ v : Nat, s.1[v]? = some 0 → v = st
 up : ∀ (v : Nat) (x : Int), s.1[v]? = some x → 0 < x → ∃ u, v ∈ bs.getD u [] ∧ s.1[u]? = some (x - 1)
 mono : ∀ (j k u v : Nat) (x y : Int), j ≤ k → s.2[j]? = some u → s.2[k]? = some v → s.1[u]? = some x → s.1[v]? = some y → x ≤ y
 near : ∀ (u v : Nat) (x y : Int), s.2[i]? = some u → v ∈ s.2 → s.1[u]? = some x → s.1[v]? = some y → y ≤ x + 1
 done : ∀ (j u : Nat) (x : Int), j < i → s.2[j]? = some u → s.1[u]? = some x → ∀ w ∈ bs.getD u [], ∃ y, s.1[w]? = some y ∧ 0 ≤ y ∧ y ≤ x + 1
theorem BI.start {bs : List (List Nat)} {n st : Nat} (hst : st < n) : BI bs n st 0 ((List.replicate n (-1)).set st 0, [st]) := by
 have hv : ∀ (v : Nat) (x : Int), ((List.replicate n (-1 : Int)).set st 0)[v]? = some x → (v = st ∧ x = 0) ∨ (x = -1) := by
  intro v x h
  rw [List.getElem?_set] at h
  split at h
  ·
   split at h
   · rename_i h1 _; cases h; exact .inl ⟨h1.symm, rfl⟩
   · cases h
  ·
   rw [List.getElem?_replicate] at h; split at h
   · cases h; exact .inr rfl
   · cases h
 refine ⟨AInv.start hst, ?_, by simp [hst], ?_, ?_, ?_, ?_, ?_⟩
 ·
  intro v x h h0
  rcases hv v x h with ⟨rfl, _⟩ | h1
  · simp
  · omega
 ·
  intro v h
  rcases hv v 0 h with ⟨rfl, _⟩ | h1
  · rfl
  · omega
 ·
  intro v x h h0
  rcases hv v x h with ⟨_, h1⟩ | h1 <;> omega
 ·
  intro j k u v x y hjk hj hk hx hy
  have h1 := (List.getElem?_eq_some_iff.1 hk).1
  simp at h1
  subst h1
  obtain rfl : j = 0 := by omega
  simp at hj hk
  subst hj; subst hk
  rw [hx] at hy; cases hy; omega
 ·
  intro u v x y hu hv' hx hy
  simp at hu hv'
  subst hu; subst hv'
  rw [hx] at hy; cases hy; omega
 · intro j u x h; omega
theorem BI.step {bs : List (List Nat)} {n st i : Nat} {s : List Int × List Nat} (h : BI bs n st i s) {u : Nat} {d : Int} {x : Nat} (hu : s.2[i]? = some u) (hd : s.1[u]? = some d) (hd0 : 0 ≤ d) (hx : x ∈ bs.getD u []) (hxn : x < n) :
  BI bs n st i (away1 d s x) ∧ ∃ y, (away1 d s x).1[x]? = some y ∧ 0 ≤ y ∧ y ≤ d + 1 := by
 have hum : u ∈ s.2 := List.mem_of_getElem? hu
 have hdl : d < s.2.length := by rcases h.base.val u d hd with h1 | h1 <;> omega
 have hbase := h.base.step hxn hd0 hdl
 obtain ⟨y, hy⟩ : ∃ y, s.1[x]? = some y := ⟨s.1[x]'(by rw [h.base.lf]; exact hxn), by simp⟩
 have hg : s.1.getD x 0 = y := by simp [List.getD, hy]
 by_cases hneg : y < 0
 ·
  have he : away1 d s x = (s.1.set x (d + 1), s.2 ++ [x]) := by unfold away1; rw [hg, if_pos hneg]
  rw [he] at hbase ⊢
  have hxl : x < s.1.length := by rw [h.base.lf]; exact hxn
  have hnew : (s.1.set x (d + 1))[x]? = some (d + 1) := by simp [hxl]
  have hold : ∀ (v : Nat) (z : Int), (s.1.set x (d + 1))[v]? = some z → (v = x ∧ z = d + 1) ∨ (v ≠ x ∧ s.1[v]? = some z) := by
   intro v z hz; rw [List.getElem?_set] at hz; split at hz
   ·
    rename_i e; subst e; first
     | (cases hz; exact .inl ⟨rfl, rfl⟩)
     | (rw [if_pos hxl] at hz; cases hz; exact .inl ⟨rfl, rfl⟩)
   · rename_i e; exact .inr ⟨fun e' => e e'.symm, hz⟩
  have hkeep : ∀ (v : Nat) (z : Int), s.1[v]? = some z → 0 ≤ z → (s.1.set x (d + 1))[v]? = some z := by
   intro v z hz h0; rw [List.getElem?_set]; split
   · rename_i e; subst e; rw [hy] at hz; cases hz; omega
   · exact hz
  have hxm : x ∉ s.2 := fun hm => by
   obtain ⟨z, hz, h0⟩ := h.base.metF x hm; rw [hy] at hz; cases hz; omega
  have hnth : ∀ (k v : Nat), (s.2 ++ [x])[k]? = some v → (k < s.2.length ∧ s.2[k]? = some v) ∨ (k = s.2.length ∧ v = x) := by
   intro k v hk; by_cases hkl : k < s.2.length
   · rw [List.getElem?_append_left hkl] at hk; exact .inl ⟨hkl, hk⟩
   ·
    have h1 := (List.getElem?_eq_some_iff.1 hk).1; simp at h1; obtain rfl : k = s.2.length := by omega
    simp at hk; exact .inr ⟨rfl, hk.symm⟩
  have hilt : i < s.2.length := (List.getElem?_eq_some_iff.1 hu).1
  refine ⟨⟨hbase, ?_, ?_, ?_, ?_, ?_, ?_, ?_⟩, d + 1, hnew, by omega, by omega⟩
  ·
   intro v z hz h0; rcases hold v z hz with ⟨rfl, _⟩ | ⟨_, h1⟩
   · simp
   · exact List.mem_append_left _ (h.mem v z h1 h0)
  · exact hkeep st 0 h.st0 (by omega)
  ·
   intro v hz; rcases hold v 0 hz with ⟨_, h1⟩ | ⟨_, h1⟩
   · omega
   · exact h.zero v h1
  ·
   intro v z hz h0; rcases hold v z hz with ⟨rfl, rfl⟩ | ⟨_, h1⟩
   · exact ⟨u, hx, by rw [show d + 1 - 1 = d by omega]; exact hkeep u d hd hd0⟩
   ·
    obtain ⟨u', h2, h3⟩ := h.up v z h1 h0; exact ⟨u', h2, hkeep u' (z - 1) h3 (by omega)⟩
  ·
   intro j k p q a b hjk hj hk ha hb; rcases hnth k q hk with ⟨hkl, hk'⟩ | ⟨hkl, rfl⟩
   ·
    rcases hnth j p hj with ⟨_, hj'⟩ | ⟨h1, _⟩
    ·
     have e1 : p ≠ x := fun e => hxm (e ▸ List.mem_of_getElem? hj'); have e2 : q ≠ x := fun e => hxm (e ▸ List.mem_of_getElem? hk'); rcases hold p a ha with ⟨e, _⟩ | ⟨_, ha'⟩
     · exact absurd e e1
     rcases hold q b hb with ⟨e, _⟩ | ⟨_, hb'⟩
     · exact absurd e e2
     exact h.mono j k p q a b hjk hj' hk' ha' hb'
    · omega
   ·
    rcases hold q b hb with ⟨_, rfl⟩ | ⟨e, _⟩
    ·
     rcases hold p a ha with ⟨_, rfl⟩ | ⟨e1, ha'⟩
     · omega
     ·
      rcases hnth j p hj with ⟨_, hj'⟩ | ⟨_, e2⟩
      · exact h.near u p d a hu (List.mem_of_getElem? hj') hd ha'
      · exact absurd e2 e1
    · exact absurd rfl e
  ·
   intro p q a b hp hq ha hb; rw [List.getElem?_append_left hilt, hu] at hp; cases hp; have e1 : u ≠ x := fun e => hxm (e ▸ hum); rcases hold u a ha with ⟨e, _⟩ | ⟨_, ha'⟩
   · exact absurd e e1
   rw [hd] at ha'; cases ha'; rcases hold q b hb with ⟨_, rfl⟩ | ⟨e, hb'⟩
   · omega
   ·
    rcases List.mem_append.1 hq with hq | hq
    · exact h.near u q d b hu hq hd hb'
    · simp at hq; exact absurd hq e
  ·
   intro j p a hj hp ha w hw; rcases hnth j p hp with ⟨_, hp'⟩ | ⟨h1, _⟩
   ·
    have e1 : p ≠ x := fun e => hxm (e ▸ List.mem_of_getElem? hp'); rcases hold p a ha with ⟨e, _⟩ | ⟨_, ha'⟩
    · exact absurd e e1
    obtain ⟨z, h2, h3, h4⟩ := h.done j p a hj hp' ha' w hw; exact ⟨z, hkeep w z h2 h3, h3, h4⟩
   · omega
 ·
  have he : away1 d s x = s := by unfold away1; rw [hg, if_neg hneg]
  rw [he]
  refine ⟨h, y, hy, by omega, ?_⟩
  exact h.near u x d y hu (h.mem x y hy (by omega)) hd hy
theorem BI.fold {bs : List (List Nat)} {n st i u : Nat} {d : Int} (hd0 : 0 ≤ d) (hn : ∀ x ∈ bs.getD u [], x < n) : ∀ (l : List Nat) (s : List Int × List Nat), BI bs n st i s → s.2[i]? = some u → s.1[u]? = some d → (∀ x ∈ l, x ∈ bs.getD u []) →
  (∀ x ∈ bs.getD u [], x ∈ l ∨ ∃ y, s.1[x]? = some y ∧ 0 ≤ y ∧ y ≤ d + 1) →
  BI bs n st i (l.foldl (away1 d) s) ∧ (l.foldl (away1 d) s).2[i]? = some u ∧ (l.foldl (away1 d) s).1[u]? = some d ∧ ∀ x ∈ bs.getD u [], ∃ y, (l.foldl (away1 d) s).1[x]? = some y ∧ 0 ≤ y ∧ y ≤ d + 1 := by
 intro l
 induction l with
 | nil => intro s h hu hd _ hp; exact ⟨h, hu, hd, fun x hx => (hp x hx).resolve_left (by simp)⟩
 | cons x l ih =>
  intro s h hu hd hl hp
  obtain ⟨h1, y, h2, h3, h4⟩ := h.step hu hd hd0 (hl x (by simp)) (hn x (hl x (by simp)))
  refine ih (away1 d s x) h1 (away1_met hu) (away1_keep hd hd0) (fun z hz => hl z (List.mem_cons_of_mem _ hz)) fun z hz => ?_
  rcases hp z hz with h5 | ⟨y', h5, h6, h7⟩
  ·
   rcases List.mem_cons.1 h5 with rfl | h5
   · exact .inr ⟨y, h2, h3, h4⟩
   · exact .inl h5
  · exact .inr ⟨y', away1_keep h5 h6, h6, h7⟩
theorem BI.run {bs : List (List Nat)} {n st : Nat} (hn : ∀ u, u < n → ∀ x ∈ bs.getD u [], x < n) : ∀ (r i : Nat) (s : List Int × List Nat), BI bs n st i s → n + 1 ≤ i + r → i ≤ s.2.length → IsDist bs n st (awayRun bs r i s) := by
 intro r
 induction r with
 | zero => intro i s h hr hi; have := h.base.le; omega
 | succ r ih =>
  intro i s h hr hi
  by_cases hlt : i < s.2.length
  ·
   obtain ⟨u, hu⟩ : ∃ u, s.2[i]? = some u := ⟨s.2[i], by simp⟩
   have hum := List.mem_of_getElem? hu; obtain ⟨d, hd, hd0⟩ := h.base.metF u hum; rw [awayRun, hu]; have hg : s.1.getD u 0 = d := by simp [List.getD, hd]
   simp only [hg]; obtain ⟨h1, h2, h3, h4⟩ := BI.fold hd0 (hn u (h.base.inM u hum)) (bs.getD u []) s h hu hd (fun x hx => hx) (fun x hx => .inl hx); generalize (bs.getD u []).foldl (away1 d) s = s2 at h1 h2 h3 h4 ⊢; have hl2 : i < s2.2.length := (List.getElem?_eq_some_iff.1 h2).1; refine ih (i + 1) s2 ⟨h1.base, h1.mem, h1.st0, h1.zero, h1.up, h1.mono, ?_, ?_⟩ (by omega) (by omega)
   ·
    intro p q a b hp hq ha hb; have e1 := h1.mono i (i + 1) u p d a (by omega) h2 hp h3 ha; have e2 := h1.near u q d b h2 hq h3 hb; omega
   ·
    intro j p a hj hp ha; by_cases hji : j < i
    · exact h1.done j p a hji hp ha
    ·
     obtain rfl : j = i := by omega
     rw [h2] at hp; cases hp; rw [h3] at ha; cases ha; exact h4
  ·
   rw [awayRun_end (by omega)]; refine ⟨h.base.lf, ?_, h.st0, h.zero, h.up, ?_⟩
   ·
    intro v x hx; rcases h.base.val v x hx with h1 | h1
    · exact .inl h1
    · right; have := h.base.le; omega
   ·
    intro u x hx h0 w hw; obtain ⟨j, hj, hju⟩ := List.getElem_of_mem (h.mem u x hx h0); exact h.done j u x (by omega) (by rw [List.getElem?_eq_getElem hj, hju]) hx w hw
theorem awayL_dist {bs : List (List Nat)} {n st : Nat} (hbl : bs.length = n) (hn : ∀ u, u < n → ∀ x ∈ bs.getD u [], x < n) (hst : st < n) : IsDist bs n st (awayL bs st) := by
 unfold awayL
 rw [hbl]
 exact BI.run hn (n + 1) 0 _ (BI.start hst) (by omega) (by omega)
end Go.Proofs.YtagjdkkfmfombaaGreat
namespace Go.Proofs.YtagjdkkfmfombaaGreat
def symB (bs : List (List Nat)) : Prop := ∀ u v, v ∈ bs.getD u [] → u ∈ bs.getD v []
theorem adj_sym {n : Nat} {es : List (Int × Int)} (h : rightB n es = true) : symB (besideL n es) := by
 obtain ⟨h0, h1, h2, h3, _⟩ := (rightB_iff _ _).1 h
 have key : ∀ u v : Nat, v ∈ adj es u → u ∈ adj es v ∧ v < n := by
  intro u v hv
  unfold adj at hv ⊢
  rw [List.mem_flatMap] at hv
  obtain ⟨e, he, hx⟩ := hv
  obtain ⟨k, hk, rfl⟩ := List.getElem_of_mem he
  have := h3 k hk
  unfold adj1 at hx
  rw [List.mem_flatMap]
  split at hx
  ·
   simp at hx; refine ⟨⟨es[k], he, ?_⟩, by omega⟩; unfold adj1; rw [if_neg (by omega), if_pos (by omega)]; simp; omega
  ·
   split at hx
   ·
    simp at hx; refine ⟨⟨es[k], he, ?_⟩, by omega⟩; unfold adj1; rw [if_pos (by omega)]; simp; omega
   · simp at hx
 intro u v hv
 have hg : ∀ w : Nat, (besideL n es).getD w [] = if w < n then adj es w else [] := by
  intro w; simp only [List.getD, besideL_get]; split <;> simp
 rw [hg] at hv ⊢
 split at hv
 ·
  obtain ⟨h4, h5⟩ := key u v hv
  rw [if_pos h5]; exact h4
 · simp at hv
theorem beside_lt {n : Nat} {es : List (Int × Int)} (h : rightB n es = true) : ∀ u, u < n → ∀ x ∈ (besideL n es).getD u [], x < n := by
 obtain ⟨h0, h1, h2, h3, _⟩ := (rightB_iff _ _).1 h
 intro u hu x hx
 simp only [List.getD, besideL_get, if_pos hu] at hx
 simp only [Option.getD_some] at hx
 unfold adj at hx
 rw [List.mem_flatMap] at hx
 obtain ⟨e, he, hx⟩ := hx
 obtain ⟨k, hk, rfl⟩ := List.getElem_of_mem he
 have := h3 k hk
 unfold adj1 at hx
 split at hx
 · simp at hx; omega
 ·
  split at hx
  · simp at hx; omega
  · simp at hx
theorem away_dist {n : Nat} {es : List (Int × Int)} (h : rightB n es = true) {st : Nat} (hst : st < n) : IsDist (besideL n es) n st (awayL (besideL n es) st) :=
 awayL_dist (besideL_length n es) (beside_lt h) hst
end Go.Proofs.YtagjdkkfmfombaaGreat
namespace Go.Proofs.YtagjdkkfmfombaaGreat
inductive Anc (up : List Int) (a : Nat) : Nat → Prop
 | refl : Anc up a a
 | step {b u : Nat} : up[b]? = some (u : Int) → Anc up a u → Anc up a b
def UpChain (up : List Int) : List Nat → Prop
 | [] => True
 | [_] => True
 | v :: v' :: o => up[v]? = some (v' : Int) ∧ UpChain up (v' :: o)
theorem UpChain.anc {up : List Int} : ∀ (o : List Nat) (v : Nat), UpChain up (v :: o) → ∀ x ∈ v :: o, Anc up x v
 | [], v, _, x, hx => by simp at hx; subst hx; exact .refl
 | v' :: o, v, h, x, hx => by
  rcases List.mem_cons.1 hx with rfl | hx
  · exact .refl
  · exact .step h.1 (UpChain.anc o v' h.2 x hx)
theorem UpChain.tail {up : List Int} {v : Nat} {o : List Nat} (h : UpChain up (v :: o)) : UpChain up o := by
 cases o with
 | nil => trivial
 | cons v' o => exact h.2
theorem UpChain.set {up : List Int} {x : Nat} {y : Int} : ∀ (o : List Nat), x ∉ o → UpChain up o → UpChain (up.set x y) o
 | [], _, _ => trivial
 | [_], _, _ => trivial
 | v :: v' :: o, hx, h => ⟨by rw [List.getElem?_set, if_neg (fun e => hx (by simp [e]))]; exact h.1, UpChain.set (v' :: o) (fun e => hx (by simp at e ⊢; right; exact e)) h.2⟩
structure DInv (bs : List (List Nat)) (n st f : Nat) (order opn : List Nat) (up : List Int) : Prop where
 rank : 2 * (n - order.length) + opn.length ≤ f
 len : order.length ≤ n
 head : order[0]? = some st
 nd : order.Nodup
 lt : ∀ x ∈ order, x < n
 ul : up.length = n
 ust : up[st]? = some (-1)
 unmet : ∀ x, x < n → x ∉ order → up[x]? = some (-1)
 from_ : ∀ (i v : Nat), 0 < i → order[i]? = some v → ∃ u, up[v]? = some ((u : Nat) : Int) ∧ u ∈ order.take i ∧ v ∈ bs.getD u [] ∧
  ∃ j : Nat, (bs.getD u [])[j]? = some v ∧ ∀ k : Nat, k < j → ∀ x, (bs.getD u [])[k]? = some x → x ∈ order.take i
 opnO : ∀ x ∈ opn, x ∈ order
 chain : UpChain up opn
 done : ∀ x ∈ order, x ∉ opn → ∀ y ∈ bs.getD x [], y ∈ order
 under : ∀ (i j a b : Nat), order[i]? = some a → order[j]? = some b → i < j → b ∈ bs.getD a [] → Anc up a b
theorem nodup_len : ∀ (n : Nat) (l : List Nat), l.Nodup → (∀ x ∈ l, x < n) → l.length ≤ n := by
 intro n
 induction n with
 | zero =>
  intro l _ h
  cases l with
  | nil => simp
  | cons a l => exact absurd (h a (by simp)) (by omega)
 | succ n ih =>
  intro l hn h
  have h1 := ih (l.erase n) (hn.erase n) (fun x hx => by
   have hx' := (List.Nodup.mem_erase_iff hn).1 hx; have := h x hx'.2; have := hx'.1
   omega)
  rw [List.length_erase] at h1
  split at h1 <;> omega
theorem Anc.keep {up : List Int} {order : List Nat} {x : Nat} {y : Int} (hx : x ∉ order) (hcl : ∀ b ∈ order, ∀ u : Nat, up[b]? = some (u : Int) → u ∈ order) {a b : Nat} (h : Anc up a b) : b ∈ order → Anc (up.set x y) a b := by
 induction h with
 | refl => intro _; exact .refl
 | @step b u hu _ ih =>
  intro hb
  refine .step ?_ (ih (hcl b hb u hu))
  rw [List.getElem?_set, if_neg (fun (e : x = b) => hx (by rw [e]; exact hb))]
  exact hu
theorem DInv.parent {bs : List (List Nat)} {n st f : Nat} {order opn : List Nat} {up : List Int} (h : DInv bs n st f order opn up) : ∀ b ∈ order, ∀ u : Nat, up[b]? = some (u : Int) → u ∈ order := by
 intro b hb u hu
 obtain ⟨i, hi, rfl⟩ := List.getElem_of_mem hb
 rcases Nat.eq_zero_or_pos i with h0 | h0
 ·
  subst h0
  have := h.head
  rw [List.getElem?_eq_getElem hi] at this
  cases this
  rw [h.ust] at hu
  simp at hu; try omega
 ·
  obtain ⟨u', h1, h2, _⟩ := h.from_ i order[i] h0 (by simp)
  rw [hu] at h1
  simp at h1
  have : u = u' := by omega
  subst this
  exact List.mem_of_mem_take h2
theorem DInv.push {bs : List (List Nat)} {n st f v x : Nat} {order o : List Nat} {up : List Int} (hbl : ∀ u, u < n → ∀ x ∈ bs.getD u [], x < n) (h : DInv bs n st (f + 1) order (v :: o) up) (hf : fresh bs order v = some x) :
  DInv bs n st f (order ++ [x]) (x :: v :: o) (up.set x (v : Int)) := by
 obtain ⟨hxb, hxo⟩ := fresh_some hf
 have hv : v ∈ order := h.opnO v (by simp)
 have hxn : x < n := hbl v (h.lt v hv) x hxb
 have hnd : (order ++ [x]).Nodup := by
  rw [List.nodup_append]
  refine ⟨h.nd, by simp, ?_⟩
  intro a ha b hb
  simp at hb; subst hb
  exact fun e => hxo (e ▸ ha)
 have hlt : ∀ y ∈ order ++ [x], y < n := fun y hy => by
  rcases List.mem_append.1 hy with hy | hy
  · exact h.lt y hy
  · simp at hy; subst hy; exact hxn
 have hlen := nodup_len n _ hnd hlt
 have hst : st ∈ order := List.mem_of_getElem? h.head
 have hpar := h.parent
 have hpos : 0 < order.length := by
  rcases Nat.eq_zero_or_pos order.length with h0 | h0
  · have := h.head; rw [List.getElem?_eq_none (by omega)] at this; cases this
  · exact h0
 have hset : ∀ y ∈ order, (up.set x (v : Int))[y]? = up[y]? := fun y hy => by rw [List.getElem?_set, if_neg (fun (e : x = y) => hxo (by rw [e]; exact hy))]
 have hupx : (up.set x (v : Int))[x]? = some (v : Int) := by rw [List.getElem?_set, if_pos rfl, if_pos (by rw [h.ul]; exact hxn)]
 refine ⟨?_, hlen, ?_, hnd, hlt, by simp [h.ul], by rw [hset st hst]; exact h.ust, ?_, ?_, ?_, ?_, ?_, ?_⟩
 · have := h.rank; simp at this hlen ⊢; omega
 · rw [List.getElem?_append_left hpos]; exact h.head
 ·
  intro y hy hyo
  simp at hyo
  rw [List.getElem?_set, if_neg (fun e => hyo.2 e.symm)]
  exact h.unmet y hy hyo.1
 ·
  intro i w h0 hw
  rcases Nat.lt_or_ge i order.length with hi | hi
  ·
   rw [List.getElem?_append_left hi] at hw; obtain ⟨u, h1, h2, h3, j, h4, h5⟩ := h.from_ i w h0 hw; have ht : (order ++ [x]).take i = order.take i := by rw [List.take_append_of_le_length (by omega)]
   rw [ht]; exact ⟨u, by rw [hset w (List.mem_of_getElem? hw)]; exact h1, h2, h3, j, h4, h5⟩
  ·
   have hil := (List.getElem?_eq_some_iff.1 hw).1; simp at hil; have : i = order.length := by omega
   subst this; rw [List.getElem?_append_right (by omega)] at hw; simp at hw; subst hw; have ht : (order ++ [x]).take order.length = order := by simp
   rw [ht]; refine ⟨v, hupx, hv, hxb, ?_⟩; unfold fresh at hf; rw [List.find?_eq_some_iff_getElem] at hf; obtain ⟨_, j, hj, hjx, hbefore⟩ := hf; refine ⟨j, by rw [List.getElem?_eq_getElem hj, hjx], fun k hk y hy => ?_⟩; have hkl : k < (bs.getD v []).length := by omega
   rw [List.getElem?_eq_getElem hkl] at hy; cases hy; have := hbefore k hk; simpa using this
 ·
  intro y hy
  rcases List.mem_cons.1 hy with rfl | hy
  · simp
  · exact List.mem_append_left _ (h.opnO y hy)
 · refine ⟨hupx, UpChain.set _ (fun e => hxo (h.opnO x e)) h.chain⟩
 ·
  intro y hy hyo w hw
  simp only [List.mem_cons, not_or] at hyo
  rcases List.mem_append.1 hy with hy | hy
  · exact List.mem_append_left _ (h.done y hy (by simp only [List.mem_cons, not_or]; exact hyo.2) w hw)
  · simp at hy; exact absurd hy hyo.1
 ·
  intro i j a b ha hb hij hab
  have hjl := (List.getElem?_eq_some_iff.1 hb).1
  simp at hjl
  rw [List.getElem?_append_left (by omega)] at ha
  have hao := List.mem_of_getElem? ha
  rcases Nat.lt_or_ge j order.length with hj | hj
  ·
   rw [List.getElem?_append_left hj] at hb; exact (h.under i j a b ha hb hij hab).keep hxo hpar (List.mem_of_getElem? hb)
  ·
   rw [List.getElem?_append_right hj] at hb; have : j = order.length := by omega
   subst this; simp at hb; subst hb; by_cases hop : a ∈ v :: o
   · exact .step hupx ((h.chain.anc o v a hop).keep hxo hpar hv)
   · exact absurd (h.done a hao hop x hab) hxo
theorem DInv.pop {bs : List (List Nat)} {n st f v : Nat} {order o : List Nat} {up : List Int} (h : DInv bs n st (f + 1) order (v :: o) up) (hf : fresh bs order v = none) : DInv bs n st f order o up :=
 { h with
  rank := by have := h.rank; simp at this; omega
  opnO := fun x hx => h.opnO x (by simp [hx])
  chain := h.chain.tail
  done := by
   intro x hx hxo y hy; by_cases hxv : x = v
   ·
    subst hxv; unfold fresh at hf; rw [List.find?_eq_none] at hf; have := hf y hy; simpa using this
   · exact h.done x hx (by simp [hxv, hxo]) y hy }
theorem dfs_inv {bs : List (List Nat)} {n st : Nat} (hbl : ∀ u, u < n → ∀ x ∈ bs.getD u [], x < n) : ∀ (f : Nat) (order opn : List Nat) (up : List Int), DInv bs n st f order opn up → ∃ f', DInv bs n st f' (dfs bs f order opn up).1 [] (dfs bs f order opn up).2 := by
 intro f
 induction f with
 | zero =>
  intro order opn up h
  have := h.rank
  have h0 : opn = [] := List.length_eq_zero_iff.1 (by omega)
  subst h0
  exact ⟨0, h⟩
 | succ f ih =>
  intro order opn up h
  cases opn with
  | nil => exact ⟨_, h⟩
  | cons v o =>
   rw [dfs]; cases hf : fresh bs order v with
   | none => exact ih _ _ _ (h.pop hf)
   | some x => exact ih _ _ _ (h.push hbl hf)
theorem walkL_inv {bs : List (List Nat)} {n st : Nat} (hn : bs.length = n) (hbl : ∀ u, u < n → ∀ x ∈ bs.getD u [], x < n) (hst : st < n) : ∃ f', DInv bs n st f' (walkL bs st).1 [] (walkL bs st).2 := by
 unfold walkL
 refine dfs_inv hbl _ _ _ _ ?_
 rw [hn]
 refine ⟨by simp; omega, by simp; omega, rfl, by simp, by simp [hst], by simp, by simp [hst], ?_, ?_, by simp, trivial, ?_, ?_⟩
 · intro x hx _; simp [hx]
 · intro i v h0 hv; rw [List.getElem?_eq_none (by simp; omega)] at hv; cases hv
 · intro x hx hxo; simp at hx hxo; exact absurd hx hxo
 · intro i j a b ha hb hij; rw [List.getElem?_eq_none (l := [st]) (by simp; omega)] at hb; cases hb
end Go.Proofs.YtagjdkkfmfombaaGreat
namespace Go.Proofs.YtagjdkkfmfombaaGreat
theorem IsDist.back {bs : List (List Nat)} {n a b : Nat} {f g : List Int} (hs : symB bs) (hf : IsDist bs n a f) (hg : IsDist bs n b g) : ∀ (k : Nat) (v : Nat) (y : Int), f[v]? = some (k : Int) → g[v]? = some y → 0 ≤ y → ∃ z, g[a]? = some z ∧ 0 ≤ z ∧ z ≤ y + k := by
 intro k
 induction k with
 | zero => intro v y hv hy h0; obtain rfl := hf.zero v hv; exact ⟨y, hy, h0, by omega⟩
 | succ k ih =>
  intro v y hv hy h0
  obtain ⟨u, h1, h2⟩ := hf.up v _ hv (by omega)
  obtain ⟨z, h3, h4, h5⟩ := hg.near v y hy h0 u (hs u v h1)
  obtain ⟨t, h6, h7, h8⟩ := ih u z (by rw [h2]; congr 1; omega) h3 h4
  exact ⟨t, h6, h7, by omega⟩
theorem IsDist.symm {bs : List (List Nat)} {n a b : Nat} {f g : List Int} (hs : symB bs) (hf : IsDist bs n a f) (hg : IsDist bs n b g) (hb : b < n) (ha : a < n) : f[b]? = g[a]? := by
 obtain ⟨x, hx⟩ : ∃ x, f[b]? = some x := ⟨f[b]'(by rw [hf.len]; exact hb), by simp⟩
 obtain ⟨y, hy⟩ : ∃ y, g[a]? = some y := ⟨g[a]'(by rw [hg.len]; exact ha), by simp⟩
 rw [hx, hy]
 congr 1
 have a1 := hf.val b x hx
 have a2 := hg.val a y hy
 have b1 : 0 ≤ x → 0 ≤ y ∧ y ≤ x := fun h => by
  obtain ⟨k, rfl⟩ := Int.eq_ofNat_of_zero_le h
  obtain ⟨z, h1, h2, h3⟩ := hf.back hs hg k b 0 hx hg.st0 (by omega)
  rw [hy] at h1; cases h1; exact ⟨h2, by omega⟩
 have b2 : 0 ≤ y → 0 ≤ x ∧ x ≤ y := fun h => by
  obtain ⟨k, rfl⟩ := Int.eq_ofNat_of_zero_le h
  obtain ⟨z, h1, h2, h3⟩ := hg.back hs hf k a 0 hy hf.st0 (by omega)
  rw [hx] at h1; cases h1; exact ⟨h2, by omega⟩
 omega
theorem beside_getD {n : Nat} {es : List (Int × Int)} {u : Nat} (hu : u < n) : (besideL n es).getD u [] = adj es u := by simp [List.getD, besideL_get, hu]
theorem mem_adj {n : Int} {es : List (Int × Int)} (h : rightB n es = true) (u v : Nat) : v ∈ adj es u ↔ ∃ j, ∃ hj : j < es.length, (es[j] = ((u : Int), (v : Int)) ∨ es[j] = ((v : Int), (u : Int))) := by
 obtain ⟨h0, h1, h2, h3, _⟩ := (rightB_iff _ _).1 h
 unfold adj
 rw [List.mem_flatMap]
 constructor
 ·
  rintro ⟨e, he, hx⟩
  obtain ⟨k, hk, rfl⟩ := List.getElem_of_mem he
  have := h3 k hk
  refine ⟨k, hk, ?_⟩
  unfold adj1 at hx
  split at hx
  · simp at hx; left; ext <;> simp <;> omega
  ·
   split at hx
   · simp at hx; right; ext <;> simp <;> omega
   · simp at hx
 ·
  rintro ⟨k, hk, he⟩
  have := h3 k hk
  refine ⟨es[k], List.getElem_mem hk, ?_⟩
  unfold adj1
  rcases he with he | he
  · rw [he]; simp
  ·
   rw [he] at this ⊢; simp only at this; rw [if_neg (by simp; omega), if_pos rfl]; simp
end Go.Proofs.YtagjdkkfmfombaaGreat
namespace Go.Proofs.YtagjdkkfmfombaaGreat
abbrev reachL (n : Nat) (es : List (Int × Int)) (v : Nat) : List Nat := (walkL (besideL n es) v).1
section
variable {n : Nat} {es : List (Int × Int)}
theorem reach_dist (h : rightB n es = true) {v : Nat} (hv : v < n) (x : Nat) : x ∈ reachL n es v ↔ ∃ k : Nat, (awayL (besideL n es) v)[x]? = some (k : Int) := by
 obtain ⟨f', hi⟩ := walkL_inv (besideL_length n es) (beside_lt h) hv
 have hd := away_dist h hv
 constructor
 ·
  intro hx
  have key : ∀ (i x : Nat), (reachL n es v)[i]? = some x → ∃ k : Nat, (awayL (besideL n es) v)[x]? = some (k : Int) := by
   intro i; induction i using Nat.strongRecOn with
   | ind i ih =>
    intro x hx; rcases Nat.eq_zero_or_pos i with h0 | h0
    ·
     subst h0; have := hi.head; rw [this] at hx; cases hx; exact ⟨0, by simpa using hd.st0⟩
    ·
     obtain ⟨u, _, h2, h3, _⟩ := hi.from_ i x h0 hx; obtain ⟨j, hj, hju⟩ := List.mem_take_iff_getElem.1 h2; have hj' := Nat.lt_min.1 hj; obtain ⟨k, hk⟩ := ih j hj'.1 u (by rw [List.getElem?_eq_getElem hj'.2, hju]); obtain ⟨y, h4, h5, _⟩ := hd.near u k hk (by omega) x h3; exact ⟨y.toNat, by rw [h4]; congr 1; omega⟩
  obtain ⟨i, hi', rfl⟩ := List.getElem_of_mem hx
  exact key i _ (by simp)
 ·
  rintro ⟨k, hk⟩
  induction k generalizing x with
  | zero =>
   have := hd.zero x (by simpa using hk); subst this; exact List.mem_of_getElem? hi.head
  | succ k ih =>
   obtain ⟨u, h1, h2⟩ := hd.up x _ hk (by omega); have hu := ih u (by rw [h2]; congr 1; omega); exact hi.done u hu (by simp) x h1
theorem reach_lt (h : rightB n es = true) {v x : Nat} (hv : v < n) (hx : x ∈ reachL n es v) : x < n := by
 obtain ⟨f', hi⟩ := walkL_inv (besideL_length n es) (beside_lt h) hv
 exact hi.lt x hx
theorem reach_refl (h : rightB n es = true) {v : Nat} (hv : v < n) : v ∈ reachL n es v := by
 obtain ⟨f', hi⟩ := walkL_inv (besideL_length n es) (beside_lt h) hv
 exact List.mem_of_getElem? hi.head
theorem reach_symm (h : rightB n es = true) {a b : Nat} (ha : a < n) (hb : b < n) (hab : b ∈ reachL n es a) : a ∈ reachL n es b := by
 rw [reach_dist h ha] at hab
 rw [reach_dist h hb]
 have := (away_dist h ha).symm (adj_sym h) (away_dist h hb) hb ha
 rw [← this]; exact hab
theorem reach_trans (h : rightB n es = true) {a b v : Nat} (ha : a < n) (hb : b < n) (hab : b ∈ reachL n es a) (hbv : v ∈ reachL n es b) : v ∈ reachL n es a := by
 have hv := reach_lt h hb hbv
 have h1 := reach_symm h ha hb hab
 have h2 := reach_symm h hb hv hbv
 rw [reach_dist h hv] at h2
 rw [reach_dist h ha] at hab
 obtain ⟨k, hk⟩ := h2
 obtain ⟨y, hy⟩ := hab
 obtain ⟨z, h3, h4, _⟩ := (away_dist h hv).back (adj_sym h) (away_dist h ha) k b y hk hy (by omega)
 rw [reach_dist h ha]
 exact ⟨z.toNat, by rw [h3]; congr 1; omega⟩
def isHead (n : Nat) (es : List (Int × Int)) (v : Nat) : Bool := (List.range v).all fun u => !(reachL n es u).contains v
theorem isHead_iff {v : Nat} : isHead n es v = true ↔ ∀ u, u < v → v ∉ reachL n es u := by
 simp [isHead]
def headsL (n : Nat) (es : List (Int × Int)) : List Nat := (List.range n).filter (isHead n es)
theorem parts_fold (h : rightB n es = true) : ∀ k, k ≤ n →
  ((List.range k).foldl (parts1 (besideL n es)) ([], [])).2 = ((List.range k).filter (isHead n es)).map (fun v => sortN (reachL n es v)) ∧
  ∀ x, x ∈ ((List.range k).foldl (parts1 (besideL n es)) ([], [])).1 ↔ ∃ u, u < k ∧ x ∈ reachL n es u := by
 intro k
 induction k with
 | zero => intro _; simp
 | succ k ih =>
  intro hk
  obtain ⟨h1, h2⟩ := ih (by omega)
  rw [List.range_succ, List.foldl_append, List.filter_append, List.map_append]
  generalize (List.range k).foldl (parts1 (besideL n es)) ([], []) = s at h1 h2
  simp only [List.foldl_cons, List.foldl_nil, parts1]
  by_cases hc : k ∈ s.1
  ·
   obtain ⟨u, hu, hku⟩ := (h2 k).1 hc; have hno : isHead n es k = false := by
    rw [Bool.eq_false_iff, Ne, isHead_iff]; intro h3; exact h3 u hu hku
   rw [if_pos (by simpa using hc)]; refine ⟨by simp [hno, h1], fun x => ?_⟩; rw [h2]; constructor
   · rintro ⟨u', h3, h4⟩; exact ⟨u', by omega, h4⟩
   ·
    rintro ⟨u', h3, h4⟩; by_cases e : u' = k
    · subst e; exact ⟨u, hu, reach_trans h (by omega) (by omega) hku h4⟩
    · exact ⟨u', by omega, h4⟩
  ·
   have hyes : isHead n es k = true := by
    rw [isHead_iff]; intro u hu hku; exact hc ((h2 k).2 ⟨u, hu, hku⟩)
   rw [if_neg (by simpa using hc)]; refine ⟨by simp [hyes, h1], fun x => ?_⟩; rw [List.mem_append, h2]; constructor
   ·
    rintro (⟨u', h3, h4⟩ | h4)
    · exact ⟨u', by omega, h4⟩
    · exact ⟨k, by omega, h4⟩
   ·
    rintro ⟨u', h3, h4⟩; by_cases e : u' = k
    · subst e; exact .inr h4
    · exact .inl ⟨u', by omega, h4⟩
theorem partsL_eq (h : rightB n es = true) : partsL (besideL n es) = (headsL n es).map (fun v => sortN (reachL n es v)) := by
 unfold partsL headsL
 rw [besideL_length]
 exact (parts_fold h n (Nat.le_refl _)).1
end
end Go.Proofs.YtagjdkkfmfombaaGreat
namespace Go.Proofs.YtagjdkkfmfombaaGreat
theorem nodup_map_on {α β : Type} {l : List α} {f : α → β} (hn : l.Nodup) (hi : ∀ x ∈ l, ∀ y ∈ l, f x = f y → x = y) : (l.map f).Nodup :=
 List.pairwise_map.2 (List.Pairwise.imp_of_mem (fun hx hy hne e => hne (hi _ hx _ hy e)) hn)
structure TreeV (n : Nat) (es : List (Int × Int)) : Prop where
 right : rightB n es = true
 pos : 0 < n
 len : es.length + 1 = n
 all : ∀ x, x < n → x ∈ reachL n es 0
structure TreeI (n : Nat) (es : List (Int × Int)) (order : List Nat) (up : List Int) : Prop where
 nd : order.Nodup
 lt : ∀ v ∈ order, v < n
 all : ∀ v, v < n → v ∈ order
 len : order.length = n
 ul : up.length = n
 head : order[0]? = some 0
 root : up[0]? = some (-1)
 par : ∀ v, v < n → v ≠ 0 → ∃ u : Nat, up[v]? = some (u : Int) ∧ u < n ∧ order.idxOf u < order.idxOf v ∧ v ∈ adj es u
 edge : ∀ e ∈ es, ∃ a b : Nat, e = ((a : Int), (b : Int)) ∧ a < b ∧ b < n ∧ (up[a]? = some (b : Int) ∨ up[b]? = some (a : Int))
theorem idx_get {l : List Nat} (hn : l.Nodup) {i v : Nat} (h : l[i]? = some v) : l.idxOf v = i := by
 obtain ⟨hi, rfl⟩ := List.getElem?_eq_some_iff.1 h
 exact hn.idxOf_getElem i hi
theorem get_idx {l : List Nat} {v : Nat} (h : v ∈ l) : l[l.idxOf v]? = some v := by
 rw [List.getElem?_eq_getElem (List.idxOf_lt_length_iff.2 h), List.getElem_idxOf]
theorem TreeV.inv {n : Nat} {es : List (Int × Int)} (h : TreeV n es) : TreeI n es (walkL (besideL n es) 0).1 (walkL (besideL n es) 0).2 := by
 obtain ⟨f', hi⟩ := walkL_inv (besideL_length n es) (beside_lt h.right) h.pos
 obtain ⟨order, ho⟩ : ∃ o, o = (walkL (besideL n es) 0).1 := ⟨_, rfl⟩
 obtain ⟨up, hu⟩ : ∃ u, u = (walkL (besideL n es) 0).2 := ⟨_, rfl⟩
 have hall : ∀ v, v < n → v ∈ order := fun v hv => by rw [ho]; exact h.all v hv
 rw [← ho, ← hu] at hi ⊢
 have hlen : order.length = n := by
  have h1 := hi.len
  have h2 := List.Nodup.length_le_of_subset (l₁ := List.range n) (l₂ := order) List.nodup_range fun x hx => hall x (List.mem_range.1 hx)
  rw [List.length_range] at h2
  omega
 have hpar : ∀ v, v < n → v ≠ 0 → ∃ u : Nat, up[v]? = some (u : Int) ∧ u < n ∧ order.idxOf u < order.idxOf v ∧ v ∈ adj es u := fun v hv h0 => by
  have hg := get_idx (hall v hv)
  have hp : 0 < order.idxOf v := by
   rcases Nat.eq_zero_or_pos (order.idxOf v) with e | e
   · rw [e, hi.head] at hg; cases hg; exact absurd rfl h0
   · exact e
  obtain ⟨u, h1, h2, h3, _⟩ := hi.from_ _ v hp hg
  obtain ⟨j, hj, hju⟩ := List.mem_take_iff_getElem.1 h2
  have hj' := Nat.lt_min.1 hj
  have hun := hi.lt u (List.mem_of_mem_take h2)
  have : order.idxOf u = j := idx_get hi.nd (by rw [List.getElem?_eq_getElem hj'.2, hju])
  rw [beside_getD hun] at h3
  exact ⟨u, h1, hun, by omega, h3⟩
 refine ⟨hi.nd, hi.lt, hall, hlen, hi.ul, hi.head, hi.ust, hpar, ?_⟩
 have hok := (rightB_iff n es).1 h.right
 let pr : Nat → Nat := fun v => (up.getD v 0).toNat
 let eV : Nat → Int × Int := fun v => (min (pr v : Int) v, max (pr v : Int) v)
 have hpr : ∀ v, v < n → v ≠ 0 → up[v]? = some (pr v : Int) ∧ order.idxOf (pr v) < order.idxOf v ∧ v ∈ adj es (pr v) := fun v hv h0 => by
  obtain ⟨u, h1, h2, h3, h4⟩ := hpar v hv h0
  have : pr v = u := by show (up.getD v 0).toNat = u; simp [List.getD, h1]
  rw [this]; exact ⟨h1, h3, h4⟩
 have hmem : ∀ v, v < n → v ≠ 0 → eV v ∈ es := fun v hv h0 => by
  obtain ⟨_, _, h3⟩ := hpr v hv h0
  obtain ⟨j, hj, he⟩ := (mem_adj h.right _ _).1 h3
  have ho := hok.2.2.2.1 j hj
  have : eV v = es[j] := by
   show (min (pr v : Int) v, max (pr v : Int) v) = es[j]; rcases he with e | e
   · rw [e] at ho ⊢; simp only at ho; exact Prod.ext (by simp; omega) (by simp; omega)
   · rw [e] at ho ⊢; simp only at ho; exact Prod.ext (by simp; omega) (by simp; omega)
  rw [this]; exact List.getElem_mem hj
 have hinj : ∀ v v', v < n → v ≠ 0 → v' < n → v' ≠ 0 → eV v = eV v' → v = v' := fun v v' hv h0 hv' h0' e => by
  obtain ⟨_, h2, _⟩ := hpr v hv h0
  obtain ⟨_, h2', _⟩ := hpr v' hv' h0'
  have e1 := congrArg Prod.fst e
  have e2 := congrArg Prod.snd e
  simp only [eV] at e1 e2
  refine Classical.byContradiction fun hne => ?_
  have a1 : pr v = v' := by omega
  have a2 : pr v' = v := by omega
  rw [a1] at h2
  rw [a2] at h2'
  omega
 have hnd : (((List.range n).filter fun v => decide (v ≠ 0)).map eV).Nodup := by
  refine nodup_map_on (List.nodup_range.sublist List.filter_sublist) fun x hx y hy e => ?_
  rw [List.mem_filter, List.mem_range] at hx hy
  exact hinj x y hx.1 (by simpa using hx.2) hy.1 (by simpa using hy.2) e
 have hcnt : (((List.range n).filter fun v => decide (v ≠ 0)).map eV).length = es.length := by
  rw [List.length_map]
  have : (List.range n).filter (fun v => decide (v ≠ 0)) = (List.range n).erase 0 := by
   rw [List.nodup_range.erase_eq_filter]; congr 1; funext v; by_cases q : v = 0 <;> simp [q]
  rw [this, List.length_erase_of_mem (List.mem_range.2 h.pos), List.length_range]
  have := h.len; omega
 intro e he
 have hex : e ∈ ((List.range n).filter fun v => decide (v ≠ 0)).map eV := by
  refine Classical.byContradiction fun hno => ?_
  have hle := List.Nodup.length_le_of_subset (l₁ := ((List.range n).filter fun v => decide (v ≠ 0)).map eV) (l₂ := es.erase e) hnd fun x hx => by
   have hxe : x ≠ e := fun q => hno (q ▸ hx); obtain ⟨v, hv, rfl⟩ := List.mem_map.1 hx; rw [List.mem_filter, List.mem_range] at hv; exact (List.mem_erase_of_ne hxe).2 (hmem v hv.1 (by simpa using hv.2))
  rw [hcnt, List.length_erase_of_mem he] at hle
  have := List.length_pos_of_mem he
  omega
 obtain ⟨v, hv, rfl⟩ := List.mem_map.1 hex
 rw [List.mem_filter, List.mem_range] at hv
 have h0 : v ≠ 0 := by simpa using hv.2
 obtain ⟨h1, h2, h3⟩ := hpr v hv.1 h0
 have hun : pr v < n := by
  obtain ⟨j, hj, hee⟩ := (mem_adj h.right _ _).1 h3
  have ho := hok.2.2.2.1 j hj
  rcases hee with e | e <;> (rw [e] at ho; simp only at ho; omega)
 have hne : pr v ≠ v := fun q => by rw [q] at h2; omega
 rcases Nat.lt_or_ge (pr v) v with q | q
 · exact ⟨pr v, v, by simp only [eV]; exact Prod.ext (by simp; omega) (by simp; omega), q, hv.1, .inr h1⟩
 · exact ⟨v, pr v, by simp only [eV]; exact Prod.ext (by simp; omega) (by simp; omega), by omega, hun, .inl h1⟩
end Go.Proofs.YtagjdkkfmfombaaGreat
