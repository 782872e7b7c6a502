/- Facts that the claim rests on, part 6. -/
import Derived.Test.YtagcbnpahgfgmaaGreatKO04
namespace Go.Proofs.YtagcbnpahgfgmaaGreat
def insB (x : Pt) : List Pt → List Pt
 | [] => [x]
 | y :: r => if cmpLs y.2 x.2 ≤ 0 then y :: insB x r else x :: y :: r
def bareQ (s : Int → Int) (T : List Pt) : List Pt := (T.map (bareP s)).foldl (fun o x => insB x o) []
theorem insB_perm (x : Pt) (l : List Pt) : (insB x l).Perm (x :: l) := by
 induction l with
 | nil => exact .refl _
 | cons y r ih =>
  unfold insB
  split
  · exact (ih.cons y).trans (List.Perm.swap _ _ _)
  · exact .refl _
theorem insB_sorted (x : Pt) (l : List Pt) (h : l.Pairwise LeP) : (insB x l).Pairwise LeP := by
 induction l with
 | nil => simp [insB]
 | cons y r ih =>
  obtain ⟨h1, h2⟩ := List.pairwise_cons.1 h
  unfold insB
  split
  ·
   rename_i hle; refine List.pairwise_cons.2 ⟨fun z hz => ?_, ih h2⟩; rcases List.mem_cons.1 ((insB_perm x r).mem_iff.1 hz) with rfl | hz
   · exact hle
   · exact h1 z hz
  ·
   rename_i hle; have hxy : LeP x y := by
    unfold LeP; have := cmpLs_swap x.2 y.2; omega
   refine List.pairwise_cons.2 ⟨fun z hz => ?_, h⟩; rcases List.mem_cons.1 hz with rfl | hz
   · exact hxy
   · exact hxy.trans (h1 z hz)
theorem insB_fold (l : List Pt) : ∀ o : List Pt, o.Pairwise LeP → (l.foldl (fun o x => insB x o) o).Pairwise LeP ∧ (l.foldl (fun o x => insB x o) o).Perm (o ++ l) := by
 induction l with
 | nil => intro o h; exact ⟨h, by simp⟩
 | cons x l ih =>
  intro o h
  obtain ⟨h1, h2⟩ := ih _ (insB_sorted x o h)
  refine ⟨h1, h2.trans ?_⟩
  exact ((insB_perm x o).append_right l).trans (by simpa using List.perm_middle.symm)
theorem fold_one {A B : List Pt} (h : A.Perm B) (hk : ∀ x ∈ A, ∀ y ∈ A, x.2 = y.2 → x = y) : A.foldl (fun o x => insB x o) [] = B.foldl (fun o x => insB x o) [] := by
 obtain ⟨a1, a2⟩ := insB_fold A [] .nil
 obtain ⟨b1, b2⟩ := insB_fold B [] .nil
 simp only [List.nil_append] at a2 b2
 refine (a2.trans (h.trans b2.symm)).eq_of_pairwise (fun x y hx hy p q => hk x (a2.mem_iff.1 hx) y (h.symm.mem_iff.1 (b2.mem_iff.1 hy)) ?_) a1 b1
 have := cmpLs_swap x.2 y.2
 unfold LeP at p q
 exact cmpLs_zero.1 (by omega)
def Deg2 (l : List Lk) : Prop := ∀ e ∈ l, ∀ v, AtL e v → degN l v = 2
theorem mem_bareL {s : Int → Int} {p : List Lk} {k : Lk} : k ∈ bareL s p ↔ ∃ e ∈ p, swapL (s e.1, s e.2.1, min e.2.2 1) = k := by
 unfold bareL
 rw [(sortL_perm _).mem_iff, List.map_map, List.mem_map]
 rfl
theorem bare_at {s t : Int → Int} (ts : ∀ v, t (s v) = v) (e : Lk) (v : Int) : AtL (swapL (s e.1, s e.2.1, min e.2.2 1)) (s v) ↔ AtL e v := by
 rw [swapL_at]
 unfold AtL
 have h : ∀ x y, s x = s y ↔ x = y := fun x y => ⟨fun h => by rw [← ts x, h, ts], fun h => by rw [h]⟩
 simp only [h]
theorem bare_bond {s t : Int → Int} (ts : ∀ v, t (s v) = v) (st : ∀ v, s (t v) = v) (p : List Lk) : BondL (bareL s p) ↔ BondL p := by
 constructor
 ·
  rintro ⟨a, b, h⟩
  refine ⟨t a, t b, fun e he v => ?_⟩
  rw [← bare_at ts, h _ (mem_bareL.2 ⟨e, he, rfl⟩)]
  have h : ∀ a, s v = a ↔ v = t a := fun a => ⟨fun h => by rw [← h, ts], fun h => by rw [h, st]⟩
  rw [h, h]
 ·
  rintro ⟨a, b, h⟩
  refine ⟨s a, s b, fun k hk v => ?_⟩
  obtain ⟨e, he, rfl⟩ := mem_bareL.1 hk
  have h1 := bare_at ts e (t v)
  rw [st] at h1
  rw [h1, h e he]
  have h : ∀ a, t v = a ↔ v = s a := fun a => ⟨fun h => by rw [← h, st], fun h => by rw [h, ts]⟩
  rw [h, h]
theorem bare_deg {s t : Int → Int} (ts : ∀ v, t (s v) = v) (p : List Lk) (v : Int) : degN (bareL s p) (s v) = degN p v := by
 unfold degN bareL
 rw [((sortL_perm _).filter _).length_eq, List.map_map, List.filter_map, List.length_map]
 congr 1
 refine List.filter_congr fun e _ => ?_
 rw [Bool.eq_iff_iff]
 simp only [Function.comp, decide_eq_true_eq]
 rw [AtL.dec, AtL.dec]
 exact bare_at ts e v
theorem bare_cyc {s t : Int → Int} (ts : ∀ v, t (s v) = v) (st : ∀ v, s (t v) = v) (p : List Lk) : Deg2 (bareL s p) ↔ ∀ v ∈ vertsL p, degN p v = 2 := by
 constructor
 ·
  intro h v hv
  obtain ⟨e, he, hev⟩ := (mem_vertsL p v).1 hv
  rw [← bare_deg ts]
  exact h _ (mem_bareL.2 ⟨e, he, rfl⟩) (s v) ((bare_at ts e v).2 hev)
 ·
  intro h k hk v hv
  obtain ⟨e, he, rfl⟩ := mem_bareL.1 hk
  have h1 := bare_at ts e (t v)
  have h2 := bare_deg ts p (t v)
  rw [st] at h1 h2
  rw [h2]
  exact h _ (AtL.vert he (h1.1 hv))
theorem bare_kind {ls : List Lk} {s t : Int → Int} (ts : ∀ v, t (s v) = v) (st : ∀ v, s (t v) = v) (hG : Uq.Ok (grL ls)) {d d' : DT ls} (hp : DPart ls d.1 d.2) (hp' : DPart ls d'.1 d'.2) (hr : RightL d.1) (hr' : RightL d'.1)
  (hk : kindL d.1 = 1 ∨ kindL d.1 = 2 ∨ kindL d.1 = 3) (hk' : kindL d'.1 = 1 ∨ kindL d'.1 = 2 ∨ kindL d'.1 = 3) (he : bareL s d.1 = bareL s d'.1) : kindL d.1 = kindL d'.1 := by
 have b2 : kindL d.1 = 2 ↔ kindL d'.1 = 2 := by
  rw [hp.kind_bond hG hr, hp'.kind_bond hG hr', ← bare_bond ts st, he, bare_bond ts st]
 have cyc : ∀ {d : DT ls}, DPart ls d.1 d.2 → RightL d.1 → (kindL d.1 = 1 ↔ Deg2 (bareL s d.1)) := fun {d} hp hr => by
  rw [hp.kind_cyc hG hr, ← hp.cyc_iff hr, all_deg hr, bare_cyc ts st]
  simp only [List.all_eq_true, beq_iff_eq]
 have b1 : kindL d.1 = 1 ↔ kindL d'.1 = 1 := by
  rw [cyc hp hr, cyc hp' hr', he]
 omega
theorem bareQ_same {ls : List Lk} {s t : Int → Int} (hc : CallL ls s t) (h2 : twoL ls = true) (hv : ∀ k ∈ ls, k.2.2 = 0) (h3 : 3 ≤ ls.length) {T T' : List Pt} (hT : TreeTo kindL ls T) (hT' : TreeTo kindL (renLs s ls) T') : bareQ s T = bareQ id T' := by
 refine fold_one (trees_same hc h2 hv h3 hT hT') fun x hx y hy he => ?_
 have hG := ok_grL h2
 have hR := two_right h2
 obtain ⟨q1, _, _⟩ := hT.qd h2 hv h3
 have r1 := (hT.qi hR hv h3).right
 obtain ⟨D, hD, e1⟩ := q1.eq
 obtain ⟨q, hq, rfl⟩ := List.mem_map.1 hx
 obtain ⟨q', hq', rfl⟩ := List.mem_map.1 hy
 have inD : ∀ q ∈ T, ∃ d ∈ D, d.1 = q.2 := fun q hq => by
  have : q.2 ∈ D.map fun d => d.1 := by rw [e1]; exact List.mem_map_of_mem hq
  exact List.mem_map.1 this
 obtain ⟨d, hd, hde⟩ := inD q hq
 obtain ⟨d', hd', hde'⟩ := inD q' hq'
 have k1 := q1.kind q hq
 have k2 := q1.kind q' hq'
 have hr := r1 q hq
 have hr' := r1 q' hq'
 unfold bareP at he ⊢
 simp only at he
 rw [he]
 rw [← hde] at k1 hr he
 rw [← hde'] at k2 hr' he
 rw [k1.1, k2.1]
 have hk1 := k1.2; rw [k1.1] at hk1
 have hk2 := k2.2; rw [k2.1] at hk2
 rw [bare_kind hc.ts hc.st hG (hD.part d hd) (hD.part d' hd') hr hr' hk1 hk2 he]
end Go.Proofs.YtagcbnpahgfgmaaGreat
namespace Go.Proofs.YtagcbnpahgfgmaaGreat
open Go Go.RowKit Go.Sort
def lkCells (ls : List Lk) : List Value := ls.flatMap fun k => [.int .i64 k.1, .int .i64 k.2.1, .int .i64 k.2.2]
def lkV (k : Lk) : Value := .agg #[.int .i64 k.1, .int .i64 k.2.1, .int .i64 k.2.2]
def RdL (w : World) (a : Option Addr) (ls : List Lk) : Prop := CellsAt w a (lkCells ls)
theorem lkCells_length (ls : List Lk) : (lkCells ls).length = ls.length * 3 := by
 induction ls with
 | nil => rfl
 | cons e ls ih => simp only [lkCells, List.flatMap_cons, List.length_append, List.length_cons, List.length_nil] at ih ⊢; omega
theorem lkCells_append (a b : List Lk) : lkCells (a ++ b) = lkCells a ++ lkCells b := by simp [lkCells]
theorem lkCells_get (ls : List Lk) (i : Nat) (h : i < ls.length) :
  (lkCells ls)[i * 3]? = some (.int .i64 ls[i].1) ∧ (lkCells ls)[i * 3 + 1]? = some (.int .i64 ls[i].2.1) ∧ (lkCells ls)[i * 3 + 2]? = some (.int .i64 ls[i].2.2) := by
 induction ls generalizing i with
 | nil => simp at h
 | cons e ls ih =>
  cases i with
  | zero => simp [lkCells]
  | succ i =>
   have := ih i (by simpa using h); have e1 : (i + 1) * 3 = i * 3 + 1 + 1 + 1 := by omega
   simp only [lkCells, List.flatMap_cons, List.cons_append, List.nil_append, List.getElem_cons_succ] at this ⊢; rw [e1]; simpa using this
theorem RdL.at {w : World} {a : Option Addr} {ls : List Lk} (h : RdL w a ls) (i : Nat) (hi : i < ls.length) :
  ∃ b o, a = some ⟨b, o, none⟩ ∧ w.cell? ⟨b, o + i * 3, none⟩ = some (.int .i64 ls[i].1) ∧ w.cell? ⟨b, o + i * 3 + 1, none⟩ = some (.int .i64 ls[i].2.1) ∧ w.cell? ⟨b, o + i * 3 + 2, none⟩ = some (.int .i64 ls[i].2.2) := by
 obtain ⟨h1, h2, h3⟩ := lkCells_get ls i hi
 obtain ⟨b, o, ha, hc⟩ := h _ _ h1
 obtain ⟨b', o', ha', hc'⟩ := h _ _ h2
 obtain ⟨b'', o'', ha'', hc''⟩ := h _ _ h3
 rw [ha] at ha' ha''
 simp only [Option.some.injEq, Addr.mk.injEq, and_true] at ha' ha''
 obtain ⟨rfl, rfl⟩ := ha'
 obtain ⟨rfl, rfl⟩ := ha''
 exact ⟨b, o, ha, hc, by simpa [Nat.add_assoc] using hc', by simpa [Nat.add_assoc] using hc''⟩
theorem RdL.below {w w' : World} {a : Option Addr} {ls : List Lk} (h : RdL w a ls) (hb : Below w.heap.size w w') : RdL w' a ls := CellsAt.below h hb
theorem rdL_nil (w : World) (a : Option Addr) : RdL w a [] := by intro i u hu; simp [lkCells] at hu
theorem below_grow (w : World) (q : Nat) (os : Array Obj) : Below w.heap.size w (grow (w.drewN q) os) := by
 refine Below.trans (below_drewN (Below.refl _ _) q) ?_
 refine ⟨rfl, rfl, rfl, by simp [grow], fun k hk => ?_⟩
 exact heap_grow_old _ _ (by simpa using hk)
theorem compare_any (a b : Int) (w : World) :
  Calls Tryz.prog 79 #[.int .i64 a, .int .i64 b] w fun e w' => e = .returned (.int .i64 (cmpI a b)) ∧ w = w' := by
 go_enter Tryz.func79, Tryz.ntmps79
 go_wp2
 ·
  have h : a < b := by assumption
  go_ret
  exact ⟨by simp [cmpI, h], rfl⟩
 ·
  have h : b < a := by assumption
  go_ret
  exact ⟨by simp [cmpI, h, show ¬ a < b by omega], rfl⟩
 ·
  have h : a ≤ b := by assumption
  have h : b ≤ a := by assumption
  go_ret
  exact ⟨by simp [cmpI, show ¬ a < b by omega, show ¬ b < a by omega], rfl⟩
theorem lcompare_grow (x y : Lk) (w : World) :
  Calls Tryz.prog 49 #[lkV x, lkV y] w
   fun e w' => e = .returned (.int .i64 (cmpL x y)) ∧ ∃ q os, w' = grow (w.drewN q) os := by
 obtain ⟨a1, a2, a3⟩ := x
 obtain ⟨b1, b2, b3⟩ := y
 unfold lkV
 dsimp only
 have e1 : cmpL (a1, a2, a3) (b1, b2, b3) = orI (cmpI a1 b1) (orI (cmpI a2 b2) (cmpI a3 b3)) := rfl
 rw [e1]; clear e1
 have c1 := fun w => compare_any a1 b1 w
 have c2 := fun w => compare_any a2 b2 w
 have c3 := fun w => compare_any a3 b3 w
 generalize cmpI a1 b1 = u1 at c1 ⊢
 generalize cmpI a2 b2 = u2 at c2 ⊢
 generalize cmpI a3 b3 = u3 at c3 ⊢
 by_cases h1 : u1 = 0
 ·
  subst h1
  by_cases h2 : u2 = 0
  ·
   subst h2; go_enter Tryz.func49, Tryz.ntmps49; go_wp2_with fail; refine (c1 _).mono ?_; rintro e w' ⟨rfl, rfl⟩; go_wp2_with fail; refine (c2 _).mono ?_; rintro e w' ⟨rfl, rfl⟩; go_wp2_with fail; refine (c3 _).mono ?_; rintro e w' ⟨rfl, rfl⟩; go_wp2_with fail; go_ret; exact ⟨rfl, 0, _, by rw [alloc_eq_grow, alloc_eq_grow, grow_grow]; rfl⟩
  ·
   have g2 : (u2 != 0) = true := by simpa using h2
   go_enter Tryz.func49, Tryz.ntmps49; go_wp2_with fail; refine (c1 _).mono ?_; rintro e w' ⟨rfl, rfl⟩; go_wp2_with fail; refine (c2 _).mono ?_; rintro e w' ⟨rfl, rfl⟩; go_wp2_with fail; go_ret; exact ⟨by simp [orI, h2], 0, _, by rw [alloc_eq_grow, alloc_eq_grow, grow_grow]; rfl⟩
 ·
  have g1 : (u1 != 0) = true := by simpa using h1
  go_enter Tryz.func49, Tryz.ntmps49
  go_wp2_with fail
  refine (c1 _).mono ?_; rintro e w' ⟨rfl, rfl⟩
  go_wp2_with fail
  go_ret
  exact ⟨by simp [orI, h1], 0, _, by rw [alloc_eq_grow, alloc_eq_grow, grow_grow]; rfl⟩
theorem lcompare_any (a1 a2 a3 b1 b2 b3 : Int) (w : World) :
  Calls Tryz.prog 49 #[.agg #[.int .i64 a1, .int .i64 a2, .int .i64 a3], .agg #[.int .i64 b1, .int .i64 b2, .int .i64 b3]] w
   fun e w' => e = .returned (.int .i64 (cmpL (a1, a2, a3) (b1, b2, b3))) ∧ Below w.heap.size w w' :=
 (lcompare_grow (a1, a2, a3) (b1, b2, b3) w).mono fun _ _ ⟨he, q, os, hw⟩ => ⟨he, by rw [hw]; exact below_grow _ _ _⟩
set_option maxHeartbeats 1000000 in
theorem lright_walk (a : Option Addr) (cap : Nat) (ls : List Lk) (w : World) (hr : RdL w a ls) (hcap : ls.length ≤ 9223372036854775807) :
  Calls Tryz.prog 66 #[.slice a ls.length cap] w
   fun e w' => e = .returned (.bool (rightL ls)) ∧ Below w.heap.size w w' := by
 by_cases hg : ls.length ≤ 1000
 ·
  go_enter Tryz.func66, Tryz.ntmps66
  go_wp2_with fail
  go_loopg [10] ls.length (fun r i wr => ∃ k : Nat, k + r = ls.length ∧ i = .int .i64 k ∧ Below w.heap.size w wr ∧
   (∀ j (h : j < ls.length), j < k → OkL ls[j]) ∧ (∀ j (h : j + 1 < ls.length), j + 1 < k → LtL ls[j] ls[j+1]))
  case atStart => exact ⟨0, by omega, rfl, Below.refl _ _, fun j _ h => absurd h (by omega), fun j _ h => absurd h (by omega)⟩
  case round =>
   obtain ⟨k, hk, rfl, hB, hok, hris⟩ := hrel; by_cases hlt : k < ls.length
   ·
    obtain ⟨b, o, rfl, c0, c1, c2⟩ := (hr.below hB).at k hlt; obtain ⟨⟨x, y, z⟩, hx⟩ : ∃ x : Lk, ls[k] = x := ⟨_, rfl⟩
    rw [hx] at c0 c1 c2; simp only at c0 c1 c2; by_cases he : OkL (x, y, z)
    ·
     obtain ⟨e0, e1, e2, e3, e4⟩ := he; simp only at e0 e1 e2 e3 e4; have hend : ∀ j (h : j < ls.length), j < k + 1 → OkL ls[j] := by
      intro j h hj; by_cases hjk : j < k
      · exact hok j h hjk
      ·
       obtain rfl : j = k := by omega
       rw [hx]; exact ⟨e0, e1, e2, e3, e4⟩
     by_cases hk0 : k = 0
     ·
      subst hk0; simp only [Nat.zero_mul, Nat.add_zero] at c0 c1 c2; have Hx := Lib.hid hx; clear hx; have Hend := Lib.hid hend; have Hok := Lib.hid hok; have Hris := Lib.hid hris; clear hend hok hris; go_wp2_with fail; go_quiet (fail)
      go_wp2; go_roundg (gk - 1)
      case measure => omega
      case rel => exact ⟨0 + 1, by omega, rfl, below_drewN (hB.alloc (by have := hB.size; omega) _) _, Hend.out, fun j _ h => absurd h (by omega)⟩
     ·
      obtain ⟨m, rfl⟩ : ∃ m, k = m + 1 := ⟨k - 1, by omega⟩
      obtain ⟨b', o', hbo, p0, p1, p2⟩ := (hr.below hB).at m (by omega); simp only [Option.some.injEq, Addr.mk.injEq, and_true] at hbo; obtain ⟨rfl, rfl⟩ := hbo; obtain ⟨⟨p, q, s⟩, hp⟩ : ∃ x : Lk, ls[m]'(by omega) = x := ⟨_, rfl⟩
      rw [hp] at p0 p1 p2; simp only at p0 p1 p2; have hmr : m + 1 < ls.length := hlt; have Hx := Lib.hid hx; have Hp := Lib.hid hp; clear hx hp; have Hend := Lib.hid hend; have Hok := Lib.hid hok; have Hris := Lib.hid hris; clear hend hok hris; go_wp2_with fail; have i1 : IntKind.i64.wrap ((m : Int) + 1 - 1) = (m : Int) := by rw [show ((m : Int) + 1 - 1) = m by omega]; exact IntWalk.i64_in _ (by omega)
      have i2 : IntKind.i64.wrap (m : Int) = (m : Int) := IntWalk.i64_in _ (by omega); have i3 : (0 : Int) ≤ (m : Int) := by omega
      have i4 : (m : Int) < (ls.length : Int) := by omega
      have i5 : m < ls.length := by omega
      go_region_held3 (fun w' => w'.cell? ⟨b, o + m * 3, none⟩ = some (.int .i64 p) ∧ w'.cell? ⟨b, o + m * 3 + 1, none⟩ = some (.int .i64 q) ∧ w'.cell? ⟨b, o + m * 3 + 2, none⟩ = some (.int .i64 s) ∧
       w'.cell? ⟨wr.heap.size, 0, none⟩ = some (.int .i64 x) ∧ w'.cell? ⟨wr.heap.size, 1, none⟩ = some (.int .i64 y) ∧ w'.cell? ⟨wr.heap.size, 2, none⟩ = some (.int .i64 z)) (first | (refine ⟨?_, ?_, ?_, ?_, ?_, ?_⟩ <;> (refine keep_cell (by assumption) ?_; simp [*]; done)) | go_keep)
       (first | (go_at_call 49; refine (lcompare_any _ _ _ _ _ _ _).mono ?_; rintro e w' ⟨rfl, hbw⟩))
      go_wp2
      ·
       have hge : 0 ≤ cmpL (p, q, s) (x, y, z) := by assumption
       go_ret; refine ⟨?_, bl_trans ((hB.alloc (by have := hB.size; omega) _).drew) hbw⟩; rw [rightL_false]; rfl; intro h; have h1 := ((rightL_at _).1 ((rightL_iff _).2 h)).2.2 m hmr; rw [Hx.out, Hp.out, ← cmpL_neg] at h1; omega
      ·
       have hge : cmpL (p, q, s) (x, y, z) < 0 := by assumption
       go_roundg (gk - 1)
       case measure => omega
       case rel =>
        refine ⟨m + 1 + 1, by omega, by go_num, bl_trans ((hB.alloc (by have := hB.size; omega) _).drew) hbw, Hend.out, ?_⟩; intro j h hj; by_cases hjm : j + 1 < m + 1
        · exact Hris.out j h hjm
        ·
         obtain rfl : j = m := by omega
         rw [Hx.out, Hp.out, ← cmpL_neg]; exact hge
    ·
     have hno : rightL ls = false := rightL_false fun h => he (by rw [← hx]; exact h.2.1 _ (List.getElem_mem hlt)); have Hx := Lib.hid hx; clear hx; have Hno := Lib.hid hno; clear hno hok hris; unfold OkL at he; simp only at he; go_wp2_with fail; all_goals
      go_ret; exact ⟨by rw [Hno.out]; rfl, hB.alloc (by have := hB.size; omega) _⟩
   ·
    have hkl : k = ls.length := by omega
    have hyes : rightL ls = true := by
     rw [rightL_at]; exact ⟨hg, fun j h => hok j h (by omega), fun j h => hris j h (by omega)⟩
    have Hyes := Lib.hid hyes; clear hyes hok hris hkl; go_wp2_with fail; go_ret; exact ⟨by rw [Hyes.out]; rfl, hB⟩
 ·
  have hno : rightL ls = false := rightL_false fun h => hg h.1
  rw [hno]
  go_enter Tryz.func66, Tryz.ntmps66
  go_wp2_with fail
  all_goals
   go_ret; exact ⟨rfl, bl_refl _⟩
end Go.Proofs.YtagcbnpahgfgmaaGreat
namespace Go.Proofs
open Go.Shelf
def Tryz.lays189_ren : Go.Shelf.Ren := ⟨fun | 189 => 44 | 125 => 76 | 257 => 82 | 128 => 105 | 129 => 106 | 294 => 116 | 295 => 117 | 296 => 118 | 297 => 119 | 298 => 120 | 299 => 121 | 216 => 122 | 300 => 123 | 301 => 124 | 328 => 138 | 329 => 131 | 330 => 132 | 331 => 139 | 332 => 140 | 215 => 107 | 343 => 145 | n => n, fun | 28 => 33 | 3 => 3 | 46 => 90 | 0 => 0 | 51 => 117 | 53 => 119 | 4 => 4 | 183 => 111 | 182 => 110 | 131 => 52 | 5 => 5 | 9 => 9 | 218 => 138 | 222 => 142 | 228 => 149 | 229 => 150 | n => n, fun | n => n⟩
theorem Tryz.lays189 : Go.Proofs.Lays.n189 Tryz.prog Tryz.lays189_ren := {
 mixed := by kernel_rfl
 f125 := Tryz.func76.trans (congrArg some (by kernel_rfl))
 f128 := Tryz.func105.trans (congrArg some (by kernel_rfl))
 f129 := Tryz.func106.trans (congrArg some (by kernel_rfl))
 f189 := Tryz.func44.trans (congrArg some (by kernel_rfl))
 f215 := Tryz.func107.trans (congrArg some (by kernel_rfl))
 f216 := Tryz.func122.trans (congrArg some (by kernel_rfl))
 f257 := Tryz.func82.trans (congrArg some (by kernel_rfl))
 f294 := Tryz.func116.trans (congrArg some (by kernel_rfl))
 f295 := Tryz.func117.trans (congrArg some (by kernel_rfl))
 f296 := Tryz.func118.trans (congrArg some (by kernel_rfl))
 f297 := Tryz.func119.trans (congrArg some (by kernel_rfl))
 f298 := Tryz.func120.trans (congrArg some (by kernel_rfl))
 f299 := Tryz.func121.trans (congrArg some (by kernel_rfl))
 f300 := Tryz.func123.trans (congrArg some (by kernel_rfl))
 f301 := Tryz.func124.trans (congrArg some (by kernel_rfl))
 f328 := Tryz.func138.trans (congrArg some (by kernel_rfl))
 f329 := Tryz.func131.trans (congrArg some (by kernel_rfl))
 f330 := Tryz.func132.trans (congrArg some (by kernel_rfl))
 f331 := Tryz.func139.trans (congrArg some (by kernel_rfl))
 f332 := Tryz.func140.trans (congrArg some (by kernel_rfl))
 f343 := Tryz.func145.trans (congrArg some (by kernel_rfl))
 t0 := Tryz.underlying0
 a0 := Tryz.isAgg0
 z0 := Tryz.sizeOf0
 v0 := Tryz.zeroValue0
 t3 := Tryz.underlying3
 a3 := Tryz.isAgg3
 z3 := Tryz.sizeOf3
 v3 := Tryz.zeroValue3
 t4 := Tryz.underlying4
 a4 := Tryz.isAgg4
 z4 := Tryz.sizeOf4
 v4 := Tryz.zeroValue4
 t5 := Tryz.underlying5
 a5 := Tryz.isAgg5
 z5 := Tryz.sizeOf5
 v5 := Tryz.zeroValue5
 t9 := Tryz.underlying9
 a9 := Tryz.isAgg9
 z9 := Tryz.sizeOf9
 v9 := Tryz.zeroValue9
 t28 := Tryz.underlying33
 a28 := Tryz.isAgg33
 z28 := Tryz.sizeOf33
 v28 := Tryz.zeroValue33
 t46 := Tryz.underlying90
 a46 := Tryz.isAgg90
 z46 := Tryz.sizeOf90
 v46 := Tryz.zeroValue90
 t51 := Tryz.underlying117
 a51 := Tryz.isAgg117
 z51 := Tryz.sizeOf117
 v51 := Tryz.zeroValue117
 t53 := Tryz.underlying119
 a53 := Tryz.isAgg119
 z53 := Tryz.sizeOf119
 v53 := Tryz.zeroValue119
 t131 := Tryz.underlying52
 a131 := Tryz.isAgg52
 z131 := Tryz.sizeOf52
 v131 := Tryz.zeroValue52
 t182 := Tryz.underlying110
 a182 := Tryz.isAgg110
 z182 := Tryz.sizeOf110
 v182 := Tryz.zeroValue110
 t183 := Tryz.underlying111
 a183 := Tryz.isAgg111
 z183 := Tryz.sizeOf111
 v183 := Tryz.zeroValue111
 t218 := Tryz.underlying138
 a218 := Tryz.isAgg138
 z218 := Tryz.sizeOf138
 v218 := Tryz.zeroValue138
 t222 := Tryz.underlying142
 a222 := Tryz.isAgg142
 z222 := Tryz.sizeOf142
 v222 := Tryz.zeroValue142
 t228 := Tryz.underlying149
 a228 := Tryz.isAgg149
 z228 := Tryz.sizeOf149
 v228 := Tryz.zeroValue149
 t229 := Tryz.underlying150
 a229 := Tryz.isAgg150
 z229 := Tryz.sizeOf150
 v229 := Tryz.zeroValue150 }
open Go.Sort Go.RowKit in
theorem Tryz.slices_Sort_int (blk off cap : Nat) (zs : List Int) (w : World) (hH : Holds (Value.int .i64) w blk off zs.toArray) (hblk : blk < w.heap.size) (hsz : zs.length < 4611686018427387904) :
  Calls Tryz.prog 44 #[.slice (some ⟨blk, off, none⟩) zs.length cap] w fun e w' =>
   e = .returned (.tuple #[]) ∧ ∃ n os, w' = grow (putRow (Value.int .i64) (Sort.ahead w n) blk off (zs.mergeSort fun x y => decide (x ≤ y)).toArray) os := Any.slices_Sort_int Tryz.lays189 blk off cap zs w hH hblk hsz
def Tryz.laysNm220_ren : Go.Shelf.Ren := ⟨fun | 20 => 46 | n => n, fun | 22 => 33 | 3 => 3 | 4 => 4 | 0 => 0 | n => n, fun | n => n⟩
theorem Tryz.laysNm220 : Go.Proofs.Lays2.n20 Tryz.prog Tryz.laysNm220_ren := {
 mixed := by kernel_rfl
 f20 := Tryz.func46.trans (congrArg some (by kernel_rfl))
 t0 := Tryz.underlying0
 a0 := Tryz.isAgg0
 z0 := Tryz.sizeOf0
 v0 := Tryz.zeroValue0
 t3 := Tryz.underlying3
 a3 := Tryz.isAgg3
 z3 := Tryz.sizeOf3
 v3 := Tryz.zeroValue3
 t4 := Tryz.underlying4
 a4 := Tryz.isAgg4
 z4 := Tryz.sizeOf4
 v4 := Tryz.zeroValue4
 t22 := Tryz.underlying33
 a22 := Tryz.isAgg33
 z22 := Tryz.sizeOf33
 v22 := Tryz.zeroValue33
 i3 := by kernel_rfl }
open Go.RowKit Go.Lib Go.Sort in
theorem Tryz.slices_Compact_int (blk off cap : Nat) (zs : List Int) (w : World) (hH : Holds (Value.int .i64) w blk off zs.toArray) (hsz : zs.length ≤ 9223372036854775807) (hcap : zs.length ≤ cap) :
  Calls Tryz.prog 46 #[.slice (some ⟨blk, off, none⟩) zs.length cap] w fun e w' => e = .returned (.slice (some ⟨blk, off, none⟩) (Lib.compact zs).length cap) ∧ ∃ q, w' = putRow (Value.int .i64) (Sort.ahead w q) blk off (Lib.compact zs ++ List.replicate (zs.length - (Lib.compact zs).length) 0).toArray := Any.slices_Compact_int Tryz.laysNm220 blk off cap zs w hH hsz hcap
open Go.RowKit Go.Lib Go.Sort in
theorem Tryz.slices_Compact_int_empty (a : Option Addr) (cap : Nat) (w : World) :
  Calls Tryz.prog 46 #[.slice a 0 cap] w fun e w' => e = .returned (.slice a 0 cap) ∧ w' = w := Any.slices_Compact_int_empty Tryz.laysNm220 a cap w
def Tryz.laysNm225_ren : Go.Shelf.Ren := ⟨fun | 25 => 128 | 31 => 122 | 32 => 142 | 37 => 107 | n => n, fun | 22 => 33 | 3 => 3 | 4 => 4 | 40 => 90 | 0 => 0 | n => n, fun | n => n⟩
theorem Tryz.laysNm225 : Go.Proofs.Lays2.n25 Tryz.prog Tryz.laysNm225_ren := {
 mixed := by kernel_rfl
 f25 := Tryz.func128.trans (congrArg some (by kernel_rfl))
 f31 := Tryz.func122.trans (congrArg some (by kernel_rfl))
 f32 := Tryz.func142.trans (congrArg some (by kernel_rfl))
 f37 := Tryz.func107.trans (congrArg some (by kernel_rfl))
 t0 := Tryz.underlying0
 a0 := Tryz.isAgg0
 z0 := Tryz.sizeOf0
 v0 := Tryz.zeroValue0
 t3 := Tryz.underlying3
 a3 := Tryz.isAgg3
 z3 := Tryz.sizeOf3
 v3 := Tryz.zeroValue3
 t4 := Tryz.underlying4
 a4 := Tryz.isAgg4
 z4 := Tryz.sizeOf4
 v4 := Tryz.zeroValue4
 t22 := Tryz.underlying33
 a22 := Tryz.isAgg33
 z22 := Tryz.sizeOf33
 v22 := Tryz.zeroValue33
 t40 := Tryz.underlying90
 a40 := Tryz.isAgg90
 z40 := Tryz.sizeOf90
 v40 := Tryz.zeroValue90 }
open Go.RowKit Go.Lib in
theorem Tryz.slices_BinarySearch_int (b off n c : Nat) (zs : List Int) (x : Int) (w : World) (hz : n ≤ zs.length) (hbig : n < 4611686018427387904) (hc : ∀ j, j < zs.length → w.cell? ⟨b, off + j, none⟩ = some (.int .i64 (zs.getD j 0))) (hs : (zs.take n).Pairwise (· ≤ ·)) :
  Calls Tryz.prog 128 #[.slice (some ⟨b, off, none⟩) n c, .int .i64 x] w fun e w' => e = .returned (.tuple #[.int .i64 ((zs.take n).countP (· < x) : Nat), .bool ((zs.take n).contains x)]) ∧ ∃ q, w' = w.drewN q := Any.slices_BinarySearch_int Tryz.laysNm225 b off n c zs x w hz hbig hc hs
open Go.RowKit Go.Sort in
theorem Tryz.slices_Sort_int_none (p : Option Addr) (cap : Nat) (w : World) :
  Calls Tryz.prog 44 #[.slice p 0 cap] w fun e w' => e = .returned (.tuple #[]) ∧ w' = w := Any.slices_Sort_int_none Tryz.lays189 p cap w
def Tryz.laysSlE31_f69_ren : Go.Shelf.Ren := ⟨fun | 31 => 69 | 29 => 91 | n => n, fun | 22 => 78 | 23 => 4 | 4 => 4 | 3 => 3 | 0 => 0 | n => n, fun | n => n⟩
theorem Tryz.laysSlE31_f69 : Go.Proofs.SlLaysE.n31 Tryz.prog Tryz.laysSlE31_f69_ren := {
 mixed := by kernel_rfl
 f29 := ⟨Tryz.f91.name, by decide, Tryz.func91.trans (congrArg some (by kernel_rfl))⟩
 f31 := ⟨Tryz.f69.name, by decide, Tryz.func69.trans (congrArg some (by kernel_rfl))⟩
 t0 := Tryz.underlying0
 a0 := Tryz.isAgg0
 z0 := Tryz.sizeOf0
 v0 := Tryz.zeroValue0
 t3 := Tryz.underlying3
 a3 := Tryz.isAgg3
 z3 := Tryz.sizeOf3
 v3 := Tryz.zeroValue3
 t4 := Tryz.underlying4
 a4 := Tryz.isAgg4
 z4 := Tryz.sizeOf4
 v4 := Tryz.zeroValue4
 t22 := Tryz.underlying78
 a22 := Tryz.isAgg78
 z22 := Tryz.sizeOf78
 v22 := Tryz.zeroValue78
 a23 := Tryz.isAgg4
 z23 := Tryz.sizeOf4 }
open Go.Lib in
theorem Tryz.slices_Contains {α : Type} [Inhabited α] (enc : α → Value) (eq : α → α → Bool) (heq : EqlAt Tryz.prog 4 enc eq) (b off n c : Nat) (zs : List α) (x : α) (w : World) (hz : n ≤ zs.length) (hbig : n ≤ 9223372036854775807) (hc : ∀ j, j < zs.length → w.cell? ⟨b, off + j, none⟩ = some (enc zs[j]!)) :
  Calls Tryz.prog 69 #[.slice (some ⟨b, off, none⟩) n c, enc x] w fun e w' => e = .returned (.bool ((zs.take n).any fun y => eq x y)) ∧ w' = w := AnyE.slices_Contains Tryz.laysSlE31_f69 enc eq heq b off n c zs x w hz hbig hc
def Tryz.laySortL_ren : Go.Shelf.Ren := ⟨fun | 6 => 42 | 15 => 76 | 14 => 81 | 28 => 105 | 29 => 106 | 20 => 108 | 21 => 109 | 22 => 110 | 23 => 111 | 24 => 112 | 25 => 113 | 26 => 114 | 27 => 115 | 46 => 135 | 47 => 131 | 48 => 132 | 49 => 136 | 50 => 137 | 57 => 144 | n => n, fun | 22 => 22 | 24 => 38 | 25 => 67 | 3 => 3 | 39 => 90 | 0 => 0 | 53 => 117 | 55 => 119 | 4 => 4 | 46 => 111 | 45 => 110 | 50 => 52 | 5 => 5 | 9 => 9 | 66 => 138 | 70 => 142 | 76 => 149 | 77 => 150 | n => n, fun | n => n⟩
theorem Tryz.laySortL : Go.Proofs.SlLaysF0.n6 Tryz.prog Tryz.laySortL_ren := {
 mixed := by kernel_rfl
 f6 := ⟨Tryz.f42.name, by decide, Tryz.func42.trans (congrArg some (by kernel_rfl))⟩
 f14 := ⟨Tryz.f81.name, by decide, Tryz.func81.trans (congrArg some (by kernel_rfl))⟩
 f15 := Tryz.func76.trans (congrArg some (by kernel_rfl))
 f20 := ⟨Tryz.f108.name, by decide, Tryz.func108.trans (congrArg some (by kernel_rfl))⟩
 f21 := ⟨Tryz.f109.name, by decide, Tryz.func109.trans (congrArg some (by kernel_rfl))⟩
 f22 := ⟨Tryz.f110.name, by decide, Tryz.func110.trans (congrArg some (by kernel_rfl))⟩
 f23 := ⟨Tryz.f111.name, by decide, Tryz.func111.trans (congrArg some (by kernel_rfl))⟩
 f24 := ⟨Tryz.f112.name, by decide, Tryz.func112.trans (congrArg some (by kernel_rfl))⟩
 f25 := ⟨Tryz.f113.name, by decide, Tryz.func113.trans (congrArg some (by kernel_rfl))⟩
 f26 := ⟨Tryz.f114.name, by decide, Tryz.func114.trans (congrArg some (by kernel_rfl))⟩
 f27 := ⟨Tryz.f115.name, by decide, Tryz.func115.trans (congrArg some (by kernel_rfl))⟩
 f28 := Tryz.func105.trans (congrArg some (by kernel_rfl))
 f29 := Tryz.func106.trans (congrArg some (by kernel_rfl))
 f46 := ⟨Tryz.f135.name, by decide, Tryz.func135.trans (congrArg some (by kernel_rfl))⟩
 f47 := Tryz.func131.trans (congrArg some (by kernel_rfl))
 f48 := Tryz.func132.trans (congrArg some (by kernel_rfl))
 f49 := ⟨Tryz.f136.name, by decide, Tryz.func136.trans (congrArg some (by kernel_rfl))⟩
 f50 := ⟨Tryz.f137.name, by decide, Tryz.func137.trans (congrArg some (by kernel_rfl))⟩
 f57 := ⟨Tryz.f144.name, by decide, Tryz.func144.trans (congrArg some (by kernel_rfl))⟩
 t0 := Tryz.underlying0
 a0 := Tryz.isAgg0
 z0 := Tryz.sizeOf0
 v0 := Tryz.zeroValue0
 t3 := Tryz.underlying3
 a3 := Tryz.isAgg3
 z3 := Tryz.sizeOf3
 v3 := Tryz.zeroValue3
 t4 := Tryz.underlying4
 a4 := Tryz.isAgg4
 z4 := Tryz.sizeOf4
 v4 := Tryz.zeroValue4
 t5 := Tryz.underlying5
 a5 := Tryz.isAgg5
 z5 := Tryz.sizeOf5
 v5 := Tryz.zeroValue5
 t9 := Tryz.underlying9
 a9 := Tryz.isAgg9
 z9 := Tryz.sizeOf9
 v9 := Tryz.zeroValue9
 t22 := Tryz.underlying22
 a22 := Tryz.isAgg22
 z22 := Tryz.sizeOf22
 v22 := Tryz.zeroValue22
 t25 := Tryz.underlying67
 a25 := Tryz.isAgg67
 z25 := Tryz.sizeOf67
 v25 := Tryz.zeroValue67
 t39 := Tryz.underlying90
 a39 := Tryz.isAgg90
 z39 := Tryz.sizeOf90
 v39 := Tryz.zeroValue90
 t45 := Tryz.underlying110
 a45 := Tryz.isAgg110
 z45 := Tryz.sizeOf110
 v45 := Tryz.zeroValue110
 t46 := Tryz.underlying111
 a46 := Tryz.isAgg111
 z46 := Tryz.sizeOf111
 v46 := Tryz.zeroValue111
 t50 := Tryz.underlying52
 a50 := Tryz.isAgg52
 z50 := Tryz.sizeOf52
 v50 := Tryz.zeroValue52
 t53 := Tryz.underlying117
 a53 := Tryz.isAgg117
 z53 := Tryz.sizeOf117
 v53 := Tryz.zeroValue117
 t55 := Tryz.underlying119
 a55 := Tryz.isAgg119
 z55 := Tryz.sizeOf119
 v55 := Tryz.zeroValue119
 t66 := Tryz.underlying138
 a66 := Tryz.isAgg138
 z66 := Tryz.sizeOf138
 v66 := Tryz.zeroValue138
 t70 := Tryz.underlying142
 a70 := Tryz.isAgg142
 z70 := Tryz.sizeOf142
 v70 := Tryz.zeroValue142
 t76 := Tryz.underlying149
 a76 := Tryz.isAgg149
 z76 := Tryz.sizeOf149
 v76 := Tryz.zeroValue149
 t77 := Tryz.underlying150
 a77 := Tryz.isAgg150
 z77 := Tryz.sizeOf150
 v77 := Tryz.zeroValue150 }
def Tryz.laySortP_ren : Go.Shelf.Ren := ⟨fun | 6 => 37 | 15 => 76 | 14 => 75 | 28 => 105 | 29 => 106 | 20 => 97 | 21 => 98 | 22 => 99 | 23 => 100 | 24 => 101 | 25 => 102 | 26 => 103 | 27 => 104 | 46 => 130 | 47 => 131 | 48 => 132 | 49 => 133 | 50 => 134 | 57 => 143 | n => n, fun | 22 => 24 | 24 => 49 | 25 => 60 | 3 => 3 | 39 => 90 | 0 => 0 | 53 => 117 | 55 => 119 | 4 => 4 | 46 => 111 | 45 => 110 | 50 => 52 | 5 => 5 | 9 => 9 | 66 => 138 | 70 => 142 | 76 => 149 | 77 => 150 | n => n, fun | n => n⟩
theorem Tryz.laySortP : Go.Proofs.SlLaysF0.n6 Tryz.prog Tryz.laySortP_ren := {
 mixed := by kernel_rfl
 f6 := ⟨Tryz.f37.name, by decide, Tryz.func37.trans (congrArg some (by kernel_rfl))⟩
 f14 := ⟨Tryz.f75.name, by decide, Tryz.func75.trans (congrArg some (by kernel_rfl))⟩
 f15 := Tryz.func76.trans (congrArg some (by kernel_rfl))
 f20 := ⟨Tryz.f97.name, by decide, Tryz.func97.trans (congrArg some (by kernel_rfl))⟩
 f21 := ⟨Tryz.f98.name, by decide, Tryz.func98.trans (congrArg some (by kernel_rfl))⟩
 f22 := ⟨Tryz.f99.name, by decide, Tryz.func99.trans (congrArg some (by kernel_rfl))⟩
 f23 := ⟨Tryz.f100.name, by decide, Tryz.func100.trans (congrArg some (by kernel_rfl))⟩
 f24 := ⟨Tryz.f101.name, by decide, Tryz.func101.trans (congrArg some (by kernel_rfl))⟩
 f25 := ⟨Tryz.f102.name, by decide, Tryz.func102.trans (congrArg some (by kernel_rfl))⟩
 f26 := ⟨Tryz.f103.name, by decide, Tryz.func103.trans (congrArg some (by kernel_rfl))⟩
 f27 := ⟨Tryz.f104.name, by decide, Tryz.func104.trans (congrArg some (by kernel_rfl))⟩
 f28 := Tryz.func105.trans (congrArg some (by kernel_rfl))
 f29 := Tryz.func106.trans (congrArg some (by kernel_rfl))
 f46 := ⟨Tryz.f130.name, by decide, Tryz.func130.trans (congrArg some (by kernel_rfl))⟩
 f47 := Tryz.func131.trans (congrArg some (by kernel_rfl))
 f48 := Tryz.func132.trans (congrArg some (by kernel_rfl))
 f49 := ⟨Tryz.f133.name, by decide, Tryz.func133.trans (congrArg some (by kernel_rfl))⟩
 f50 := ⟨Tryz.f134.name, by decide, Tryz.func134.trans (congrArg some (by kernel_rfl))⟩
 f57 := ⟨Tryz.f143.name, by decide, Tryz.func143.trans (congrArg some (by kernel_rfl))⟩
 t0 := Tryz.underlying0
 a0 := Tryz.isAgg0
 z0 := Tryz.sizeOf0
 v0 := Tryz.zeroValue0
 t3 := Tryz.underlying3
 a3 := Tryz.isAgg3
 z3 := Tryz.sizeOf3
 v3 := Tryz.zeroValue3
 t4 := Tryz.underlying4
 a4 := Tryz.isAgg4
 z4 := Tryz.sizeOf4
 v4 := Tryz.zeroValue4
 t5 := Tryz.underlying5
 a5 := Tryz.isAgg5
 z5 := Tryz.sizeOf5
 v5 := Tryz.zeroValue5
 t9 := Tryz.underlying9
 a9 := Tryz.isAgg9
 z9 := Tryz.sizeOf9
 v9 := Tryz.zeroValue9
 t22 := Tryz.underlying24
 a22 := Tryz.isAgg24
 z22 := Tryz.sizeOf24
 v22 := Tryz.zeroValue24
 t25 := Tryz.underlying60
 a25 := Tryz.isAgg60
 z25 := Tryz.sizeOf60
 v25 := Tryz.zeroValue60
 t39 := Tryz.underlying90
 a39 := Tryz.isAgg90
 z39 := Tryz.sizeOf90
 v39 := Tryz.zeroValue90
 t45 := Tryz.underlying110
 a45 := Tryz.isAgg110
 z45 := Tryz.sizeOf110
 v45 := Tryz.zeroValue110
 t46 := Tryz.underlying111
 a46 := Tryz.isAgg111
 z46 := Tryz.sizeOf111
 v46 := Tryz.zeroValue111
 t50 := Tryz.underlying52
 a50 := Tryz.isAgg52
 z50 := Tryz.sizeOf52
 v50 := Tryz.zeroValue52
 t53 := Tryz.underlying117
 a53 := Tryz.isAgg117
 z53 := Tryz.sizeOf117
 v53 := Tryz.zeroValue117
 t55 := Tryz.underlying119
 a55 := Tryz.isAgg119
 z55 := Tryz.sizeOf119
 v55 := Tryz.zeroValue119
 t66 := Tryz.underlying138
 a66 := Tryz.isAgg138
 z66 := Tryz.sizeOf138
 v66 := Tryz.zeroValue138
 t70 := Tryz.underlying142
 a70 := Tryz.isAgg142
 z70 := Tryz.sizeOf142
 v70 := Tryz.zeroValue142
 t76 := Tryz.underlying149
 a76 := Tryz.isAgg149
 z76 := Tryz.sizeOf149
 v76 := Tryz.zeroValue149
 t77 := Tryz.underlying150
 a77 := Tryz.isAgg150
 z77 := Tryz.sizeOf150
 v77 := Tryz.zeroValue150 }
end Go.Proofs
namespace Go.Proofs.YtagcbnpahgfgmaaGreat
open Go Go.RowKit Go.Sort
theorem link_info : (Tryz.prog.info? 38).map (fun i => (i.zero, i.size, i.bytes)) = some (some (.agg #[.int .i64 0, .int .i64 0, .int .i64 0]), 3, 24) := by kernel_rfl
theorem lkCells_one (ls : List Lk) : ∀ u ∈ lkCells ls, u.oneCell' = true := by
 intro u hu
 unfold lkCells at hu
 obtain ⟨e, _, he⟩ := List.mem_flatMap.1 hu
 simp at he
 rcases he with rfl | rfl | rfl <;> rfl
theorem lkCells_set (ls : List Lk) (i : Nat) (h : i < ls.length) (a b : Int) : ((lkCells ls).set (i * 3) (.int .i64 a)).set (i * 3 + 1) (.int .i64 b) = lkCells (ls.set i (a, b, ls[i].2.2)) := by
 induction ls generalizing i with
 | nil => simp at h
 | cons e ls ih =>
  cases i with
  | zero => simp [lkCells]
  | succ i =>
   have := ih i (by simpa using h); have e1 : (i + 1) * 3 = i * 3 + 1 + 1 + 1 := by omega
   simp only [lkCells, List.flatMap_cons, List.cons_append, List.nil_append, List.getElem_cons_succ, List.set_cons_succ] at this ⊢; rw [e1]; simp only [List.set_cons_succ]; rw [this]
def OwnL (w : World) (v : Value) (ls : List Lk) : Prop := Own w v 38 3 ls.length (lkCells ls)
def RetLk (w : World) (ls : List Lk) (e : Ending) (w' : World) : Prop :=
 ∃ v, e = .returned v ∧ OwnL w' v ls ∧ (∀ g, v.ownBlock = some g → w.heap.size ≤ g) ∧ Below w.heap.size w w'
theorem OwnL.read {w : World} {v : Value} {ls : List Lk} (h : OwnL w v ls) : ∃ a c, v = .slice a ls.length c ∧ RdL w a ls ∧ (∀ g, a = some g → v.ownBlock = some g.block) ∧ c ≤ maxLen ∧ ls.length ≤ c := by
 rcases h.2 with ⟨rfl, h0⟩ | ⟨g, cap, rfl, hc, hr⟩
 ·
  obtain rfl := List.eq_nil_of_length_eq_zero h0
  exact ⟨none, 0, rfl, rdL_nil _ _, (fun g hg => by cases hg), by unfold maxLen; omega, by simp⟩
 · exact ⟨_, cap, rfl, hr.at_, fun g hg => by cases hg; rfl, hr.cap_le, hc⟩
theorem wpList_append_idle {w : World} {ops : Array Oper} {rest : List Oper} {o : Oper} {a : Act} {Q : Exit → Act → World → Prop} (hgd : o.guard = none) (sl x : Operand)
  (ho : o.op = .call { callee := .builtin .append, args := #[sl, x], argTypes := #[22, 22] }) (a0 ad : Option Addr) (n c0 c : Nat)
  (hs : a.eval sl = .slice a0 n c0) (hx : a.eval x = .slice ad 0 c) (hn : n ≤ c0) (h : wpList Tryz.prog ops Q rest (a.put o.dst (.slice a0 n c0)) w) : wpList Tryz.prog ops Q (o :: rest) a w := by
 refine wpList_plain hgd fun K hK => ?_
 have hrun : (Builtin.append_ #[22, 22] o.type #[.slice a0 n c0, .slice ad 0 c]).run Tryz.prog w = .ok (.slice a0 n c0) w := by
  obtain ⟨i, hi, _⟩ := info_parts link_info
  cases ad <;> cases a0 <;> simp [Builtin.append_, run_underlying Tryz.underlying22, sizeOf, typeInfo, hi, Builtin.lenOf, Builtin.firstCells, storeCells, loadCells, loadCellsFrom, hn]
 unfold Oper.wp
 simp [execOp, ho, resolve, invoke, builtin, hs, hx, hrun, Result.andThen]
 exact hK _ _ h
theorem clone_walk (a : Option Addr) (cap : Nat) (ls : List Lk) (w : World) (hr : RdL w a ls) (hle : ls.length ≤ 1000000) :
  Calls Tryz.prog 47 #[.slice a ls.length cap] w (RetLk w ls) := by
 have q22 : ∀ (w : World) (a : Option Addr) (n c n' c' : Nat), (binOp .eql 22 (.slice a n c) (.slice none n' c')).run Tryz.prog w = .ok (.bool a.isNone) w := fun w a n c n' c' => Lib.run_eql_slice_nil w _ _ a n c n' c' Tryz.underlying22
 have hrow : Row (w.alloc (.cells #[] 38)) w.heap.size 38 3 0 [] := by
  have := row_new w #[] 38 3 0 rfl (by unfold maxLen; omega)
  simpa using this
 by_cases h0 : ls.length = 0
 ·
  obtain rfl := List.eq_nil_of_length_eq_zero h0
  cases a with
  | none =>
   go_enter Tryz.func47, Tryz.ntmps47; go_wp2_with fail; go_ret; exact ⟨_, rfl, own_nil _ _ _, fun g hg => by simp [Value.ownBlock] at hg, bl_refl _⟩
  | some ad =>
   go_enter Tryz.func47, Tryz.ntmps47; go_wp2_with (at_builtin; refine wpList_append_idle rfl _ _ rfl (some ⟨w.heap.size, 0, none⟩) (some ad) 0 0 cap rfl rfl (Nat.le_refl _) ?_); go_ret; exact ⟨_, rfl, Row.own hrow rfl (Nat.le_refl _), fun g hg => by simp [Value.ownBlock] at hg; omega, bl_alloc _ _⟩
 ·
  obtain ⟨b, o, rfl, _⟩ := hr.at 0 (by omega)
  have hcells : ∀ j u, (lkCells ls)[j]? = some u → (w.alloc (.cells #[] 38)).cell? ((⟨b, o, none⟩ : Addr).add j) = some u := by
   intro j u hu; obtain ⟨b', o', e, hc⟩ := hr j u hu; simp at e; obtain ⟨rfl, rfl⟩ := e; have hc' := keep_cell (bl_alloc w (.cells #[] 38)) hc; unfold Addr.add; split <;> simp_all
  have hown : Own (w.alloc (.cells #[] 38)) (.slice (some ⟨w.heap.size, 0, none⟩) 0 0) 38 3 0 [] := Row.own hrow rfl (Nat.le_refl _)
  have HC := Lib.hid hcells; clear hcells hr
  go_enter Tryz.func47, Tryz.ntmps47
  go_wp2_with (at_builtin; refine wpList_append_row _ rfl (.tmp 5) (.tmp 6) 22 rfl 38 (.agg #[.int .i64 0, .int .i64 0, .int .i64 0]) 3 24 Tryz.underlying22 link_info rfl _ 0 [] rfl hown ⟨b, o, none⟩ ls.length cap (lkCells ls) rfl (lkCells_length ls) HC.out (lkCells_one ls) (by omega) (by unfold maxLen; omega) (by omega) ?_)
  intro g c w1 hr1 hc1 hgr1 hor1
  have hb1 : Below w.heap.size w w1 := (bl_alloc _ _).grown hgr1 (by simp) (fun k hk => by simp [Value.ownBlock] at hk; omega)
  have hor2 : w.heap.size ≤ g := by
   rcases hor1 with h | h
   · simp [Value.ownBlock] at h; omega
   · omega
  go_wp2_with fail
  go_ret
  refine ⟨_, rfl, ?_, fun k hk => by simp [Value.ownBlock] at hk; omega, hb1⟩
  have := hr1.own (n := ls.length) (lkCells_length ls) (by simpa using hc1)
  simpa [OwnL] using this
def lkEnc (k : Lk) : List Value := [.int .i64 k.1, .int .i64 k.2.1, .int .i64 k.2.2]
theorem flatK_lk (ls : List Lk) : (flatK lkEnc 3 ls.toArray).toList = lkCells ls := by
 apply List.ext_getElem?
 intro i
 by_cases hi : i < ls.length * 3
 ·
  have hk : i / 3 < ls.length := by omega
  have h1 : (flatK lkEnc 3 ls.toArray).toList[i]? = some ((lkEnc ls[i / 3])[i % 3]!) := by
   rw [Array.getElem?_toList, Array.getElem?_eq_getElem (by simpa using hi)]; simp [flatK, hk]
  rw [h1]
  obtain ⟨g1, g2, g3⟩ := lkCells_get ls (i / 3) hk
  have h3 : i % 3 = 0 ∨ i % 3 = 1 ∨ i % 3 = 2 := by omega
  rcases h3 with h | h | h
  · rw [show i / 3 * 3 = i by omega] at g1; rw [g1, h]; rfl
  · rw [show i / 3 * 3 + 1 = i by omega] at g2; rw [g2, h]; rfl
  · rw [show i / 3 * 3 + 2 = i by omega] at g3; rw [g3, h]; rfl
 · rw [List.getElem?_eq_none (by simp; omega), List.getElem?_eq_none (by rw [lkCells_length]; omega)]
theorem Row.holdsK {w : World} {g cap : Nat} {e : TypeId} {ls : List Lk} (h : Row w g e 3 cap (lkCells ls)) : HoldsK lkEnc 3 w g 0 ls.toArray := by
 intro j hj
 have hj' : j < (lkCells ls).length := by rw [lkCells_length]; simpa using hj
 refine ⟨?_, h.frozen _⟩
 rw [Nat.zero_add, h.cell j hj']
 have := flatK_lk ls
 congr 1
 have h2 : (flatK lkEnc 3 ls.toArray).toList[j]? = some ((lkCells ls)[j]) := by rw [this]; simp [hj']
 rw [Array.getElem?_toList] at h2
 simp [getElem!_def, h2]
theorem Row.sortedK {w : World} {g cap n : Nat} {e : TypeId} {os : Array Obj} {ls ts : List Lk} (h : Row w g e 3 cap (lkCells ls)) (hl : ts.length = ls.length) :
  Row (sortWorldK lkEnc 3 w g 0 n ts.toArray os) g e 3 cap (lkCells ts) ∧ w.grownBy (sortWorldK lkEnc 3 w g 0 n ts.toArray os) (some g) := by
 obtain ⟨cur, hg, hs, hle, hm, ht⟩ := h
 have hlt : g < w.heap.size := (Array.getElem?_eq_some_iff.1 hg).1
 have hcur : (sortWorldK lkEnc 3 w g 0 n ts.toArray os).heap[g]? = some (.cells (putCells id 0 (flatK lkEnc 3 ts.toArray) cur) e (0, 0)) := by
  unfold sortWorldK
  rw [heap_grow_old _ _ (by simpa [putRowK, putRow, mapBlock, Sort.ahead] using hlt)]
  simp [putRowK, putRow, mapBlock, Sort.ahead, Array.getElem?_modify, hg, onCells]
 have hlen : (lkCells ts).length = (lkCells ls).length := by rw [lkCells_length, lkCells_length, hl]
 refine ⟨⟨_, hcur, by simpa [putCells] using hs, by rw [hlen]; exact hle, hm, ?_⟩, ⟨rfl, rfl, rfl, by simp [sortWorldK, grow, putRowK, putRow, mapBlock, Sort.ahead], fun k hk hne => ?_⟩⟩
 ·
  apply List.ext_getElem?
  intro j
  by_cases hj : j < (lkCells ts).length
  ·
   rw [List.getElem?_take_of_lt hj, Array.getElem?_toList]; have hjc : j < cur.size := by rw [hlen] at hj; omega
   have hf : j < (flatK lkEnc 3 ts.toArray).size := by rw [lkCells_length] at hj; simpa using hj
   have h2 : (flatK lkEnc 3 ts.toArray)[j]? = (lkCells ts)[j]? := by rw [← Array.getElem?_toList, flatK_lk]
   rw [← h2]; have hf' : j < ts.length * 3 := by simpa using hf
   simp [putCells, hf', hjc]
  · rw [List.getElem?_take_eq_none (by omega), List.getElem?_eq_none (by omega)]
 ·
  unfold sortWorldK
  rw [heap_grow_old _ _ (by simpa [putRowK, putRow, mapBlock, Sort.ahead] using hk)]
  have : g ≠ k := fun e => hne (by rw [e])
  simp [putRowK, putRow, mapBlock, Sort.ahead, Array.getElem?_modify, this]
theorem drewN_grow' (w : World) (os : Array Obj) (q : Nat) : (grow w os).drewN q = grow (w.drewN q) os := by
 rfl
theorem closure_grow (x y : Lk) (w : World) :
  Calls Tryz.prog 48 #[lkV x, lkV y] w
   fun e w' => e = .returned (.int .i64 (cmpL x y)) ∧ ∃ q os, w' = grow (w.drewN q) os := by
 have hcon := fun w' => lcompare_grow x y w'
 unfold lkV at hcon ⊢
 generalize cmpL x y = r at hcon ⊢
 go_enter Tryz.func48, Tryz.ntmps48
 go_wp2_with fail
 refine (hcon _).mono ?_
 rintro e w' ⟨rfl, q, os, rfl⟩
 go_wp2_with fail
 go_ret
 exact ⟨rfl, q, _, by rw [alloc_eq_grow, alloc_eq_grow, grow_grow, drewN_grow', grow_grow]⟩
theorem ltOf_cmpL (x y : Lk) : ltOf cmpL x y = decide (LtL x y) := by unfold ltOf; simp [cmpL_neg]
theorem swo_cmpL : SWO (ltOf cmpL) where
 irrefl x := by rw [ltOf_cmpL]; simpa using LtL.irrefl x
 trans x y z h1 h2 := by rw [ltOf_cmpL] at *; simp only [decide_eq_true_eq] at *; exact h1.trans h2
 ntrans x y z h1 h2 := by
  rw [ltOf_cmpL] at *; simp only [decide_eq_false_iff_not] at *
  unfold LtL at *; omega
theorem sortF_walk (g cap : Nat) (ls : List Lk) (w : World) (h : Row w g 38 3 cap (lkCells ls)) (hsz : ls.length ≤ 1000000) :
  Calls Tryz.prog 42 #[.slice (some ⟨g, 0, none⟩) ls.length cap, .func (.func 48) #[] #[]] w
   fun e w' => e = .returned (.tuple #[]) ∧ Row w' g 38 3 cap (lkCells (ls.mergeSort fun x y => !decide (cmpL y x < 0))) ∧ w.grownBy w' (some g) := by
 have eg : ∀ args w, (callFunc 48 args).run Tryz.prog w = .ok (.enter 48 args) w := enters_of Tryz.func48 (by kernel_rfl) rfl
 have hcon := AnyQ.slices_SortFunc_total Tryz.laySortL 3 Tryz.isAgg38 Tryz.sizeOf38 lkEnc (fun _ => rfl) (fun x v hv => by simp [lkEnc] at hv; rcases hv with rfl | rfl | rfl <;> rfl) cmpL swo_cmpL 48 #[] g 0 cap ls.toArray w eg
  (fun _ _ _ _ x y => closure_grow x y _) h.holdsK h.lt (by simp; omega) (fun x y h1 h2 => by rw [ltOf_cmpL] at h1 h2; simp only [decide_eq_false_iff_not] at h1 h2; exact LtL.total x y h1 h2)
 change Calls Tryz.prog 42 _ _ _ at hcon
 simp only [List.size_toArray] at hcon
 refine hcon.mono ?_
 rintro e w' ⟨rfl, n, os, rfl⟩
 have := h.sortedK (n := n) (os := os) (ts := ls.mergeSort fun x y => !ltOf cmpL y x) (by simp)
 exact ⟨rfl, this⟩
theorem addr_add (b o j : Nat) : (⟨b, o, none⟩ : Addr).add j = ⟨b, o + j, none⟩ := by
 unfold Addr.add
 split <;> simp_all
theorem one3 (x y z : Int) : ∀ u ∈ [Value.int .i64 x, Value.int .i64 y, Value.int .i64 z], u.oneCell' = true := by
 intro u hu; simp only [List.mem_cons, List.not_mem_nil, or_false] at hu; rcases hu with rfl | rfl | rfl <;> rfl
theorem news3 (W : World) (t : TypeId) (x y z : Int) : ∀ (j : Nat) v, [Value.int .i64 x, Value.int .i64 y, Value.int .i64 z][j]? = some v → (W.alloc (.cells #[.int .i64 x, .int .i64 y, .int .i64 z] t)).cell? ((⟨W.heap.size, 0, none⟩ : Addr).add j) = some v := by
 intro j v hj
 match j with
 | 0 => simp at hj; subst hj; simp [Addr.add]
 | 1 => simp at hj; subst hj; simp [Addr.add]
 | 2 => simp at hj; subst hj; simp [Addr.add]
 | j + 3 => simp at hj
end Go.Proofs.YtagcbnpahgfgmaaGreat
namespace Go.Proofs.YtagcbnpahgfgmaaGreat
open Go Go.RowKit
theorem links_info : (Tryz.prog.info? 22).map (fun i => (i.zero, i.size, i.bytes)) = some (some (.slice none 0 0), 1, 24) := by kernel_rfl
theorem OwnL.lt {w : World} {v : Value} {ls : List Lk} (h : OwnL w v ls) {g : Nat} (hg : v.ownBlock = some g) : g < w.heap.size := Own.lt h hg
theorem OwnL.grown {w w' : World} {v : Value} {ls : List Lk} (h : OwnL w v ls) {k : Option Nat} (hg : w.grownBy w' k) (hne : ∀ g, v.ownBlock = some g → k ≠ some g) : OwnL w' v ls :=
 Own.below h fun g e => hg.block g (h.lt e) (fun e' => hne g e e'.symm)
theorem Own.grown {w w' : World} {v : Value} {e : TypeId} {s n : Nat} {vs : List Value} (h : Own w v e s n vs) {k : Option Nat} (hg : w.grownBy w' k) (hne : ∀ g, v.ownBlock = some g → k ≠ some g) : Own w' v e s n vs :=
 Own.below h fun g e' => hg.block g (h.lt e') (fun e'' => hne g e' e''.symm)
structure LRows (w : World) (B : Nat) (vo : Value) (vals : List Value) (gs : List (List Lk)) : Prop where
 len : vals.length = gs.length
 outer : Own w vo 22 1 vals.length vals
 lo : ∀ g, vo.ownBlock = some g → B ≤ g
 row : ∀ (i : Nat) (u : Value) (r : List Lk), vals[i]? = some u → gs[i]? = some r → OwnL w u r
 rlo : ∀ (i : Nat) (u : Value) (g : Nat), vals[i]? = some u → u.ownBlock = some g → B ≤ g ∧ vo.ownBlock ≠ some g
 apart : ∀ (i j g : Nat) (u v : Value), i ≠ j → vals[i]? = some u → vals[j]? = some v → u.ownBlock = some g → v.ownBlock ≠ some g
namespace LRows
variable {w w' : World} {B : Nat} {vo : Value} {vals : List Value} {gs : List (List Lk)}
theorem start (w : World) (B : Nat) : LRows w B (.slice none 0 0) [] [] :=
 ⟨rfl, own_nil _ _ _, fun g hg => by simp [Value.ownBlock] at hg, fun i u r hu => by simp at hu, fun i u g hu => by simp at hu, fun i j g u v _ hu => by simp at hu⟩
theorem rlt (h : LRows w B vo vals gs) {i : Nat} {u : Value} {g : Nat} (hu : vals[i]? = some u) (hg : u.ownBlock = some g) : g < w.heap.size := by
 have hi : i < gs.length := by rw [← h.len]; exact (List.getElem?_eq_some_iff.1 hu).1
 exact (h.row i u gs[i] hu (by simp)).lt hg
theorem grown (h : LRows w B vo vals gs) {k : Option Nat} (hg : w.grownBy w' k) (ho : ∀ g, vo.ownBlock = some g → k ≠ some g) (hr : ∀ (i : Nat) (u : Value) (g : Nat), vals[i]? = some u → u.ownBlock = some g → k ≠ some g) : LRows w' B vo vals gs :=
 { h with outer := h.outer.grown hg ho, row := fun i u r hu hgr => (h.row i u r hu hgr).grown hg (fun g e => hr i u g hu e) }
theorem ext (h : LRows w B vo vals gs) (hb : Below w.heap.size w w') : LRows w' B vo vals gs :=
 h.grown (k := none) ⟨hb.os, hb.tape, hb.output, hb.size, fun i hi _ => hb.block i hi⟩ (fun _ _ => by simp) (fun _ _ _ _ _ => by simp)
theorem push (h : LRows w B vo vals gs) {u : Value} {r : List Lk} (hu : OwnL w u r) (hul : ∀ g, u.ownBlock = some g → B ≤ g ∧ vo.ownBlock ≠ some g ∧ ∀ (i : Nat) (v : Value), vals[i]? = some v → v.ownBlock ≠ some g)
  {G cap : Nat} (hrow : Row w' G 22 1 cap (vals ++ [u])) (hc : vals.length + 1 ≤ cap) (hg : w.grownBy w' vo.ownBlock) (hor : vo.ownBlock = some G ∨ w.heap.size ≤ G) (hB : B ≤ w.heap.size) :
  LRows w' B (.slice (some ⟨G, 0, none⟩) (vals.length + 1) cap) (vals ++ [u]) (gs ++ [r]) := by
 have hnth : ∀ (i : Nat) (v : Value), (vals ++ [u])[i]? = some v → (i < vals.length ∧ vals[i]? = some v) ∨ (i = vals.length ∧ v = u) := by
  intro i v hv
  by_cases hi : i < vals.length
  · rw [List.getElem?_append_left hi] at hv; exact .inl ⟨hi, hv⟩
  ·
   have h1 := (List.getElem?_eq_some_iff.1 hv).1; simp at h1; obtain rfl : i = vals.length := by omega
   simp at hv; exact .inr ⟨rfl, hv.symm⟩
 have hGne : ∀ g, g < w.heap.size → vo.ownBlock ≠ some g → G ≠ g := fun g hg1 hne e => by
  rcases hor with h1 | h1
  · exact hne (by rw [h1, e])
  · omega
 refine ⟨by simp [h.len], ⟨by simp, .inr ⟨G, cap, by simp, by simpa using hc, hrow⟩⟩, fun g hg => ?_, fun i v r' hv hr' => ?_, fun i v g hv hgv => ?_, fun i j g x y hij hx hy hgx => ?_⟩
 ·
  cases hg
  rcases hor with h1 | h1
  · exact h.lo _ h1
  · exact Nat.le_trans hB h1
 ·
  rcases hnth i v hv with ⟨hi, hv'⟩ | ⟨rfl, rfl⟩
  ·
   rw [List.getElem?_append_left (by rw [← h.len]; exact hi)] at hr'; exact (h.row i v r' hv' hr').grown hg (fun g e => (h.rlo i v g hv' e).2)
  ·
   rw [h.len] at hr'; simp at hr'; subst hr'; exact hu.grown hg (fun g e => (hul g e).2.1)
 ·
  have hne : g ≠ G → (Value.slice (some ⟨G, 0, none⟩) (vals.length + 1) cap).ownBlock ≠ some g := fun hne e => by cases e; exact hne rfl
  rcases hnth i v hv with ⟨hi, hv'⟩ | ⟨rfl, rfl⟩
  ·
   obtain ⟨h1, h2⟩ := h.rlo i v g hv' hgv; exact ⟨h1, hne (hGne g (h.rlt hv' hgv) h2).symm⟩
  ·
   obtain ⟨h1, h2, _⟩ := hul g hgv; exact ⟨h1, hne (hGne g (hu.lt hgv) h2).symm⟩
 ·
  rcases hnth i x hx with ⟨hi, hx'⟩ | ⟨rfl, rfl⟩
  ·
   rcases hnth j y hy with ⟨hj, hy'⟩ | ⟨rfl, rfl⟩
   · exact h.apart i j g x y hij hx' hy' hgx
   ·
    intro e; exact (hul g e).2.2 i x hx' hgx
  ·
   rcases hnth j y hy with ⟨hj, hy'⟩ | ⟨rfl, rfl⟩
   · exact (hul g hgx).2.2 j y hy'
   · exact absurd rfl hij
theorem stored (h : LRows w B vo vals gs) {G n cap : Nat} (hvo : vo = .slice (some ⟨G, 0, none⟩) n cap) {i : Nat} {u : Value} {r r' : List Lk} (hu : vals[i]? = some u) (_hr : gs[i]? = some r)
  {g' c' : Nat} (hrow : Row w' g' 38 3 c' (lkCells r')) (hc : r'.length ≤ c') (hg : w.grownBy w' u.ownBlock) (hor : u.ownBlock = some g' ∨ w.heap.size ≤ g') (hB : B ≤ w.heap.size) :
  LRows (w'.setCell ⟨G, i, none⟩ (.slice (some ⟨g', 0, none⟩) r'.length c')) B vo (vals.set i (.slice (some ⟨g', 0, none⟩) r'.length c')) (gs.set i r') := by
 have hi : i < vals.length := (List.getElem?_eq_some_iff.1 hu).1
 have hvb : vo.ownBlock = some G := by rw [hvo]; rfl
 have hGlt : G < w.heap.size := by
  rcases h.outer.2 with ⟨e, _⟩ | ⟨G', cap', e, _, hr⟩
  · rw [e] at hvo; cases hvo
  · rw [e] at hvo; cases hvo; exact hr.lt
 have hug : u.ownBlock ≠ some G := fun e => (h.rlo i u G hu e).2 hvb
 have hgG : g' ≠ G := fun e => by
  rcases hor with h1 | h1
  · exact hug (by rw [h1, e])
  · omega
 have hother : ∀ (j : Nat) (v : Value) (g : Nat), j ≠ i → vals[j]? = some v → v.ownBlock = some g → g ≠ g' := by
  intro j v g hne hv hgv e
  subst e
  rcases hor with h1 | h1
  · exact h.apart j i g v u hne hv hu hgv h1
  · have := h.rlt hv hgv; omega
 refine ⟨by simpa using h.len, ?_, h.lo, ?_, ?_, ?_⟩
 ·
  have h1 := h.outer.grown hg (fun g e => by rw [hvb] at e; cases e; exact hug)
  rw [hvo] at h1 ⊢
  rcases h1.2 with ⟨e, _⟩ | ⟨G', cap', e, hcc, hr⟩
  · cases e
  ·
   cases e; refine ⟨by simp, .inr ⟨G, cap, by rw [List.length_set], by rw [List.length_set]; exact hcc, hr.set i _⟩⟩
 ·
  intro j v r1 hv hr1
  rw [List.getElem?_set] at hv hr1
  by_cases e : i = j
  ·
   subst e; rw [if_pos rfl, if_pos hi] at hv; rw [if_pos rfl, if_pos (by rw [← h.len]; exact hi)] at hr1; cases hv; cases hr1; exact (hrow.other (a := ⟨G, i, none⟩) hgG _).own (lkCells_length _) hc
  ·
   rw [if_neg e] at hv hr1; have h1 := (h.row j v r1 hv hr1).grown hg (fun g eg e' => h.apart i j g u v e hu hv e' eg); refine h1.grown (k := some G) ⟨rfl, rfl, rfl, by simp [World.setCell], fun k _ hne => Below.heap_setCell w' ⟨G, i, none⟩ _ k (fun e => hne (by rw [e]))⟩ (fun g eg e' => ?_); cases e'; exact (h.rlo j v G hv eg).2 hvb
 ·
  intro j v g hv hgv
  rw [List.getElem?_set] at hv
  by_cases e : i = j
  ·
   subst e; rw [if_pos rfl, if_pos hi] at hv; cases hv; cases hgv; refine ⟨?_, fun e' => ?_⟩
   ·
    rcases hor with h1 | h1
    · exact (h.rlo i u g' hu h1).1
    · exact Nat.le_trans hB h1
   · rw [hvb] at e'; cases e'; exact hgG rfl
  ·
   rw [if_neg e] at hv; exact h.rlo j v g hv hgv
 ·
  intro p q g x y hpq hx hy hgx
  rw [List.getElem?_set] at hx hy
  by_cases e1 : i = p
  ·
   subst e1; rw [if_pos rfl, if_pos hi] at hx; cases hx; cases hgx; rw [if_neg hpq] at hy; exact fun e => hother q y g' hpq.symm hy e rfl
  ·
   rw [if_neg e1] at hx; by_cases e2 : i = q
   ·
    subst e2; rw [if_pos rfl, if_pos hi] at hy; cases hy; intro e; cases e; exact hother p x g' hpq hx hgx rfl
   ·
    rw [if_neg e2] at hy; exact h.apart p q g x y hpq hx hy hgx
end LRows
def RetGs (w : World) (gs : List (List Lk)) (e : Ending) (w' : World) : Prop :=
 ∃ vo vals, e = .returned vo ∧ LRows w' w.heap.size vo vals gs ∧ Below w.heap.size w w'
def RdLs (w : World) (a : Option Addr) (gs : List (List Lk)) : Prop := ∀ (i : Nat) (r : List Lk), gs[i]? = some r →
 ∃ b o au cu, a = some ⟨b, o, none⟩ ∧ w.cell? ⟨b, o + i, none⟩ = some (.slice au r.length cu) ∧ RdL w au r ∧ r.length ≤ cu ∧ cu ≤ maxLen
theorem LRows.read {w : World} {B : Nat} {vo : Value} {vals : List Value} {gs : List (List Lk)} (h : LRows w B vo vals gs) : ∃ a c, vo = .slice a gs.length c ∧ RdLs w a gs ∧ gs.length ≤ c ∧ c ≤ maxLen := by
 rcases h.outer.2 with ⟨rfl, h0⟩ | ⟨G, cap, rfl, hc, hr⟩
 ·
  have : gs = [] := List.eq_nil_of_length_eq_zero (by rw [← h.len]; exact h0)
  subst this
  exact ⟨none, 0, rfl, fun i r hr => by simp at hr, by simp, by unfold maxLen; omega⟩
 ·
  refine ⟨some ⟨G, 0, none⟩, cap, by rw [h.len], fun i r hgr => ?_, by rw [← h.len]; exact hc, hr.cap_le⟩
  have hi : i < vals.length := by rw [h.len]; exact (List.getElem?_eq_some_iff.1 hgr).1
  obtain ⟨u, hu⟩ : ∃ u, vals[i]? = some u := ⟨vals[i], by simp⟩
  obtain ⟨au, cu, rfl, h3, _, h4, h5⟩ := (h.row i u r hu hgr).read
  exact ⟨G, 0, au, cu, rfl, by rw [Nat.zero_add, hr.cell? i hi, hu], h3, h5, h4⟩
end Go.Proofs.YtagcbnpahgfgmaaGreat
namespace Go.Proofs.YtagcbnpahgfgmaaGreat
open Go Go.RowKit
def RetQ (w : World) (b : Bool) (e : Ending) (w' : World) : Prop := e = .returned (.bool b) ∧ ∃ d, w' = w.drewN d
def RetT (w : World) (b : Bool) (e : Ending) (w' : World) : Prop := e = .returned (.bool b) ∧ Below w.heap.size w w'
theorem lk_eq (x y : Lk) (w : World) : (Op.equalIn 10000 38 (lkV x) (lkV y)).run Tryz.prog w = .ok (decide (x = y)) w := by
 have u3 := Tryz.underlying3
 have a3 := Tryz.isAgg3
 have z3 := Tryz.sizeOf3
 have hS : Tryz.prog.underlying 38 = some (.struct (Tryz.prog.fieldsOf 38)) := by kernel_rfl
 have hp : Tryz.prog.stoodInHeld 38 = false := by kernel_rfl
 unfold lkV
 obtain ⟨x1, x2, x3⟩ := x
 obtain ⟨y1, y2, y3⟩ := y
 rw [show (10000 : Nat) = 9999 + 1 from rfl, run_equalIn_agg w 9999 38 _ _ hS hp]
 simp only [Program.fieldsOf, Tryz.underlying38]
 go_simp
 by_cases h1 : x1 = y1 <;> by_cases h2 : x2 = y2 <;> by_cases h3 : x3 = y3 <;> simp [h1, h2, h3]
set_option maxHeartbeats 1000000 in
theorem same_walk (a b : Option Addr) (ca cb : Nat) (xs ys : List Lk) (w : World) (hx : RdL w a xs) (hy : RdL w b ys) (hxl : xs.length ≤ 9223372036854775807) (hyl : ys.length ≤ 9223372036854775807) :
  Calls Tryz.prog 11 #[.slice a xs.length ca, .slice b ys.length cb] w (RetQ w (decide (xs = ys))) := by
 have hgt : Tryz.prog.eqGuardType Tryz.prog.depth 38 = false := by kernel_rfl
 by_cases hl : xs.length = ys.length
 ·
  have l0 : ((xs.length : Int) != (ys.length : Int)) = false := by simp [hl]
  have Hl := Lib.hid hl; clear hl
  go_enter Tryz.func11, Tryz.ntmps11
  go_wp2_with fail
  go_loopg [13] xs.length (fun r i wr => ∃ k : Nat, i = .int .i64 k ∧ k + r = xs.length ∧ xs.take k = ys.take k ∧ ∃ d, wr = w.drewN d)
  case atStart => exact ⟨0, rfl, by omega, rfl, 0, rfl⟩
  case round =>
   obtain ⟨k, rfl, hkr, htk, d, hwr⟩ := hrel; by_cases h1 : k < xs.length
   ·
    have h2 : k < ys.length := by rw [← Hl.out]; exact h1
    have hx2 : RdL wr a xs := by rw [hwr]; exact hx.below (below_drewN (bl_refl _) d)
    have hy2 : RdL wr b ys := by rw [hwr]; exact hy.below (below_drewN (bl_refl _) d)
    obtain ⟨b1, o1, rfl, p0, p1, p2⟩ := hx2.at k h1; obtain ⟨b2, o2, rfl, q0, q1, q2⟩ := hy2.at k h2; have hstep : xs[k] = ys[k] → xs.take (k + 1) = ys.take (k + 1) := fun e => by rw [List.take_succ_eq_append_getElem h1, List.take_succ_eq_append_getElem h2, htk, e]
    have hdiff : xs[k] ≠ ys[k] → xs ≠ ys := fun e e2 => e (by subst e2; rfl); obtain ⟨⟨x1, x2, x3⟩, hxe⟩ : ∃ x : Lk, xs[k] = x := ⟨_, rfl⟩
    obtain ⟨⟨y1, y2, y3⟩, hye⟩ : ∃ x : Lk, ys[k] = x := ⟨_, rfl⟩
    rw [hxe] at p0 p1 p2 hstep hdiff; rw [hye] at q0 q1 q2 hstep hdiff; simp only at p0 p1 p2 q0 q1 q2; have hpe := fun w => lk_eq (x1, x2, x3) (y1, y2, y3) w; unfold lkV at hpe; simp only at hpe; have i1 : (k : Int) < (xs.length : Int) := by omega
    have i2 : (k : Int) < (ys.length : Int) := by omega
    have Hwr := Lib.hid hwr; have Hkr := Lib.hid hkr; clear hwr hkr htk hxe hye hx2 hy2; by_cases he : ((x1, x2, x3) : Lk) = (y1, y2, y3)
    ·
     have hs := hstep he; rw [show decide (((x1, x2, x3) : Lk) = (y1, y2, y3)) = true by simpa using he] at hpe; have Hs := Lib.hid hs; clear hs hstep hdiff he; go_wp2_with fail; go_quiet (fail)
     go_wp2_with fail; go_roundg (gk - 1)
     case measure => have := Hkr.out; omega
     case rel => exact ⟨k + 1, by go_num, by have := Hkr.out; omega, Hs.out, d + nq, by rw [Hwr.out, World.drewN_drewN]⟩
    ·
     have hs := hdiff he; have hs2 : decide (xs = ys) = false := by simpa using hs
     rw [show decide (((x1, x2, x3) : Lk) = (y1, y2, y3)) = false by simpa using he] at hpe; have Hs := Lib.hid hs2; clear hs hs2 hstep hdiff he; go_wp2_with fail; go_quiet (fail)
     go_wp2_with fail; go_ret; exact ⟨by rw [Hs.out] <;> rfl, d + nq, by rw [Hwr.out, World.drewN_drewN]⟩
   ·
    have hk : k = xs.length := by omega
    subst hk; have hs : decide (xs = ys) = true := by
     rw [decide_eq_true_eq]; rw [List.take_length, Hl.out, List.take_length] at htk; exact htk
    have Hs := Lib.hid hs; have Hwr := Lib.hid hwr; clear hs htk hwr hkr; go_wp2_with fail; go_ret; exact ⟨by rw [Hs.out] <;> rfl, d, Hwr.out⟩
 ·
  have l0 : ((xs.length : Int) != (ys.length : Int)) = true := by simp; omega
  have hs : decide (xs = ys) = false := by simp; intro e; exact hl (by rw [e])
  have Hs := Lib.hid hs; clear hs hl
  go_enter Tryz.func11, Tryz.ntmps11
  go_wp2_with fail
  go_ret
  exact ⟨by rw [Hs.out] <;> rfl, 0, rfl⟩
end Go.Proofs.YtagcbnpahgfgmaaGreat
namespace Go.Proofs.YtagcbnpahgfgmaaGreat
open Go Go.RowKit Go.Maps
def cF (l : List Int) : Int → Option Int := fun v => if v ∈ l then some ((l.count v : Nat) : Int) else none
theorem cF_get (l : List Int) (v : Int) : (cF l v).getD 0 = ((l.count v : Nat) : Int) := by
 unfold cF
 split
 · rfl
 · rename_i h; rw [List.count_eq_zero_of_not_mem h]; rfl
theorem cF_snoc (l : List Int) (x : Int) : updF (cF l) x (((l.count x : Nat) : Int) + 1) = cF (l ++ [x]) := by
 funext v
 unfold updF cF
 by_cases h : v = x
 · subst h; simp
 ·
  have : ¬ x = v := fun e => h e.symm
  simp [h, this]
theorem cF_nil : cF [] = fun _ => none := by funext v; simp [cF]
theorem endsL_snoc (ls : List Lk) (k : Lk) : endsL (ls ++ [k]) = endsL ls ++ [k.1] ++ [k.2.1] := by unfold endsL; rw [List.flatMap_append]; simp
theorem mem_verts_ends {ls : List Lk} {v : Int} : v ∈ vertsL ls ↔ v ∈ endsL ls := by
 rw [mem_vertsL]
 unfold endsL
 simp
theorem allTwo_iff (ls : List Lk) : allTwoL ls = true ↔ ∀ v x, cF (endsL ls) v = some x → x = 2 := by
 unfold allTwoL cntN cF
 rw [List.all_eq_true]
 constructor
 ·
  intro h v x hx
  split at hx
  ·
   rename_i hm; have := h v (mem_verts_ends.2 hm); simp at this hx; omega
  · cases hx
 ·
  intro h v hv
  have := h v _ (by rw [if_pos (mem_verts_ends.1 hv)])
  simp; omega
set_option maxRecDepth 100000 in
set_option maxHeartbeats 4000000 in
theorem allTwo_walk (a : Option Addr) (cap : Nat) (ls : List Lk) (w : World) (hr : RdL w a ls) (hR : RightL ls) :
  Calls Tryz.prog 58 #[.slice a ls.length cap] w (RetT w (allTwoL ls)) := by
 have hn := hR.1
 have HR := Lib.hid hR; clear hR
 have hall := allTwo_iff ls
 obtain ⟨t, ht⟩ : ∃ t, t = allTwoL ls := ⟨_, rfl⟩
 rw [← ht] at hall ⊢
 have Hall := Lib.hid hall
 clear hall ht
 go_enter Tryz.func58, Tryz.ntmps58
 have hmk := run_makeMapZ (ls.length : Int) w
 go_wp2_with fail
 clear hmk
 have hm0 : MZ (w.alloc (.map #[] 0)) w.heap.size 0 (cF []) := by rw [cF_nil]; exact MZ.made w
 have hbm := bl_alloc w (.map #[] 0)
 go_loopg [13] ls.length (fun r iv wj => ∃ (i c : Nat), i + r = ls.length ∧ iv = .int .i64 i ∧ c ≤ 2 * i ∧ MZ wj w.heap.size c (cF (endsL (ls.take i))) ∧ Below w.heap.size w wj)
 case atStart => exact ⟨0, 0, by omega, rfl, by omega, hm0, hbm⟩
 case round =>
  clear hm0 hbm
  obtain ⟨i, c, hi, rfl, hc, hm, hb⟩ := hrel
  have Hi := Lib.hid hi
  by_cases hil : i < ls.length
  ·
   clear hi; obtain ⟨b, o, rfl, c0, c1, c2⟩ := (hr.below hb).at i hil; have hok := HR.out.2.1 _ (List.getElem_mem hil); have htk : endsL (ls.take (i + 1)) = endsL (ls.take i) ++ [ls[i].1] ++ [ls[i].2.1] := by rw [List.take_succ_eq_append_getElem hil, endsL_snoc]
   have hel : (endsL (ls.take i)).length ≤ 2000 := by rw [endsL_length, List.length_take]; omega
   obtain ⟨E, hE⟩ : ∃ E, E = endsL (ls.take i) := ⟨_, rfl⟩
   rw [← hE] at hm htk hel; obtain ⟨⟨x, y, z⟩, hx⟩ : ∃ x : Lk, ls[i] = x := ⟨_, rfl⟩
   rw [hx] at c0 c1 c2 hok htk; unfold OkL at hok; simp only at c0 c1 c2 hok htk; obtain ⟨o1, o2, o3, _, _⟩ := hok; have Htk := Lib.hid htk; have wx : WfZ x := wfZ_of (by omega); have wy : WfZ y := wfZ_of (by omega); have hbl := hm.lt; have hba := bl_alloc wr (.cells #[.int .i64 x, .int .i64 y, .int .i64 z] 38); have hma := hm.alloc (.cells #[.int .i64 x, .int .i64 y, .int .i64 z] 38); have l1 := hma.look wx; rw [cF_get] at l1; have n1 : E.count x ≤ 2000 := Nat.le_trans List.count_le_length hel; have e1 : IntKind.i64.wrap (((E.count x : Nat) : Int) + 1) = ((E.count x : Nat) : Int) + 1 := IntWalk.i64_in _ (by omega); have Hx := Lib.hid hx; have HE := Lib.hid hE; have Hwx := Lib.hid wx; have Hwy := Lib.hid wy; have Hma := Lib.hid hma; have hbB := bl_trans hb hba; clear htk hx hE wx wy hm hma hba; have hx1 : (wr.alloc (.cells #[.int .i64 x, .int .i64 y, .int .i64 z] 38)).cell? ⟨wr.heap.size, 1, none⟩ = some (.int .i64 y) := by simp
   generalize hN1 : E.count x = N1 at l1 n1 e1; go_upto_region 6 with (at_mapUpdate; refine wpList_put_MZ rfl _ _ _ rfl Hma.out (k := x) (v := (N1 : Int) + 1) rfl rfl rfl Hwx.out (wfZ_of (by omega)) (by omega) ?_; intro w5 hm5 hg5)
   have hE1 : updF (cF E) x ((N1 : Int) + 1) = cF (E ++ [x]) := by rw [← hN1]; exact cF_snoc E x
   rw [hE1] at hm5; have hb5 := hbB.grown hg5 hbB.size (fun j hj => by cases hj; exact Nat.le_refl _); have hx5 := grown_cell hg5 hx1 (fun e => by have e2 : w.heap.size = wr.heap.size := Option.some.inj e; omega); have l2 := hm5.look Hwy.out; rw [cF_get] at l2; have n2 : (E ++ [x]).count y ≤ 2001 := Nat.le_trans List.count_le_length (by rw [List.length_append, List.length_singleton]; omega); have e2 : IntKind.i64.wrap ((((E ++ [x]).count y : Nat) : Int) + 1) = (((E ++ [x]).count y : Nat) : Int) + 1 := IntWalk.i64_in _ (by omega); have hE2 : updF (cF (E ++ [x])) y ((((E ++ [x]).count y : Nat) : Int) + 1) = cF (E ++ [x] ++ [y]) := cF_snoc _ _; rw [← Htk.out] at hE2; have Hm5 := Lib.hid hm5; clear hE1 l1 hx1 hm5 hg5 hN1; generalize (E ++ [x]).count y = N2 at l2 n2 e2 hE2; have HE2 := Lib.hid hE2; clear hE2; have hc2 : (if (cF E x).isSome = true then c else c + 1) ≤ 2 * i + 1 := by split <;> omega
   generalize (if (cF E x).isSome = true then c else c + 1) = c2 at Hm5 hc2; go_wp2_with (at_mapUpdate; refine wpList_put_MZ rfl _ _ _ rfl Hm5.out (k := y) (v := (N2 : Int) + 1) rfl rfl rfl Hwy.out (wfZ_of (by omega)) (by omega) ?_; intro w6 hm6 hg6); rw [HE2.out] at hm6; go_roundg (gk - 1)
   case measure => have := Hi.out; omega
   case rel => exact ⟨i + 1, _, by have := Hi.out; omega, by go_num, by split <;> omega, hm6, hb5.grown hg6 hb5.size (fun j hj => by cases hj; exact Nat.le_refl _)⟩
  ·
   have hin : i = ls.length := by omega
   subst hin; rw [List.take_length] at hm; clear hi Hi; obtain ⟨D, hown, hD1, hD2, hD3, hD4⟩ := hm; have HD3 := Lib.hid hD3; have HD4 := Lib.hid hD4; clear hD1 hD2 hD3 hD4; have hlt := hown.lt; go_upto_region 9 with (at_range; refine wpList_range_own _ rfl _ 35 rfl 3 3 mapLawZ Tryz.underlying35 _ w.heap.size c D rfl hown ?_; intro w5 hrg5 hg5 hs5)
   have hb5 := hb.grown hg5 (by omega) (fun j hj => by cases hj); have hw5 : w.heap.size + 1 ≤ w5.heap.size := by omega
   go_frame; go_loopg [] (Maps.size D) (fun r wj => ∃ left, wj.ranges Tryz.prog 3 (plainElem Tryz.prog 3) w.heap.size wr.heap.size c D left r ∧ (∀ v x, cF (endsL ls) v = some x → left (.int .i64 v) = false → x = 2) ∧ (∀ l, left l = true → Maps.has D l = true) ∧ Below w.heap.size w wj)
   case atStart => exact ⟨_, hrg5, fun v x hv hl => (by rw [HD3.out, hv] at hl; simp at hl), fun l hl => hl, hb5⟩
   case round =>
    obtain ⟨left, hrg, hch, hle, hbj⟩ := hrel; have hbw := bl_trans hbj (bl_refl _); have Hch := Lib.hid hch; have Hle := Lib.hid hle; clear hch hle; go_wp2_with (at_next; refine wpList_next_ranges_ii _ rfl _ rfl 3 3 .i64 .i64 mapLawZ Tryz.underlying3 Tryz.underlying3 _ _ _ _ _ _ rfl hrg ?_ ?_)
    ·
     intro hc0 hl0; have hfin : t = true := Hall.out.2 fun v x hv => Hch.out v x hv (hl0 _); subst hfin; clear hc0 hl0; go_wp2_with fail; go_ret; exact ⟨rfl, hbj⟩
    ·
     intro x cv w6 cnt6 hwx hwc hlx hat hrg6 hlt6 hg6 hs6 hen; have hFx : cF (endsL ls) x = some cv := by
      have h1 := HD3.out x; rw [Hle.out _ hlx] at h1; cases hF : cF (endsL ls) x with
      | none => rw [hF] at h1; cases h1
      | some y =>
       have h2 := HD4.out x y hF (.lit (.int .i64 0)); rw [hat] at h2; simp at h2; rw [h2]
     have hb6 := hbj.grown hg6 (by have := hbj.size; omega) (fun j hj => by cases hj; have := hb.size; omega); have HF := Lib.hid hFx; have Hhat := Lib.hid hat; clear hFx hat hlx hwx hwc; by_cases hc2 : cv = 2
     ·
      subst hc2; go_wp2_with fail; go_roundg cnt6
      case measure => omega
      case rel =>
       refine ⟨_, hrg6, fun v y hv hl => ?_, fun l hl => ?_, hb6⟩
       ·
        by_cases he : left (.int .i64 v) = true
        ·
         simp only [he, Bool.true_and, Bool.not_eq_false'] at hl; simp [Lit.sameKey] at hl; subst hl; have := HF.out; rw [hv] at this; exact Option.some.inj this
        · exact Hch.out v y hv (by simpa using he)
       ·
        simp only [Bool.and_eq_true] at hl; exact Hle.out l hl.1
     ·
      have hne : (cv != 2) = true := by simpa using hc2
      have hfin : t = false := by
       cases ht : t with
       | false => rfl
       | true => exact absurd (Hall.out.1 ht x cv HF.out) hc2
      subst hfin; clear hc2; go_wp2_with fail; go_ret; exact ⟨rfl, hb6⟩
end Go.Proofs.YtagcbnpahgfgmaaGreat
namespace Go.Proofs.YtagcbnpahgfgmaaGreat
open Go
section
variable {P : Program} {md : Region.Mode} {ops : Array Oper} {Q : Exit → Act → World → Prop} {S : World → Prop} {N : Nat}
def anyT (P : Program) (md : Region.Mode) (ops : Array Oper) (Q : Exit → Act → World → Prop) (S : World → Prop) (N : Nat) : Nat → Array Bool → Act → World → Prop
 | 0, listed, a, w => Region.ready md ops listed = [] ∧ Q .normal a w
 | fuel + 1, listed, a, w => (Region.ready md ops listed = [] → Q .normal a w) ∧
   ∀ i ∈ Region.ready md ops listed, wpOp P ops Q i (fun a' w' => (i < N → S w') ∧ anyT P md ops Q S N fuel (listed.setIfInBounds i true) a' w') a w
theorem any_of_anyT : ∀ (fuel : Nat) (listed : Array Bool) (a : Act) (w : World), anyT P md ops Q S N fuel listed a w → wpAny P md ops Q fuel listed a w
 | 0, _, _, _, h => h
 | fuel + 1, _, _, _, h => ⟨h.1, fun i hi => wpOp_mono (fun _ _ h' => any_of_anyT fuel _ _ _ h'.2) (h.2 i hi)⟩
def closedT (md : Region.Mode) (ops : Array Oper) (listed : Array Bool) : Prop :=
 ∀ (j : Nat) (o : Oper), ops[j]? = some o → listed.getD j false = true → ∀ e ∈ o.after, Region.binds md e = true → listed.getD e.on false = true
def waitsB (md : Region.Mode) (ops : Array Oper) (i : Nat) : Nat → Nat → Bool
 | 0, _ => false
 | f + 1, j => match ops[j]? with
  | some o => o.after.any fun e => Region.binds md e && (e.on == i || waitsB md ops i f e.on)
  | none => false
theorem waits_spec {listed : Array Bool} (hc : closedT md ops listed) {i : Nat} : ∀ (f j : Nat), waitsB md ops i f j = true →
  (∀ (o : Oper), ops[j]? = some o → ∀ e ∈ o.after, Region.binds md e = true → listed.getD e.on false = true) → listed.getD i false = true := by
 intro f
 induction f with
 | zero => intro j h; simp [waitsB] at h
 | succ f ih =>
  intro j h hall
  unfold waitsB at h
  split at h
  ·
   rename_i o ho; obtain ⟨e, he, h2⟩ := Array.any_eq_true'.1 h; simp only [Bool.and_eq_true, Bool.or_eq_true, beq_iff_eq] at h2; obtain ⟨hb, h3⟩ := h2; have hl := hall o ho e he hb; rcases h3 with h3 | h3
   · rw [← h3]; exact hl
   · exact ih e.on h3 fun o' ho' e' he' hb' => hc e.on o' ho' hl e' he' hb'
  · cases h
def tailB (md : Region.Mode) (ops : Array Oper) (N : Nat) : Bool :=
 (List.range ops.size).all fun j => decide (j < N) || (List.range N).all fun i => waitsB md ops i ops.size j
theorem tail_late {listed : Array Bool} (ht : tailB md ops N = true) (hc : closedT md ops listed) {j : Nat} (hj : j ∈ Region.ready md ops listed) (hN : N ≤ j) {i : Nat} (hi : i < N) :
  listed.getD i false = true := by
 obtain ⟨h0, o, ho, hall⟩ := mem_ready.1 hj
 have hjs : j < ops.size := (Array.getElem?_eq_some_iff.1 ho).1
 have h1 := List.all_eq_true.1 ht j (List.mem_range.2 hjs)
 simp only [Bool.or_eq_true, decide_eq_true_eq] at h1
 have h2 := List.all_eq_true.1 (h1.resolve_left (by omega)) i (List.mem_range.2 hi)
 refine waits_spec hc _ _ h2 fun o' ho' => ?_
 rw [ho] at ho'
 cases ho'
 exact hall
theorem closed_set {listed : Array Bool} (hc : closedT md ops listed) {j : Nat} (hj : j ∈ Region.ready md ops listed) : closedT md ops (listed.setIfInBounds j true) := by
 intro k o ho hk e he hb
 obtain ⟨h0, oj, hoj, hall⟩ := mem_ready.1 hj
 by_cases hjk : j = k
 ·
  subst hjk
  rw [hoj] at ho; cases ho
  exact getD_set_true (hall e he hb)
 ·
  rw [getD_set_ne false hjk] at hk
  exact getD_set_true (hc k o ho hk e he hb)
theorem getD_clash {listed : Array Bool} {i : Nat} (h1 : listed.getD i true = false) (h2 : listed.getD i false = true) : False := by
 rcases Nat.lt_or_ge i listed.size with h' | h'
 · simp [h'] at h1 h2; rw [h1] at h2; cases h2
 · simp [Array.getElem?_eq_none h'] at h2
theorem anyT_first {i : Nat} {oi : Oper} {v : Value} (hi : ops[i]? = some oi) (hsel : ∀ (j : Nat) (o : Oper) cs b, ops[j]? = some o → o.op ≠ .select cs b)
  (hQ : ∀ c a w, Q (.panic c) (a.put oi.dst v) w → Q (.panic c) a w) (hiN : i < N) (ht : tailB md ops N = true) :
  ∀ (fuel : Nat) (listed : Array Bool) (a : Act) (w : World), closedT md ops listed →
   (∀ j oj, ops[j]? = some oj → j ≠ i → listed.getD j true = false → (∀ e ∈ oj.after, Region.binds md e = true → e.on ≠ i) → oi.apart ops oj = true) →
   i ∈ Region.ready md ops listed → YieldsIf P ops S oi v a → S w →
   anyT P md ops Q S N fuel (listed.setIfInBounds i true) (a.put oi.dst v) w → anyT P md ops Q S N (fuel + 1) listed a w := by
 intro fuel
 induction fuel with
 | zero =>
  intro listed a w hc _ hr hy hS H
  refine ⟨fun h => (by rw [h] at hr; cases hr), fun j hj => ?_⟩
  by_cases hji : j = i
  · subst hji; exact hy.wpOp hi hS ⟨fun _ => hS, H⟩
  ·
   have := ready_mono hj hji; rw [H.1] at this; cases this
 | succ fuel ih =>
  intro listed a w hc hfree hr hy hS H
  refine ⟨fun h => (by rw [h] at hr; cases hr), fun j hj => ?_⟩
  by_cases hji : j = i
  · subst hji; exact hy.wpOp hi hS ⟨fun _ => hS, H⟩
  ·
   have h1 := H.2 j (ready_mono hj hji); obtain ⟨hjun, oj, hoj, hall⟩ := mem_ready.1 hj; have hnot : ∀ e ∈ oj.after, Region.binds md e = true → e.on ≠ i := fun e he hb heq =>
    getD_clash (mem_ready.1 hr).1 (heq ▸ hall e he hb)
   have hjN : j < N := by
    rcases Nat.lt_or_ge j N with h | h
    · exact h
    · exact (getD_clash (mem_ready.1 hr).1 (tail_late ht hc hj h hiN)).elim
   have h2 := wpOp_putIf hoj (hfree j oj hoj hji hjun hnot) (fun cs b => hsel i oi cs b hi) (fun cs b => hsel j oj cs b hoj) hQ hy h1; have hfree' : ∀ k ok, ops[k]? = some ok → k ≠ i → (listed.setIfInBounds j true).getD k true = false →
     (∀ e ∈ ok.after, Region.binds md e = true → e.on ≠ i) → oi.apart ops ok = true := fun k ok hk hki hun hno => by
    refine hfree k ok hk hki ?_ hno; by_cases hjk : j = k
    · subst hjk; exact hjun
    · rw [getD_set_ne true hjk] at hun; exact hun
   refine wpOp_mono (fun a' w' h3 => ⟨h3.2.1, ih (listed.setIfInBounds j true) a' w' (closed_set hc hj) hfree' (ready_mono hr (Ne.symm hji)) h3.1 (h3.2.1 hjN) ?_⟩) h2; rw [Array.setIfInBounds_comm _ _ hji]; exact h3.2.2
def closedB (md : Region.Mode) (ops : Array Oper) (listed : Array Bool) : Bool :=
 (List.range ops.size).all fun j => !listed.getD j false || ((ops[j]?).map fun o => o.after.all fun e => !Region.binds md e || listed.getD e.on false).getD true
theorem closed_spec {listed : Array Bool} (h : closedB md ops listed = true) : closedT md ops listed := by
 intro j o ho hj e he hb
 have hjs : j < ops.size := (Array.getElem?_eq_some_iff.1 ho).1
 have h1 := List.all_eq_true.1 h j (List.mem_range.2 hjs)
 simp only [hj, ho, Option.map_some, Option.getD_some, Bool.not_true, Bool.false_or] at h1
 have h2 := (Array.all_eq_true_iff_forall_mem.1 h1) e he
 simp only [hb, Bool.not_true, Bool.false_or] at h2
 exact h2
end
section
variable {P : Program} {md : Region.Mode} {l : List Oper} {Q : Exit → Act → World → Prop} {S : World → Prop} {N : Nat}
theorem takeT {i : Nat} {oi : Oper} {v : Value} {fuel : Nat} {listed : Array Bool} {a : Act} {w : World} (hi : l[i]? = some oi)
  (hB : (Region.noSelect l.toArray && Region.free md l.toArray listed i && (Region.ready md l.toArray listed).contains i && tailB md l.toArray N && closedB md l.toArray listed && decide (i < N)) = true)
  (hQ : ∀ c a w, Q (.panic c) (a.put oi.dst v) w → Q (.panic c) a w) (hy : YieldsIf P l.toArray S oi v a) (hS : S w)
  (h : anyT P md l.toArray Q S N fuel (listed.setIfInBounds i true) (a.put oi.dst v) w) : anyT P md l.toArray Q S N (fuel + 1) listed a w := by
 simp only [Bool.and_eq_true, decide_eq_true_eq] at hB
 obtain ⟨⟨⟨⟨⟨hs, hf⟩, hr⟩, ht⟩, hc⟩, hN⟩ := hB
 have hi' : l.toArray[i]? = some oi := by simpa using hi
 exact anyT_first hi' (Region.noSelect_spec hs) hQ hN ht fuel listed a w (closed_spec hc) (Region.free_spec hi' hf) (by simpa using hr) hy hS h
theorem oneT {i : Nat} {oi : Oper} {fuel : Nat} {listed : Array Bool} {a : Act} {w : World} (hi : l[i]? = some oi) (hr : (Region.ready md l.toArray listed == [i]) = true)
  (h : ∀ K : Act → World → Prop, (∀ a w, (i < N → S w) → anyT P md l.toArray Q S N fuel (listed.setIfInBounds i true) a w → K a w) →
   if Region.wanted oi (yielded l.toArray a.tmps) = true then Oper.wp P oi a w K Q else K (a.put oi.dst undef) w) : anyT P md l.toArray Q S N (fuel + 1) listed a w := by
 have hr' := beq_iff_eq.1 hr
 refine ⟨fun h0 => absurd (hr' ▸ h0) (by simp), fun j hj => ?_⟩
 rw [hr'] at hj
 obtain rfl : j = i := by simpa using hj
 exact wpOp_step (by simpa using hi) fun K hK => h K fun a w hS hW => hK a w ⟨hS, hW⟩
theorem doneT {listed : Array Bool} {a : Act} {w : World} (hr : (Region.ready md l.toArray listed == []) = true) (h : Q .normal a w) : ∀ fuel, anyT P md l.toArray Q S N fuel listed a w
 | 0 => ⟨beq_iff_eq.1 hr, h⟩
 | _ + 1 => ⟨fun _ => h, by rw [beq_iff_eq.1 hr]; simp⟩
theorem restart_any {S' : World → Prop} {N' : Nat} : ∀ (fuel : Nat) (listed : Array Bool) (a : Act) (w : World), (∀ i, i < N → listed.getD i false = true) → anyT P md l.toArray Q S' N' fuel listed a w → anyT P md l.toArray Q S N fuel listed a w
 | 0, _, _, _, _, h => h
 | fuel + 1, listed, a, w, hall, h => ⟨h.1, fun i hi => wpOp_mono (fun a' w' h' => ⟨fun hlt => (getD_clash (mem_ready.1 hi).1 (hall i hlt)).elim,
   restart_any fuel _ _ _ (fun j hj => getD_set_true (hall j hj)) h'.2⟩) (h.2 i hi)⟩
theorem restartT {fuel : Nat} {listed : Array Bool} {a : Act} {w : World} (S' : World → Prop) (N' : Nat) (hB : ((List.range N).all fun i => listed.getD i false) = true)
  (h : anyT P md l.toArray Q S' N' fuel listed a w) : anyT P md l.toArray Q S N fuel listed a w :=
 restart_any fuel listed a w (fun i hi => List.all_eq_true.1 hB i (List.mem_range.2 hi)) h
theorem regionT {id : Nat} {a : Act} {w : World} (S : World → Prop) (N : Nat) (hm : P.follows .mixedOrders = true)
  (h : anyT P .any l.toArray Q S N l.length (Array.replicate l.length false) a w.drew) : (Code.region id l.toArray true).wp P Q a w :=
 wp_region_any hm (any_of_anyT _ _ _ _ (by simpa using h))
end
theorem zA {α : Type} {l : List α} {i : Nat} {a : α} : l.toArray.setIfInBounds i a = (l.set i a).toArray := List.setIfInBounds_toArray ..
theorem z0 {α : Type} {x : α} {xs : List α} {b : α} : (x :: xs).set 0 b = b :: xs := rfl
theorem z1 {α : Type} {x : α} {xs : List α} {b : α} {n : Nat} : (x :: xs).set (n + 1) b = x :: xs.set n b := rfl
theorem tkT {P : Program} {md : Region.Mode} {l : List Oper} {Q : Exit → Act → World → Prop} {S : World → Prop} {N : Nat} {oi : Oper} {fuel : Nat} {listed : Array Bool} {a : Act} {w : World} (i : Nat) (v : Value) (hi : l[i]? = some oi) (hS : S w)
 (h2 : ∀ w, S w → (execOp a.eval oi).run P w = .ok (.value v) w)
 (h : anyT P md l.toArray Q S N fuel (listed.setIfInBounds i true) (a.put oi.dst v) w)
 (hB : (Region.noSelect l.toArray && Region.free md l.toArray listed i && (Region.ready md l.toArray listed).contains i && tailB md l.toArray N && closedB md l.toArray listed && decide (i < N)) = true)
 (hQ : ∀ c a w, Q (.panic c) (a.put oi.dst v) w → Q (.panic c) a w) (h1 : Region.wanted oi (yielded l.toArray a.tmps) = true) : anyT P md l.toArray Q S N (fuel + 1) listed a w := takeT hi hB hQ (Or.inl ⟨h1, h2⟩) hS h
theorem tkU {P : Program} {md : Region.Mode} {l : List Oper} {Q : Exit → Act → World → Prop} {S : World → Prop} {N : Nat} {oi : Oper} {fuel : Nat} {listed : Array Bool} {a : Act} {w : World} (i : Nat) (hi : l[i]? = some oi) (hS : S w)
 (h1 : Region.wanted oi (yielded l.toArray a.tmps) = false)
 (h : anyT P md l.toArray Q S N fuel (listed.setIfInBounds i true) (a.put oi.dst undef) w)
 (hB : (Region.noSelect l.toArray && Region.free md l.toArray listed i && (Region.ready md l.toArray listed).contains i && tailB md l.toArray N && closedB md l.toArray listed && decide (i < N)) = true)
 (hQ : ∀ c a w, Q (.panic c) (a.put oi.dst undef) w → Q (.panic c) a w) : anyT P md l.toArray Q S N (fuel + 1) listed a w := takeT hi hB hQ (Or.inr ⟨h1, rfl⟩) hS h
end Go.Proofs.YtagcbnpahgfgmaaGreat
