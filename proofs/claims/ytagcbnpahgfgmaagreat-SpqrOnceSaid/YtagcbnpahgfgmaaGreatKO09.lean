/- Facts that the claim rests on, part 10. -/
import Derived.Test.YtagcbnpahgfgmaaGreatKO08
namespace Go.Proofs.YtagcbnpahgfgmaaGreat
def mayO (Q : List Pt) (p : Oc) : Bool := kdQ Q p.1 != 3 && p.2.2.2 != 0
def colO (Q : List Pt) (l : List Oc) : List Oc := l.filter (mayO Q)
def lastO (Q : List Pt) (l : List Oc) (v : Int) : Option Oc := (atV v (colO Q l)).getLast?
def clearP (Q : List Pt) (l : List Oc) : Prop := ∀ l1 p l2, colO Q l = l1 ++ p :: l2 → ∀ q, (atV p.2.2.2 l1).getLast? = some q → kdQ Q q.1 ≠ kdQ Q p.1
theorem colO_snoc (Q : List Pt) (l : List Oc) (p : Oc) : colO Q (l ++ [p]) = colO Q l ++ if mayO Q p then [p] else [] := by
 unfold colO
 rw [List.filter_append]
 congr 1
 by_cases h : mayO Q p = true
 · rw [if_pos h, List.filter_cons_of_pos h]; rfl
 · rw [if_neg h, List.filter_cons_of_neg h]; rfl
theorem lastO_no {Q : List Pt} {l : List Oc} {p : Oc} (h : mayO Q p = false) (v : Int) : lastO Q (l ++ [p]) v = lastO Q l v := by
 unfold lastO
 rw [colO_snoc, h]; simp
theorem lastO_yes {Q : List Pt} {l : List Oc} {p : Oc} (h : mayO Q p = true) (v : Int) : lastO Q (l ++ [p]) v = if v = p.2.2.2 then some p else lastO Q l v := by
 unfold lastO
 rw [colO_snoc, if_pos h, atV_append, atV_one]
 by_cases hv : p.2.2.2 = v
 · rw [if_pos hv, if_pos hv.symm]; simp
 · rw [if_neg hv, if_neg (fun e => hv e.symm), List.append_nil]
theorem clear_nil (Q : List Pt) : clearP Q [] := fun l1 p l2 h => by simp [colO] at h
theorem clear_no {Q : List Pt} {l : List Oc} {p : Oc} (h : mayO Q p = false) (hc : clearP Q l) : clearP Q (l ++ [p]) := by
 unfold clearP at hc ⊢
 rw [colO_snoc, h]
 simpa using hc
theorem clear_yes {Q : List Pt} {l : List Oc} {p : Oc} (h : mayO Q p = true) (hc : clearP Q l) (hk : ∀ q, lastO Q l p.2.2.2 = some q → kdQ Q q.1 ≠ kdQ Q p.1) : clearP Q (l ++ [p]) := by
 intro l1 r l2 hl q hq
 rw [colO_snoc, if_pos h] at hl
 rcases List.eq_nil_or_concat l2 with rfl | ⟨m, s, rfl⟩
 ·
  obtain ⟨h1, h2⟩ := List.append_inj' hl rfl
  cases h2
  exact hk q (by unfold lastO; rw [h1]; exact hq)
 ·
  rw [List.concat_eq_append] at hl
  have h6 : colO Q l ++ [p] = (l1 ++ r :: m) ++ [s] := by rw [hl]; simp
  obtain ⟨h1, _⟩ := List.append_inj' h6 rfl
  exact hc l1 r m h1 q hq
def alikeP (Q : List Pt) (i j : Nat) (v : Int) : Prop := ∃ l1 p l2 q, colO Q (allQ Q) = l1 ++ p :: l2 ∧ p.2.2.2 = v ∧ p.1 = j ∧ (atV v l1).getLast? = some q ∧ q.1 = i ∧ kdQ Q i = kdQ Q j
theorem alike_at {Q : List Pt} {l b : List Oc} {p q : Oc} (hl : allQ Q = l ++ p :: b) (h : mayO Q p = true) (hq : lastO Q l p.2.2.2 = some q) (hk : kdQ Q q.1 = kdQ Q p.1) : alikeP Q q.1 p.1 p.2.2.2 := by
 refine ⟨colO Q l, p, colO Q b, q, ?_, rfl, rfl, hq, rfl, hk⟩
 rw [hl]
 unfold colO
 rw [List.filter_append, List.filter_cons_of_pos h]
theorem alikeP.places {Q : List Pt} {i j : Nat} {v : Int} (h : alikeP Q i j v) : v ≠ 0 ∧ kdQ Q j ≠ 3 ∧ kdQ Q i = kdQ Q j ∧ ∃ e f b1 b2 b3, allQ Q = b1 ++ (i, e) :: b2 ++ (j, f) :: b3 ∧ e.2.2 = v ∧ f.2.2 = v := by
 obtain ⟨l1, p, l2, q, h1, h2, h3, h4, h5, h6⟩ := h
 have hp : p ∈ colO Q (allQ Q) := by rw [h1]; simp
 have hm := (List.mem_filter.1 hp).2
 unfold mayO at hm
 simp only [Bool.and_eq_true, bne_iff_ne, ne_eq] at hm
 obtain ⟨i', e⟩ := q
 obtain ⟨j', f⟩ := p
 simp only at h2 h3 h5 hm
 subst h3; subst h5
 have hq : (i', e) ∈ atV v l1 := List.mem_of_getLast? h4
 obtain ⟨hq1, hq2⟩ := mem_atV.1 hq
 obtain ⟨c1, c2, rfl⟩ := List.append_of_mem hq1
 refine ⟨by rw [← h2]; exact hm.2, hm.1, h6, e, f, ?_⟩
 have hs : List.Sublist ((c1 ++ (i', e) :: c2) ++ (j', f) :: l2) (allQ Q) := by rw [← h1]; exact List.filter_sublist
 have hs2 : List.Sublist [(i', e), (j', f)] (allQ Q) := by
  refine List.Sublist.trans ?_ hs
  have a1 : List.Sublist [(i', e)] (c1 ++ (i', e) :: c2) := List.singleton_sublist.2 (by simp)
  have a2 : List.Sublist [(j', f)] ((j', f) :: l2) := List.singleton_sublist.2 (by simp)
  exact a1.append a2
 obtain ⟨r1, r2, h7, h8, h9⟩ := List.cons_sublist_iff.1 hs2
 obtain ⟨s1, s2, rfl⟩ := List.append_of_mem h8
 obtain ⟨t1, t2, rfl⟩ := List.append_of_mem (List.singleton_sublist.1 h9)
 exact ⟨s1, s2 ++ t1, t2, by rw [h7]; simp, hq2, h2⟩
end Go.Proofs.YtagcbnpahgfgmaaGreat
namespace Go.Proofs.YtagcbnpahgfgmaaGreat
open Go Go.RowKit Go.Maps
theorem allQ_len {Q : List Pt} (hQ : Q.length ≤ 1000) (hR : ∀ q ∈ Q, q.2.length ≤ 1000) : ∀ i k, i ≤ Q.length → (preQ Q i k).length ≤ 2000000 := by
 intro i k hi
 have h1 : ∀ i, i ≤ Q.length → (preO Q i).length ≤ i * 1000 := by
  intro i
  induction i with
  | zero => intro _; simp [preO]
  | succ i ih =>
   intro h; rw [preO_succ, List.length_append]; have := ih (by omega); have h2 : (rowO Q i).length ≤ 1000 := by
    unfold rowO; rw [List.length_map, lnQ_at (by omega)]; exact hR _ (List.getElem_mem _)
   rw [Nat.succ_mul]; omega
 unfold preQ
 rw [List.length_append]
 have := h1 i hi
 have h2 : ((rowO Q i).take k).length ≤ 1000 := by
  rw [List.length_take]
  unfold rowO
  rw [List.length_map]
  by_cases h : i < Q.length
  · rw [lnQ_at h]; have := hR _ (List.getElem_mem h); omega
  · rw [lnQ_out h]; simp
 have h3 : i * 1000 ≤ 1000 * 1000 := Nat.mul_le_mul_right _ (by omega)
 omega
theorem sort_row2 (g cap : Nat) (zs : List Int) (w : World) (h : Row w g 3 1 cap (zs.map (Value.int .i64))) (hsz : zs.length < 1000000000) :
  Calls Tryz.prog 44 #[.slice (some ⟨g, 0, none⟩) zs.length cap] w fun e w' => e = .returned (.tuple #[]) ∧
   Row w' g 3 1 cap ((zs.mergeSort fun x y => decide (x ≤ y)).map (Value.int .i64)) ∧ w.grownBy w' (some g) := by
 obtain ⟨cur, hg, hs, hl, hm, ht⟩ := h
 have ht' : cur.toList.take zs.length = zs.map (Value.int .i64) := by simpa using ht
 have hH := holds_of_blockI (ss := zs) hg ht'
 refine (Tryz.slices_Sort_int g 0 cap zs w hH (Array.getElem?_eq_some_iff.1 hg).1 (by omega)).mono ?_
 rintro e w' ⟨rfl, n, os, rfl⟩
 refine ⟨rfl, ?_, grownBy_sortedI _⟩
 have hlen : (zs.mergeSort fun x y => decide (x ≤ y)).length = zs.length := by simp
 refine ⟨_, heap_sortedI _ hg, by simpa [Sort.putCells] using hs, by simpa [hlen] using hl, hm, ?_⟩
 rw [List.length_map]
 exact take_putCellsI cur _ (by simp at hl; omega)
theorem vN_map (l : List Nat) : l.map vN = (l.map fun x : Nat => (x : Int)).map (Value.int .i64) := by
 rw [List.map_map]; rfl
theorem sort_rowN (g cap : Nat) (l : List Nat) (w : World) (h : Row w g 3 1 cap (l.map vN)) (hsz : l.length < 1000000000) :
  Calls Tryz.prog 44 #[.slice (some ⟨g, 0, none⟩) l.length cap] w fun e w' => e = .returned (.tuple #[]) ∧
   Row w' g 3 1 cap ((srtN l).map vN) ∧ w.grownBy w' (some g) := by
 rw [vN_map] at h
 have h2 := sort_row2 g cap _ w h (by simpa using hsz)
 rw [List.length_map] at h2
 rw [vN_map (srtN l), srtN_map]
 exact h2
set_option maxRecDepth 100000 in
set_option maxHeartbeats 8000000 in
theorem beside_walk (a : Option Addr) (cap : Nat) (Q : List Pt) (w : World) (hr : RdQ w a Q) (hQ : Q.length ≤ 1000) (hR : ∀ q ∈ Q, RightL q.2) :
  Calls Tryz.prog 80 #[.slice a Q.length cap] w (RetBes w Q) := by
 have hpl := fun i k hi => allQ_len hQ (fun q hq => (hR q hq).1) i k hi
 have HR := Lib.hid hR; have Hpl := Lib.hid hpl
 clear hR hpl
 have hm1 := fun w => run_makeMapN 120 _ _ Tryz.underlying120 w
 have hm2 := fun w => run_makeMapN 121 _ _ Tryz.underlying121 w
 have hmk := run_make_row' (P := Tryz.prog) 63 33 (.slice none 0 0) 24 Tryz.underlying63 ints_info2 rfl .i64 .i64 Q.length (by omega) (by omega)
 go_enter Tryz.func80, Tryz.ntmps80
 go_wp2_with fail
 clear hm1 hm2 hmk
 have hI0 : BesI w (((w.alloc (.map #[] 0)).alloc (.map #[] 0)).alloc (.cells (madeCells #[.slice none 0 0] Q.length) 33)) Q (preQ Q 0 0) := by
  have e0 : preQ Q 0 0 = [] := by simp [preQ, preO]
  have b1 := bl_alloc w (.map #[] 0)
  have b2 := bl_trans b1 (bl_alloc _ (.map #[] 0))
  have hh : heldL [] = fun _ => none := by
   funext x; unfold heldL; split
   ·
    split
    · rfl
    · rfl
   · rfl
  rw [e0]
  refine ⟨fineP_nil Q, ?_, ⟨0, fun _ => none, ?_, by simp, fun e _ => by simp [realsO]⟩, ⟨List.replicate Q.length (.slice none 0 0), ?_⟩, bl_trans b2 (bl_alloc _ _)⟩
  ·
   unfold HeldM; rw [hh]; exact ((MG.made w _).alloc _).alloc _
  ·
   have := (MG.made (w.alloc (.map #[] 0)) 38).alloc (.cells (madeCells #[.slice none 0 0] Q.length) 33); simpa using this
  ·
   rw [rowsO_nil]; have := ownRows_made ((w.alloc (.map #[] 0)).alloc (.map #[] 0)) Q.length 33 3 (by unfold maxLen; omega); simpa using this
 generalize ((w.alloc (.map #[] 0)).alloc (.map #[] 0)).alloc (.cells (madeCells #[.slice none 0 0] Q.length) 33) = w1 at hI0 ⊢
 go_wp2_with fail
 go_loopg [23] Q.length (fun r iv wj => ∃ i : Nat, i + r = Q.length ∧ iv = .int .i64 i ∧ BesI w wj Q (preQ Q i 0))
 case atStart => exact ⟨0, by omega, rfl, hI0⟩
 case round =>
  clear hI0
  obtain ⟨i, hi, rfl, hI⟩ := hrel
  have Hi := Lib.hid hi
  by_cases hil : i < Q.length
  ·
   clear hi; have hqi : Q[i]? = some Q[i] := List.getElem?_eq_getElem hil; obtain ⟨bp, op, au, cu, rfl, p0w, p1w, hrq, hcu, hcm⟩ := hr i _ hqi; have hRq := HR.out _ (List.getElem_mem hil); have hln := lnQ_at hil; have hkd := kdQ_at hil; obtain ⟨⟨kd, ls⟩, hq⟩ : ∃ q : Pt, Q[i] = q := ⟨_, rfl⟩
   rw [hq] at p0w p1w hrq hcu hRq hln hkd; simp only at p0w p1w hrq hcu hRq hln hkd; have hlsl := hRq.1; have p0 := keep_cell hI.bel p0w; have p1 := keep_cell hI.bel p1w; have Hln := Lib.hid hln; have Hkd := Lib.hid hkd; have HRq := Lib.hid hRq; have Hq := Lib.hid hq; have hb8 := bl_alloc wr (.cells #[.int .i64 kd, .slice au ls.length cu] 49); have hI8 := hI.grown hb8; have hJ8 : BesJ w (wr.alloc (.cells #[.int .i64 kd, .slice au ls.length cu] 49)) Q (preQ Q i 0) wr.heap.size kd := ⟨hI8.fine, hI8.held, hI8.own, (RowsA.start hI).more _, hI8.bel, (two_cells _ _ _ _ rfl).1, hI.sz⟩
   have HJ8 := Lib.hid hJ8; clear hqi hln hkd hRq hq hI8 hI hb8 hJ8 p0w p1w; go_wp2_with fail; obtain ⟨B8, hB8⟩ : ∃ b, b = wr.heap.size := ⟨_, rfl⟩
   rw [← hB8] at HJ8 ⊢; generalize wr.alloc (.cells #[.int .i64 kd, .slice au ls.length cu] 49) = wo at HJ8 ⊢; clear hB8 p0 p1; go_loopg [31] ls.length (fun r kv wj => ∃ k : Nat, k + r = ls.length ∧ kv = .int .i64 k ∧ BesJ w wj Q (preQ Q i k) B8 kd)
   case atStart => exact ⟨0, by omega, rfl, HJ8.out⟩
   case round =>
    clear HJ8; obtain ⟨k, hk, rfl, hJ⟩ := hrel; obtain ⟨wi, rfl⟩ : ∃ wi : World, wi = wr := ⟨_, rfl⟩
    have Hk := Lib.hid hk; by_cases hkl : k < ls.length
    ·
     clear hk; obtain ⟨b, o, rfl, c0, c1, c2⟩ := (hrq.below hJ.bel).at k hkl; have hok := HRq.out.2.1 _ (List.getElem_mem hkl); have hpre : preQ Q i (k + 1) = preQ Q i k ++ [(i, ls[k])] := by
      have := preQ_succ Q i k (by rw [Hln.out]; exact hkl); simp only [Hln.out] at this; exact this
     obtain ⟨⟨x, y, v⟩, he⟩ : ∃ e : Lk, ls[k] = e := ⟨_, rfl⟩
     rw [he] at c0 c1 c2 hok hpre; have hwf := hok.wf; unfold OkL at hok; simp only at c0 c1 c2 hok; obtain ⟨o1, o2, o3, o4, o5⟩ := hok; have hll := Hpl.out i k (by omega); obtain ⟨l, hl⟩ : ∃ l, l = preQ Q i k := ⟨_, rfl⟩
     rw [← hl] at hpre hJ hll; have hb10 := bl_alloc wi (.cells #[.int .i64 x, .int .i64 y, .int .i64 v] 38); have hJ10 := hJ.grown hb10; have hRow10 := hJ.rows.more (.cells #[.int .i64 x, .int .i64 y, .int .i64 v] 38); have HRow10 := Lib.hid hRow10; clear hRow10; have hJlt := hJ.lt; have hJbig := hJ.big; have d0 : (wi.alloc (.cells #[.int .i64 x, .int .i64 y, .int .i64 v] 38)).cell? ⟨wi.heap.size, 0, none⟩ = some (.int .i64 x) := by simp
     have d1 : (wi.alloc (.cells #[.int .i64 x, .int .i64 y, .int .i64 v] 38)).cell? ⟨wi.heap.size, 1, none⟩ = some (.int .i64 y) := by simp
     have d2 : (wi.alloc (.cells #[.int .i64 x, .int .i64 y, .int .i64 v] 38)).cell? ⟨wi.heap.size, 2, none⟩ = some (.int .i64 v) := by simp
     have Hpre := Lib.hid hpre; have Hl := Lib.hid hl; have Hwf := Lib.hid hwf; have HJ10 := Lib.hid hJ10; have Ho := Lib.hid (And.intro o1 (And.intro o2 (And.intro o3 (And.intro o4 o5)))); have hwl := hJ10.bel.size; clear hpre hl hwf he hJ hJ10 hb10 o1 o2 o3; by_cases hv : v = 0
     ·
      subst hv; go_upto_region 11 with (fail)
      obtain ⟨c, F, hMG, hcl, hF⟩ := HJ10.out.own; have hMGd : MG ((wi.alloc (.cells #[.int .i64 x, .int .i64 y, .int .i64 0] 38)).drew) 38 (w.heap.size + 1) c F := hMG.block rfl; have hkey := litL_ok Hwf.out; unfold lkV at hkey; simp only at hkey; have hlook := hMGd.look keyedL Tryz.underlying121 (zeroI _) hkey; obtain ⟨st, w5, hent, hg5, ⟨c5, F5, hMG5, hF5⟩, hstore⟩ := hMGd.entry lawL Tryz.underlying121 zeroI hkey (by omega); have hlook5 := hMG5.look keyedL Tryz.underlying121 (zeroI _) hkey; rw [hF5] at hlook5; have hFe := hF (x, y, 0) Hwf.out; have hne10 : (some (w.heap.size + 1) : Option Nat) ≠ some wi.heap.size := fun e => by have := Option.some.inj e; omega
      have hneB8 : (some (w.heap.size + 1) : Option Nat) ≠ some B8 := fun e => by have := Option.some.inj e; omega
      have f0 := grown_cell hg5 d0 hne10; have f1 := grown_cell hg5 d1 hne10; have f2 := grown_cell hg5 d2 hne10; obtain ⟨z, hz⟩ : ∃ z : Int, (F (litL (x, y, 0))).getD (.int .i64 0) = .int .i64 z ∧ (z = 0 ∨ z = 1) ∧ (z = 0 ↔ (x, y, 0) ∉ realsO l) := by
       by_cases hm : (x, y, 0) ∈ realsO l
       · exact ⟨1, by rw [hFe, if_pos hm]; rfl, .inr rfl, by simp [hm]⟩
       · exact ⟨0, by rw [hFe, if_neg hm]; rfl, .inl rfl, by simp [hm]⟩
      obtain ⟨hz1, hz2, hz3⟩ := hz; rw [hz1] at hlook hlook5 hent; obtain ⟨w6, hst6, hg6, hMG6⟩ := hstore w5 (.int .i64 (z + 1)) rfl; have hlook6 := hMG6.look keyedL Tryz.underlying121 (zeroI _) hkey; rw [updL_same] at hlook6; have hlook6 : (Instr.lookup 121 (.map (some (w.heap.size + 1))) (.agg #[.int .i64 x, .int .i64 y, .int .i64 0]) false).run Tryz.prog w6 = .ok (.int .i64 (z + 1)) w6 := hlook6; unfold goInt at hst6; have k0 := grown_cell hg6 f0 hne10; have k1 := grown_cell hg6 f1 hne10; have k2 := grown_cell hg6 f2 hne10; have iz : IntKind.i64.wrap (z + 1) = z + 1 := IntWalk.i64_in _ (by omega); have hgg : (wi.alloc (.cells #[.int .i64 x, .int .i64 y, .int .i64 0] 38)).grownBy w6 (some (w.heap.size + 1)) := ⟨hg6.os.trans hg5.os, hg6.tape.trans hg5.tape, hg6.output.trans hg5.output, Nat.le_trans hg5.size hg6.size, fun j h1 h2 => (hg6.block j (Nat.lt_of_lt_of_le h1 hg5.size) h2).trans (hg5.block j h1 h2)⟩
      have HMG6 := Lib.hid hMG6; have HFe := Lib.hid hFe; have HF := Lib.hid hF; have Hz2 := Lib.hid hz2; have Hz3 := Lib.hid hz3; have Hgg := Lib.hid hgg; clear hMG hMGd hMG5 hF5 hFe hF hz1 hz2 hz3 hstore hg5 hg6 hMG6 hgg hkey; refine regionT (fun w' => w'.cell? ⟨wi.heap.size, 0, none⟩ = some (.int .i64 x) ∧ w'.cell? ⟨wi.heap.size, 1, none⟩ = some (.int .i64 y) ∧ w'.cell? ⟨wi.heap.size, 2, none⟩ = some (.int .i64 0) ∧ (Instr.lookup 121 (.map (some (w.heap.size + 1))) (.agg #[.int .i64 x, .int .i64 y, .int .i64 0]) false).run Tryz.prog w' = .ok (.int .i64 z) w') 6 (by kernel_rfl) ?_; have hS : (wi.alloc (.cells #[.int .i64 x, .int .i64 y, .int .i64 0] 38)).drew.cell? ⟨wi.heap.size, 0, none⟩ = some (.int .i64 x) ∧ (wi.alloc (.cells #[.int .i64 x, .int .i64 y, .int .i64 0] 38)).drew.cell? ⟨wi.heap.size, 1, none⟩ = some (.int .i64 y) ∧ (wi.alloc (.cells #[.int .i64 x, .int .i64 y, .int .i64 0] 38)).drew.cell? ⟨wi.heap.size, 2, none⟩ = some (.int .i64 0) ∧ (Instr.lookup 121 (.map (some (w.heap.size + 1))) (.agg #[.int .i64 x, .int .i64 y, .int .i64 0]) false).run Tryz.prog (wi.alloc (.cells #[.int .i64 x, .int .i64 y, .int .i64 0] 38)).drew = .ok (.int .i64 z) (wi.alloc (.cells #[.int .i64 x, .int .i64 y, .int .i64 0] 38)).drew := ⟨d0, d1, d2, hlook⟩
      refine tkT 0 ?_ rfl hS ?_ ?_ (by kernel_rfl) (fun _ _ _ h => h) (by rfl); rotate_left; (· intro wS hSw; (try dsimp only at hSw); go_simp; try with_reducible rfl); simp only [Act.put, zA, z0, z1]; refine tkT 1 ?_ rfl hS ?_ ?_ (by kernel_rfl) (fun _ _ _ h => h) (by rfl); rotate_left; (· intro wS hSw; (try dsimp only at hSw); go_simp; try with_reducible rfl); simp only [Act.put, zA, z0, z1]; refine tkT 2 ?_ rfl hS ?_ ?_ (by kernel_rfl) (fun _ _ _ h => h) (by rfl); rotate_left; (· intro wS hSw; (try dsimp only at hSw); go_simp; try with_reducible rfl); simp only [Act.put, zA, z0, z1]; refine tkT 3 ?_ rfl hS ?_ ?_ (by kernel_rfl) (fun _ _ _ h => h) (by rfl); rotate_left; (· intro wS hSw; (try dsimp only at hSw); go_simp; try with_reducible rfl); simp only [Act.put, zA, z0, z1]; refine oneT (i := 4) rfl (by kernel_rfl) (fun K hK => ?_); go_simp; refine hK _ _ (fun _ => ⟨f0, f1, f2, hlook5⟩) ?_; clear hK K hS; have hS := And.intro f0 (And.intro f1 (And.intro f2 hlook5)); refine tkT 5 ?_ rfl hS ?_ ?_ (by kernel_rfl) (fun _ _ _ h => h) (by rfl); rotate_left; (· intro wS hSw; (try dsimp only at hSw); go_simp; try with_reducible rfl); simp only [Act.put, zA, z0, z1]; refine oneT (i := 6) rfl (by kernel_rfl) (fun K hK => ?_); go_simp; refine hK _ _ (fun h => absurd h (by omega)) ?_; clear hK K hS; refine doneT (by kernel_rfl) ?_ _; clear hlook hlook5 hent hst6 f0 f1 f2 d0 d1 d2; have hB6 : Below w.heap.size w w6 := HJ10.out.bel.grown Hgg.out (by have := HJ10.out.bel.size; omega) (fun j hj => by cases hj; omega)
      rcases Hz2.out with rfl | rfl
      ·
       have hno := Hz3.out.1 rfl
       have hJ6 : BesJ w w6 Q (l ++ [(i, (x, y, 0))]) B8 kd := HJ10.out.real rfl hno Hgg.out (by
        refine ⟨_, _, HMG6.out, by simp only [List.length_append, List.length_singleton]; split <;> omega, fun e' he' => ?_⟩; by_cases h9 : e' = (x, y, 0)
        ·
         subst h9; rw [updL_same, realsO_append, if_pos (by simp [realsO])]; rfl
        ·
         rw [updL_ne _ _ (fun h => h9 (litL_inj he' Hwf.out h)), HF.out e' he', realsO_append]; have : e' ∈ realsO l ++ realsO [(i, (x, y, 0))] ↔ e' ∈ realsO l := by simp [realsO, h9]
         simp only [this])
       rw [← Hpre.out] at hJ6; have HJ6 := Lib.hid hJ6; clear hno hJ6 HMG6 hlook6; have hlook7 : (Instr.lookup 121 (.map (some (w.heap.size + 1))) (.agg #[.int .i64 x, .int .i64 y, .int .i64 0]) false).run Tryz.prog w6 = .ok (.int .i64 1) w6 := by assumption
       go_wp2_with fail; go_roundg (gk - 1)
       case measure => have := Hk.out; omega
       case rel => exact ⟨k + 1, by have := Hk.out; omega, by go_num, HJ6.out⟩
      ·
       have hbad : ¬ besideP Q := bes_no (i := i) (k := k + 1) (by omega) (by
        rw [Hpre.out, fineP_real rfl]
        exact fun h => absurd ((Hz3.out).2 h.2) (by decide))
       have Hbad := Lib.hid hbad; clear hbad; go_wp2_with fail; go_ret2; exact ⟨hB6, .inr ⟨Hbad.out, rfl⟩⟩
     ·
      have hv0 : (v == 0) = false := by simpa using hv
      have hvk := keyZ Hwf.out.2.2; have hlk := HJ10.out.held.look mapLawZ Tryz.underlying120 (zeroH _) hvk; rw [heldL_at hv] at hlk; have hpb := HJ10.out.fine.2 v hv; have hfine := HJ10.out.fine; match hat : atV v l with
      | [] =>
       rw [heldF_none hat] at hlk; have hlk' : (Instr.lookup 120 (.map (some w.heap.size)) (.int .i64 v) false).run Tryz.prog (wi.alloc (.cells #[.int .i64 x, .int .i64 y, .int .i64 v] 38)) = .ok (.agg #[.int .i64 0, .int .i64 0, .int .i64 0, .int .i64 0, .int .i64 0]) (wi.alloc (.cells #[.int .i64 x, .int .i64 y, .int .i64 v] 38)) := hlk; clear hlk hpb hfine; have Hat := Lib.hid hat; clear hat; go_upto_region 21 with (fail)
       have hbH := bl_alloc (wi.alloc (.cells #[.int .i64 x, .int .i64 y, .int .i64 v] 38)) (.cells #[.int .i64 0, .int .i64 1, .int .i64 0, .int .i64 0, .int .i64 0] 123); have hJH := HJ10.out.grown hbH; have g0 : ((wi.alloc (.cells #[.int .i64 x, .int .i64 y, .int .i64 v] 38)).alloc (.cells #[.int .i64 0, .int .i64 1, .int .i64 0, .int .i64 0, .int .i64 0] 123)).cell? ⟨wi.heap.size + 1, 0, none⟩ = some (.int .i64 0) := by simp
       have g1 : ((wi.alloc (.cells #[.int .i64 x, .int .i64 y, .int .i64 v] 38)).alloc (.cells #[.int .i64 0, .int .i64 1, .int .i64 0, .int .i64 0, .int .i64 0] 123)).cell? ⟨wi.heap.size + 1, 1, none⟩ = some (.int .i64 1) := by simp
       have g2 : ((wi.alloc (.cells #[.int .i64 x, .int .i64 y, .int .i64 v] 38)).alloc (.cells #[.int .i64 0, .int .i64 1, .int .i64 0, .int .i64 0, .int .i64 0] 123)).cell? ⟨wi.heap.size + 1, 2, none⟩ = some (.int .i64 0) := by simp
       have g3 : ((wi.alloc (.cells #[.int .i64 x, .int .i64 y, .int .i64 v] 38)).alloc (.cells #[.int .i64 0, .int .i64 1, .int .i64 0, .int .i64 0, .int .i64 0] 123)).cell? ⟨wi.heap.size + 1, 3, none⟩ = some (.int .i64 0) := by simp
       have g4 : ((wi.alloc (.cells #[.int .i64 x, .int .i64 y, .int .i64 v] 38)).alloc (.cells #[.int .i64 0, .int .i64 1, .int .i64 0, .int .i64 0, .int .i64 0] 123)).cell? ⟨wi.heap.size + 1, 4, none⟩ = some (.int .i64 0) := by simp
       have d0 := keep_cell hbH d0; have d1 := keep_cell hbH d1; have d2 := keep_cell hbH d2; have fz : ∀ j, ((wi.alloc (.cells #[.int .i64 x, .int .i64 y, .int .i64 v] 38)).alloc (.cells #[.int .i64 0, .int .i64 1, .int .i64 0, .int .i64 0, .int .i64 0] 123)).frozen? ⟨wi.heap.size + 1, j, none⟩ = false := fun j => by simp
       have HJH := Lib.hid hJH; have hrow0 : RowsA w ((wi.alloc (.cells #[.int .i64 x, .int .i64 y, .int .i64 v] 38)).alloc (.cells #[.int .i64 0, .int .i64 1, .int .i64 0, .int .i64 0, .int .i64 0] 123)) Q l [wi.heap.size + 1, wi.heap.size, B8] := by
        have := HRow10.out.more (.cells #[.int .i64 0, .int .i64 1, .int .i64 0, .int .i64 0, .int .i64 0] 123); simpa using this
       have Hrow0 := Lib.hid hrow0; have hszH : wi.heap.size + 2 ≤ ((wi.alloc (.cells #[.int .i64 x, .int .i64 y, .int .i64 v] 38)).alloc (.cells #[.int .i64 0, .int .i64 1, .int .i64 0, .int .i64 0, .int .i64 0] 123)).heap.size := by simp
       clear hJH hbH hlk' hrow0; generalize ((wi.alloc (.cells #[.int .i64 x, .int .i64 y, .int .i64 v] 38)).alloc (.cells #[.int .i64 0, .int .i64 1, .int .i64 0, .int .i64 0, .int .i64 0] 123)) = wH at *
       have hfn : fineP Q (l ++ [(i, (x, y, v))]) := (fineP_virt hv).2 ⟨HJH.out.fine, by rw [Hat.out]; rfl⟩; have hrw : RowsA w wH Q (l ++ [(i, (x, y, v))]) [wi.heap.size + 1, B8] := by
        have := Hrow0.out.sub (bs' := [wi.heap.size + 1, B8]) (by simp); unfold RowsA at this ⊢; rw [rowsO_same (newP_first Hat.out)]; exact this
       have Hfn := Lib.hid hfn; have Hrw := Lib.hid hrw; clear hfn hrw; refine regionT (fun w' => w'.cell? ⟨wi.heap.size, 0, none⟩ = some (.int .i64 x) ∧ w'.cell? ⟨wi.heap.size, 1, none⟩ = some (.int .i64 y) ∧ w'.cell? ⟨wi.heap.size, 2, none⟩ = some (.int .i64 v)) 4 (by kernel_rfl) ?_; have hS : wH.drew.cell? ⟨wi.heap.size, 0, none⟩ = some (.int .i64 x) ∧ wH.drew.cell? ⟨wi.heap.size, 1, none⟩ = some (.int .i64 y) ∧ wH.drew.cell? ⟨wi.heap.size, 2, none⟩ = some (.int .i64 v) := ⟨d0, d1, d2⟩
       refine tkT 0 ?_ rfl hS ?_ ?_ (by kernel_rfl) (fun _ _ _ h => h) (by rfl); rotate_left; (· intro wS hSw; (try dsimp only at hSw); go_simp; try with_reducible rfl); simp only [Act.put, zA, z0, z1]; refine tkT 1 ?_ rfl hS ?_ ?_ (by kernel_rfl) (fun _ _ _ h => h) (by rfl); rotate_left; (· intro wS hSw; (try dsimp only at hSw); go_simp; try with_reducible rfl); simp only [Act.put, zA, z0, z1]; refine tkT 2 ?_ rfl hS ?_ ?_ (by kernel_rfl) (fun _ _ _ h => h) (by rfl); rotate_left; (· intro wS hSw; (try dsimp only at hSw); go_simp; try with_reducible rfl); simp only [Act.put, zA, z0, z1]; refine oneT (i := 3) rfl (by kernel_rfl) (fun K hK => ?_); go_simp; refine hK _ _ (fun _ => ⟨(World.cell?_setCell_far _ _ _ _ (by simp)).trans d0, (World.cell?_setCell_far _ _ _ _ (by simp)).trans d1, (World.cell?_setCell_far _ _ _ _ (by simp)).trans d2⟩) ?_; clear hK K hS; refine restartT (fun _ => True) 6 (by kernel_rfl) ?_; have hS : True := trivial; refine tkT 4 ?_ rfl hS ?_ ?_ (by kernel_rfl) (fun _ _ _ h => h) (by rfl); rotate_left; (· intro wS hSw; (try dsimp only at hSw); go_simp; try with_reducible rfl); simp only [Act.put, zA, z0, z1]; refine oneT (i := 5) rfl (by kernel_rfl) (fun K hK => ?_); go_simp; refine hK _ _ (fun _ => trivial) ?_; clear hK K hS; refine doneT (by kernel_rfl) ?_ _; have hgT : wH.grownBy (((((wH.setCell ⟨wi.heap.size + 1, 0, none⟩ (.int .i64 i)).setCell ⟨wi.heap.size + 1, 2, none⟩ (.int .i64 x)).setCell ⟨wi.heap.size + 1, 3, none⟩ (.int .i64 y)).setCell ⟨wi.heap.size + 1, 4, none⟩ (.int .i64 v)).drew) (some (wi.heap.size + 1)) :=
        have h := grB_trans (grB_trans (grB_trans (grownBy_setCell wH ⟨wi.heap.size + 1, 0, none⟩ (.int .i64 i)) (grownBy_setCell _ ⟨wi.heap.size + 1, 2, none⟩ (.int .i64 x))) (grownBy_setCell _ ⟨wi.heap.size + 1, 3, none⟩ (.int .i64 y))) (grownBy_setCell _ ⟨wi.heap.size + 1, 4, none⟩ (.int .i64 v))
        ⟨h.os, h.tape, h.output, h.size, h.block⟩
       have HgT := Lib.hid hgT; have hHT : HeldM (((((wH.setCell ⟨wi.heap.size + 1, 0, none⟩ (.int .i64 i)).setCell ⟨wi.heap.size + 1, 2, none⟩ (.int .i64 x)).setCell ⟨wi.heap.size + 1, 3, none⟩ (.int .i64 y)).setCell ⟨wi.heap.size + 1, 4, none⟩ (.int .i64 v)).drew) w.heap.size l := MG.grown HJH.out.held hgT (fun e => by have := Option.some.inj e; omega); have HHT := Lib.hid hHT; have hnl := nums_le l; clear hgT hHT; go_wp2_with (at_mapUpdate; refine wpList_put_MG rfl _ _ _ _ rfl HHT.out mapLawZ Tryz.underlying120 rfl rfl rfl hvk (by omega) ?_; intro w9 hm9 hg9)
       have hJ9 : BesJ w w9 Q (l ++ [(i, (x, y, v))]) B8 kd := bes_tail (bh := wi.heap.size + 1) hv Hwf.out.2.2 Hfn.out HJH.out.held HJH.out.own Hrw.out HJH.out.bel HJH.out.kind (by omega) (by omega) HgT.out hg9 (by
        have e : (atV v l).length + 1 = 1 := by rw [Hat.out]; rfl
        simp only; rw [e]
        exact hm9)
       rw [← Hpre.out] at hJ9; have HJ9 := Lib.hid hJ9; clear hm9 hg9 hJ9; go_roundg (gk - 1)
       case measure => have := Hk.out; omega
       case rel => exact ⟨k + 1, by have := Hk.out; omega, by go_num, HJ9.out⟩
      | [(pa, (x', y', v'))] =>
       rw [heldF_one hat] at hlk; have hlk' : (Instr.lookup 120 (.map (some w.heap.size)) (.int .i64 v) false).run Tryz.prog (wi.alloc (.cells #[.int .i64 x, .int .i64 y, .int .i64 v] 38)) = .ok (.agg #[.int .i64 (pa : Nat), .int .i64 1, .int .i64 x', .int .i64 y', .int .i64 v']) (wi.alloc (.cells #[.int .i64 x, .int .i64 y, .int .i64 v] 38)) := hlk; have hpaQ : pa < Q.length := by
        have hm : (pa, ((x', y', v') : Lk)) ∈ atV v l := by rw [hat]; simp
        have := (mem_atV.1 hm).1; rw [Hl.out] at this; unfold preQ at this; rcases List.mem_append.1 this with h | h
        · have := (mem_preO.1 h).1; omega
        · have := (mem_rowO.1 (List.mem_of_mem_take h)).1; simp only at this; omega
       obtain ⟨bd, hbd⟩ : ∃ bd, bd = badB Q (pa, (x', y', v')) (i, (x, y, v)) := ⟨_, rfl⟩
       have hpv : pairB Q (atV v l ++ [(i, ((x, y, v) : Lk))]) = !bd := by rw [hat, hbd]; exact pair_bad Q (pa, (x', y', v')) (i, (x, y, v))
       obtain ⟨bq, oq, auq, cuq, he9, pk0, _, _, _, _⟩ := hr pa _ (List.getElem?_eq_getElem hpaQ); cases he9; obtain ⟨kq, hkq⟩ : ∃ kq, kq = Q[pa].1 := ⟨_, rfl⟩
       have hkpa : kdQ Q pa = kq := by rw [kdQ_at hpaQ, hkq]
       rw [← hkq] at pk0; unfold badB at hbd; simp only at hbd; rw [hkpa, Hkd.out] at hbd; have Hat := Lib.hid hat; have Hpv := Lib.hid hpv; have Hbd := Lib.hid hbd; clear hlk hpb hfine hat hpv hbd hkq hkpa; go_upto_region 17 with (fail)
       have hbH := bl_alloc (wi.alloc (.cells #[.int .i64 x, .int .i64 y, .int .i64 v] 38)) (.cells #[.int .i64 (pa : Nat), .int .i64 2, .int .i64 x', .int .i64 y', .int .i64 v'] 123); have hJH := HJ10.out.grown hbH; have g0 : ((wi.alloc (.cells #[.int .i64 x, .int .i64 y, .int .i64 v] 38)).alloc (.cells #[.int .i64 (pa : Nat), .int .i64 2, .int .i64 x', .int .i64 y', .int .i64 v'] 123)).cell? ⟨wi.heap.size + 1, 0, none⟩ = some (.int .i64 (pa : Nat)) := by simp
       have g1 : ((wi.alloc (.cells #[.int .i64 x, .int .i64 y, .int .i64 v] 38)).alloc (.cells #[.int .i64 (pa : Nat), .int .i64 2, .int .i64 x', .int .i64 y', .int .i64 v'] 123)).cell? ⟨wi.heap.size + 1, 1, none⟩ = some (.int .i64 2) := by simp
       have g2 : ((wi.alloc (.cells #[.int .i64 x, .int .i64 y, .int .i64 v] 38)).alloc (.cells #[.int .i64 (pa : Nat), .int .i64 2, .int .i64 x', .int .i64 y', .int .i64 v'] 123)).cell? ⟨wi.heap.size + 1, 2, none⟩ = some (.int .i64 x') := by simp
       have g3 : ((wi.alloc (.cells #[.int .i64 x, .int .i64 y, .int .i64 v] 38)).alloc (.cells #[.int .i64 (pa : Nat), .int .i64 2, .int .i64 x', .int .i64 y', .int .i64 v'] 123)).cell? ⟨wi.heap.size + 1, 3, none⟩ = some (.int .i64 y') := by simp
       have g4 : ((wi.alloc (.cells #[.int .i64 x, .int .i64 y, .int .i64 v] 38)).alloc (.cells #[.int .i64 (pa : Nat), .int .i64 2, .int .i64 x', .int .i64 y', .int .i64 v'] 123)).cell? ⟨wi.heap.size + 1, 4, none⟩ = some (.int .i64 v') := by simp
       have d0 := keep_cell hbH d0; have d1 := keep_cell hbH d1; have d2 := keep_cell hbH d2; have fz : ∀ j, ((wi.alloc (.cells #[.int .i64 x, .int .i64 y, .int .i64 v] 38)).alloc (.cells #[.int .i64 (pa : Nat), .int .i64 2, .int .i64 x', .int .i64 y', .int .i64 v'] 123)).frozen? ⟨wi.heap.size + 1, j, none⟩ = false := fun j => by simp
       have HJH := Lib.hid hJH; have hrow0 : RowsA w ((wi.alloc (.cells #[.int .i64 x, .int .i64 y, .int .i64 v] 38)).alloc (.cells #[.int .i64 (pa : Nat), .int .i64 2, .int .i64 x', .int .i64 y', .int .i64 v'] 123)) Q l [wi.heap.size + 1, wi.heap.size, B8] := by
        have := HRow10.out.more (.cells #[.int .i64 (pa : Nat), .int .i64 2, .int .i64 x', .int .i64 y', .int .i64 v'] 123); simpa using this
       have Hrow0 := Lib.hid hrow0; have hszH : wi.heap.size + 2 ≤ ((wi.alloc (.cells #[.int .i64 x, .int .i64 y, .int .i64 v] 38)).alloc (.cells #[.int .i64 (pa : Nat), .int .i64 2, .int .i64 x', .int .i64 y', .int .i64 v'] 123)).heap.size := by simp
       clear hJH hbH hlk' hrow0; generalize ((wi.alloc (.cells #[.int .i64 x, .int .i64 y, .int .i64 v] 38)).alloc (.cells #[.int .i64 (pa : Nat), .int .i64 2, .int .i64 x', .int .i64 y', .int .i64 v'] 123)) = wH at *
       have hBH := HJH.out.bel; have pk := keep_cell hBH pk0; have kk := HJH.out.kind; have hpe := fun w => lk_eq (x', y', v') (x, y, v) w; unfold lkV at hpe; simp only at hpe; have hgt : Tryz.prog.eqGuardType Tryz.prog.depth 38 = false := by kernel_rfl
       have ip1 : (pa : Int) < (Q.length : Int) := by omega
       go_cut [89] (fun tv wx => tv = .bool bd ∧ ∃ d, wx = wH.drewN d)
       case first =>
        by_cases h1 : pa = i
        ·
         have e1 : ((pa : Int) == (i : Int)) = true := by simp; omega
         have e1' : (pa == i) = true := by simpa using h1
         have hb : bd = true := by rw [Hbd.out]; simp [h1]
         have HbT := Lib.hid hb; clear h1 hb hpe; go_wp2_with fail; go_quiet (fail)
         go_wp2_with fail; go_meet
         exact ⟨by rw [HbT.out] <;> rfl, nq, rfl⟩
        have e1 : ((pa : Int) == (i : Int)) = false := by simp; omega
        have e1' : (pa == i) = false := by simpa using h1
        by_cases h2 : ((x', y', v') : Lk) = (x, y, v)
        ·
         rw [decide_eq_true h2] at hpe; by_cases h3 : kq = kd
         ·
          have e3 : (kq == kd) = true := by simpa using h3
          by_cases h4 : kd = 3
          ·
           have e4 : (kd != 3) = false := by simpa using h4
           have hb : bd = false := by rw [Hbd.out]; simp [h1, h2, h3, h4]
           have HbT := Lib.hid hb; clear h1 h2 h3 h4 hb; go_wp2_with fail; go_quiet (fail)
           go_wp2_with fail; go_meet
           exact ⟨by rw [HbT.out] <;> rfl, nq, rfl⟩
          ·
           have e4 : (kd != 3) = true := by simpa using h4
           have hb : bd = true := by rw [Hbd.out]; simp [h1, h2, h3, h4]
           have HbT := Lib.hid hb; clear h1 h2 h3 h4 hb; go_wp2_with fail; go_quiet (fail)
           go_wp2_with fail; go_meet
           exact ⟨by rw [HbT.out] <;> rfl, nq, rfl⟩
         ·
          have e3 : (kq == kd) = false := by simpa using h3
          have hb : bd = false := by rw [Hbd.out]; simp [h1, h2, h3]
          have HbT := Lib.hid hb; clear h1 h2 h3 hb; go_wp2_with fail; go_quiet (fail)
          go_wp2_with fail; go_meet
          exact ⟨by rw [HbT.out] <;> rfl, nq, rfl⟩
        ·
         rw [decide_eq_false h2] at hpe; have hb : bd = true := by rw [Hbd.out]; simp only [decide_eq_true_eq, ne_eq, h2, not_false_eq_true, decide_true, Bool.true_or, Bool.or_true]
         have HbT := Lib.hid hb; clear h1 h2 hb; go_wp2_with fail; go_quiet (fail)
         go_wp2_with fail; go_meet
         exact ⟨by rw [HbT.out] <;> rfl, nq, rfl⟩
       case rest =>
       obtain ⟨rfl, nq, rfl⟩ := hcut; clear hpe hgt pk kk pk0; cases bd with
       | true =>
        have hbad : ¬ besideP Q := bes_no (i := i) (k := k + 1) (by omega) (by
         rw [Hpre.out, fineP_virt hv, Hpv.out]
         exact fun h => by have := h.2; simp at this)
        have Hbad := Lib.hid hbad; clear hbad; go_wp2_with fail; go_ret2; exact ⟨below_drewN hBH _, .inr ⟨Hbad.out, rfl⟩⟩
       | false =>
        have hne : pa ≠ i := fun h => by
         have := Hbd.out; simp [h] at this
        have hfn : fineP Q (l ++ [(i, (x, y, v))]) := (fineP_virt hv).2 ⟨HJH.out.fine, by rw [Hpv.out]; rfl⟩; have Hfn := Lib.hid hfn; have HJH := Lib.hid (HJH.out.grown (below_drewN (bl_refl wH) nq)); have Hrow0 := Lib.hid (Hrow0.out.below (below_drewN (bl_refl wH) nq)); have g0 : (wH.drewN nq).cell? ⟨wi.heap.size + 1, 0, none⟩ = some (.int .i64 (pa : Nat)) := g0; have g1 : (wH.drewN nq).cell? ⟨wi.heap.size + 1, 1, none⟩ = some (.int .i64 2) := g1; have g2 : (wH.drewN nq).cell? ⟨wi.heap.size + 1, 2, none⟩ = some (.int .i64 x') := g2; have g3 : (wH.drewN nq).cell? ⟨wi.heap.size + 1, 3, none⟩ = some (.int .i64 y') := g3; have g4 : (wH.drewN nq).cell? ⟨wi.heap.size + 1, 4, none⟩ = some (.int .i64 v') := g4; have d0 : (wH.drewN nq).cell? ⟨wi.heap.size, 0, none⟩ = some (.int .i64 x) := d0; have d1 : (wH.drewN nq).cell? ⟨wi.heap.size, 1, none⟩ = some (.int .i64 y) := d1; have d2 : (wH.drewN nq).cell? ⟨wi.heap.size, 2, none⟩ = some (.int .i64 v) := d2; have fz : ∀ j, (wH.drewN nq).frozen? ⟨wi.heap.size + 1, j, none⟩ = false := fz; have hszH : wi.heap.size + 2 ≤ (wH.drewN nq).heap.size := hszH; clear hBH; go_wp2_with fail; generalize wH.drewN nq = wH at *
        have hR0 : BesR w wH Q.length l (rowsO Q.length l) [wi.heap.size + 1, wi.heap.size, B8] B8 kd := ⟨HJH.out.held, HJH.out.own, Hrow0.out, HJH.out.bel, HJH.out.kind, fun z hz => by simp only [List.mem_cons, List.not_mem_nil, or_false] at hz; rcases hz with rfl | rfl | rfl <;> omega, by simp⟩
        have hil2 : i < Q.length := by omega
        have hst := rowsO_step (n := Q.length) (l := l) (p := (i, ((x, y, v) : Lk))) (a := (pa, ((x', y', v') : Lk))) hv Hat.out hne hil2 hpaQ; simp only at hst; have hrI := rowsO_get (n := Q.length) (l := l) hil2; have hrP := rowsO_get (n := Q.length) (l := l) hpaQ; have hol : ∀ j, (outO (pairsO l) j).length ≤ 4000000 := fun j => by have h1 := outO_len (pairsO l) j; have h2 := pairsO_len l; omega
        have holI := hol i; have holP := hol pa; obtain ⟨rI, hrIe⟩ : ∃ r, r = outO (pairsO l) i := ⟨_, rfl⟩
        obtain ⟨rP, hrPe⟩ : ∃ r, r = outO (pairsO l) pa := ⟨_, rfl⟩
        rw [← hrIe] at hst hrI holI; rw [← hrPe] at hst hrP holP; have hrP1 : ((rowsO Q.length l).set i (rI.map vN ++ [vN pa]))[pa]? = some (rP.map vN) := by rw [List.getElem?_set, if_neg (fun h => hne h.symm)]; exact hrP
        have HR0 := Lib.hid hR0; have Hst := Lib.hid hst; have HrI := Lib.hid hrI; have HrP1 := Lib.hid hrP1; have iI1 : (i : Int) < (Q.length : Int) := by omega
        clear hfn hR0 hst hrI hrP hrP1 hrIe hrPe hol Hrow0 HJH; have hsz0 := HR0.out.lt _ HR0.out.mem; obtain ⟨vals, hO, hap⟩ := HR0.out.rows; have hGl := hO.outer.lt; have hjl : i < vals.length := by rw [hO.len]; exact (List.getElem?_eq_some_iff.1 HrI.out).1
        obtain ⟨uI, hu⟩ : ∃ u, vals[i]? = some u := ⟨vals[i], by simp⟩
        have hown := hO.own _ uI _ hu HrI.out; rw [List.length_map] at hown; have hcJ : wH.cell? ⟨w.heap.size + 1 + 1, i, none⟩ = some uI := by rw [hO.outer.cell? _ hjl]; exact hu
        have hfJ := hO.outer.frozen i; have hneJ := hO.ne_outer hu; have Hu := Lib.hid hu; have HO := Lib.hid hO; have Hap := Lib.hid hap; have hnH : (∀ g, uI.ownBlock = some g → g ≠ wi.heap.size + 1) := fun g hg e => hap _ _ g hu hg (by rw [e]; simp); have Hnh := Lib.hid hnH; clear hu hO hap hnH; refine regionT (fun w' => w'.cell? ⟨w.heap.size + 1 + 1, i, none⟩ = some uI ∧ w'.frozen? ⟨w.heap.size + 1 + 1, i, none⟩ = false ∧ w'.cell? ⟨wi.heap.size + 1, 0, none⟩ = some (.int .i64 (pa : Nat))) 10 (by kernel_rfl) ?_; have hS : wH.drew.cell? ⟨w.heap.size + 1 + 1, i, none⟩ = some uI ∧ wH.drew.frozen? ⟨w.heap.size + 1 + 1, i, none⟩ = false ∧ wH.drew.cell? ⟨wi.heap.size + 1, 0, none⟩ = some (.int .i64 (pa : Nat)) := ⟨hcJ, hfJ, g0⟩
        refine tkT 0 ?_ rfl hS ?_ ?_ (by kernel_rfl) (fun _ _ _ h => h) (by rfl); rotate_left; (· intro wS hSw; (try dsimp only at hSw); go_simp; try with_reducible rfl); simp only [Act.put, zA, z0, z1]; refine tkT 1 ?_ rfl hS ?_ ?_ (by kernel_rfl) (fun _ _ _ h => h) (by rfl); rotate_left; (· intro wS hSw; (try dsimp only at hSw); go_simp; try with_reducible rfl); simp only [Act.put, zA, z0, z1]; refine tkT 2 ?_ rfl hS ?_ ?_ (by kernel_rfl) (fun _ _ _ h => h) (by rfl); rotate_left; (· intro wS hSw; (try dsimp only at hSw); go_simp; try with_reducible rfl); simp only [Act.put, zA, z0, z1]; refine tkT 3 ?_ rfl hS ?_ ?_ (by kernel_rfl) (fun _ _ _ h => h) (by rfl); rotate_left; (· intro wS hSw; (try dsimp only at hSw); go_simp; try with_reducible rfl); simp only [Act.put, zA, z0, z1]; refine tkT 4 ?_ rfl hS ?_ ?_ (by kernel_rfl) (fun _ _ _ h => h) (by rfl); rotate_left; (· intro wS hSw; (try dsimp only at hSw); go_simp; try with_reducible rfl); simp only [Act.put, zA, z0, z1]; refine tkT 5 ?_ rfl hS ?_ ?_ (by kernel_rfl) (fun _ _ _ h => h) (by rfl); rotate_left; (· intro wS hSw; (try dsimp only at hSw); go_simp; try with_reducible rfl); simp only [Act.put, zA, z0, z1]; refine tkT 6 ?_ rfl hS ?_ ?_ (by kernel_rfl) (fun _ _ _ h => h) (by rfl); rotate_left; (· intro wS hSw; (try dsimp only at hSw); go_simp; try with_reducible rfl); simp only [Act.put, zA, z0, z1]; refine tkT 7 ?_ rfl hS ?_ ?_ (by kernel_rfl) (fun _ _ _ h => h) (by rfl); rotate_left; (· intro wS hSw; (try dsimp only at hSw); go_simp; try with_reducible rfl); simp only [Act.put, zA, z0, z1]
        refine oneT (i := 8) rfl (by kernel_rfl) (fun K hK => ?_); go_simp; have hba := (bl_alloc wH (.cells #[.int .i64 (pa : Nat)] 3)).drew; have hS2 := And.intro (keep_cell hba hcJ) (And.intro ((hba.frozen (p := ⟨w.heap.size + 1 + 1, i, none⟩) hGl).trans hfJ) (keep_cell hba g0)); refine hK _ _ (fun _ => hS2) ?_; clear hK K hS; refine oneT (i := 9) rfl (by kernel_rfl) (fun K hK => ?_); refine step_append_row rfl (.tmp 95) (.tmp 98) 33 rfl 3 (.int .i64 0) 1 8 Tryz.underlying33 int_info rfl uI rI.length _ rfl ((hown.alloc _).drew) ⟨wH.heap.size, 0, none⟩ 1 1 [.int .i64 (pa : Nat)] rfl rfl (one_new (cell_new1 rfl)) (one_ok _ _) (by omega) (by unfold maxLen; omega) (by omega) ?_; intro g5 c5 w5 hr5 hc5 hg5 hor5; have hS3 := And.intro (grown_cell hg5 hS2.1 hneJ) (And.intro (grown_frozen hg5 (by simp; omega) hS2.2.1 hneJ) (grown_cell hg5 hS2.2.2 (fun e => Hnh.out _ e rfl))); refine hK _ _ (fun _ => hS3) ?_; clear hK K hS2; refine restartT (fun _ => True) 12 (by kernel_rfl) ?_; have hS : True := trivial; refine tkT 10 ?_ rfl hS ?_ ?_ (by kernel_rfl) (fun _ _ _ h => h) (by rfl); rotate_left; (· intro wS hSw; (try dsimp only at hSw); go_simp; try with_reducible rfl); simp only [Act.put, zA, z0, z1]; obtain ⟨k1, k2, _⟩ := hS3; refine oneT (i := 11) rfl (by kernel_rfl) (fun K hK => ?_); go_simp; refine hK _ _ (fun _ => trivial) ?_; clear hK K hS; refine doneT (by kernel_rfl) ?_ _; obtain ⟨hN, hNc1, hNc2, _⟩ := HR0.out.push HO.out Hap.out Hu.out HrI.out (o := .cells #[.int .i64 (pa : Nat)] 3) hr5 hg5 (hor5.imp (fun h => h) (fun h => by simpa using h))
        generalize w5.setCell ⟨w.heap.size + 1 + 1, i, none⟩ (.slice (some ⟨g5, 0, none⟩) (rI.length + 1) c5) = wA at hN hNc1 hNc2 ⊢; have HR1 := Lib.hid hN; have Hc1 := Lib.hid (And.intro hNc1 hNc2); clear hr5 hg5 hor5 hN hNc1 hNc2 hba hcJ hfJ hneJ k1 k2 HO Hap Hu Hnh hown hGl hjl; have g0 : wA.cell? ⟨wi.heap.size + 1, 0, none⟩ = some (.int .i64 (pa : Nat)) := (Hc1.out.1 _ (by simp) 0).symm.trans g0; have g1 : wA.cell? ⟨wi.heap.size + 1, 1, none⟩ = some (.int .i64 2) := (Hc1.out.1 _ (by simp) 1).symm.trans g1; have g2 : wA.cell? ⟨wi.heap.size + 1, 2, none⟩ = some (.int .i64 x') := (Hc1.out.1 _ (by simp) 2).symm.trans g2; have g3 : wA.cell? ⟨wi.heap.size + 1, 3, none⟩ = some (.int .i64 y') := (Hc1.out.1 _ (by simp) 3).symm.trans g3; have g4 : wA.cell? ⟨wi.heap.size + 1, 4, none⟩ = some (.int .i64 v') := (Hc1.out.1 _ (by simp) 4).symm.trans g4; have d0 : wA.cell? ⟨wi.heap.size, 0, none⟩ = some (.int .i64 x) := (Hc1.out.1 _ (by simp) 0).symm.trans d0; have d1 : wA.cell? ⟨wi.heap.size, 1, none⟩ = some (.int .i64 y) := (Hc1.out.1 _ (by simp) 1).symm.trans d1; have d2 : wA.cell? ⟨wi.heap.size, 2, none⟩ = some (.int .i64 v) := (Hc1.out.1 _ (by simp) 2).symm.trans d2; have fz : ∀ j, wA.frozen? ⟨wi.heap.size + 1, j, none⟩ = false := fun j => (Hc1.out.2 _ (by simp) j).symm.trans (fz j); go_wp2_with fail; have hsz1 := HR1.out.lt _ HR1.out.mem; have iI2 : (pa : Int) < (Q.length : Int) := by omega
        obtain ⟨vals, hO, hap⟩ := HR1.out.rows; have hGl := hO.outer.lt; have hjl : pa < vals.length := by rw [hO.len]; exact (List.getElem?_eq_some_iff.1 HrP1.out).1
        obtain ⟨uP, hu⟩ : ∃ u, vals[pa]? = some u := ⟨vals[pa], by simp⟩
        have hown := hO.own _ uP _ hu HrP1.out; rw [List.length_map] at hown; have hcJ : wA.cell? ⟨w.heap.size + 1 + 1, pa, none⟩ = some uP := by rw [hO.outer.cell? _ hjl]; exact hu
        have hfJ := hO.outer.frozen pa; have hneJ := hO.ne_outer hu; have Hu := Lib.hid hu; have HO := Lib.hid hO; have Hap := Lib.hid hap; have hnH : (∀ g, uP.ownBlock = some g → g ≠ wi.heap.size + 1) := fun g hg e => hap _ _ g hu hg (by rw [e]; simp); have Hnh := Lib.hid hnH; clear hu hO hap hnH; refine regionT (fun w' => w'.cell? ⟨w.heap.size + 1 + 1, pa, none⟩ = some uP ∧ w'.frozen? ⟨w.heap.size + 1 + 1, pa, none⟩ = false ∧ w'.cell? ⟨wi.heap.size + 1, 0, none⟩ = some (.int .i64 (pa : Nat))) 11 (by kernel_rfl) ?_; have hS : wA.drew.cell? ⟨w.heap.size + 1 + 1, pa, none⟩ = some uP ∧ wA.drew.frozen? ⟨w.heap.size + 1 + 1, pa, none⟩ = false ∧ wA.drew.cell? ⟨wi.heap.size + 1, 0, none⟩ = some (.int .i64 (pa : Nat)) := ⟨hcJ, hfJ, g0⟩
        refine tkT 0 ?_ rfl hS ?_ ?_ (by kernel_rfl) (fun _ _ _ h => h) (by rfl); rotate_left; (· intro wS hSw; (try dsimp only at hSw); go_simp; try with_reducible rfl); simp only [Act.put, zA, z0, z1]; refine tkT 1 ?_ rfl hS ?_ ?_ (by kernel_rfl) (fun _ _ _ h => h) (by rfl); rotate_left; (· intro wS hSw; (try dsimp only at hSw); go_simp; try with_reducible rfl); simp only [Act.put, zA, z0, z1]; refine tkT 2 ?_ rfl hS ?_ ?_ (by kernel_rfl) (fun _ _ _ h => h) (by rfl); rotate_left; (· intro wS hSw; (try dsimp only at hSw); go_simp; try with_reducible rfl); simp only [Act.put, zA, z0, z1]; refine tkT 3 ?_ rfl hS ?_ ?_ (by kernel_rfl) (fun _ _ _ h => h) (by rfl); rotate_left; (· intro wS hSw; (try dsimp only at hSw); go_simp; try with_reducible rfl); simp only [Act.put, zA, z0, z1]; refine tkT 4 ?_ rfl hS ?_ ?_ (by kernel_rfl) (fun _ _ _ h => h) (by rfl); rotate_left; (· intro wS hSw; (try dsimp only at hSw); go_simp; try with_reducible rfl); simp only [Act.put, zA, z0, z1]; refine tkT 5 ?_ rfl hS ?_ ?_ (by kernel_rfl) (fun _ _ _ h => h) (by rfl); rotate_left; (· intro wS hSw; (try dsimp only at hSw); go_simp; try with_reducible rfl); simp only [Act.put, zA, z0, z1]; refine tkT 6 ?_ rfl hS ?_ ?_ (by kernel_rfl) (fun _ _ _ h => h) (by rfl); rotate_left; (· intro wS hSw; (try dsimp only at hSw); go_simp; try with_reducible rfl); simp only [Act.put, zA, z0, z1]; refine tkT 7 ?_ rfl hS ?_ ?_ (by kernel_rfl) (fun _ _ _ h => h) (by rfl); rotate_left; (· intro wS hSw; (try dsimp only at hSw); go_simp; try with_reducible rfl); simp only [Act.put, zA, z0, z1]
        refine tkT 8 ?_ rfl hS ?_ ?_ (by kernel_rfl) (fun _ _ _ h => h) (by rfl); rotate_left; (· intro wS hSw; (try dsimp only at hSw); go_simp; try with_reducible rfl); simp only [Act.put, zA, z0, z1]; refine oneT (i := 9) rfl (by kernel_rfl) (fun K hK => ?_); go_simp; have hba := (bl_alloc wA (.cells #[.int .i64 (i : Nat)] 3)).drew; have hS2 := And.intro (keep_cell hba hcJ) (And.intro ((hba.frozen (p := ⟨w.heap.size + 1 + 1, pa, none⟩) hGl).trans hfJ) (keep_cell hba g0)); refine hK _ _ (fun _ => hS2) ?_; clear hK K hS; refine oneT (i := 10) rfl (by kernel_rfl) (fun K hK => ?_); refine step_append_row rfl (.tmp 108) (.tmp 110) 33 rfl 3 (.int .i64 0) 1 8 Tryz.underlying33 int_info rfl uP rP.length _ rfl ((hown.alloc _).drew) ⟨wA.heap.size, 0, none⟩ 1 1 [.int .i64 (i : Nat)] rfl rfl (one_new (cell_new1 rfl)) (one_ok _ _) (by omega) (by unfold maxLen; omega) (by omega) ?_; intro g5 c5 w5 hr5 hc5 hg5 hor5; have hS3 := And.intro (grown_cell hg5 hS2.1 hneJ) (And.intro (grown_frozen hg5 (by simp; omega) hS2.2.1 hneJ) (grown_cell hg5 hS2.2.2 (fun e => Hnh.out _ e rfl))); refine hK _ _ (fun _ => hS3) ?_; clear hK K hS2; refine restartT (fun _ => True) 13 (by kernel_rfl) ?_; have hS : True := trivial; refine tkT 11 ?_ rfl hS ?_ ?_ (by kernel_rfl) (fun _ _ _ h => h) (by rfl); rotate_left; (· intro wS hSw; (try dsimp only at hSw); go_simp; try with_reducible rfl); simp only [Act.put, zA, z0, z1]; obtain ⟨k1, k2, _⟩ := hS3; refine oneT (i := 12) rfl (by kernel_rfl) (fun K hK => ?_); go_simp; refine hK _ _ (fun _ => trivial) ?_
        clear hK K hS; refine doneT (by kernel_rfl) ?_ _; obtain ⟨hN, hNc1, hNc2, _⟩ := HR1.out.push HO.out Hap.out Hu.out HrP1.out (o := .cells #[.int .i64 (i : Nat)] 3) hr5 hg5 (hor5.imp (fun h => h) (fun h => by simpa using h)); generalize w5.setCell ⟨w.heap.size + 1 + 1, pa, none⟩ (.slice (some ⟨g5, 0, none⟩) (rP.length + 1) c5) = wB at hN hNc1 hNc2 ⊢; have HR2 := Lib.hid hN; have Hc2 := Lib.hid (And.intro hNc1 hNc2); clear hr5 hg5 hor5 hN hNc1 hNc2 hba hcJ hfJ hneJ k1 k2 HO Hap Hu Hnh hown hGl hjl; have g0 : wB.cell? ⟨wi.heap.size + 1, 0, none⟩ = some (.int .i64 (pa : Nat)) := (Hc2.out.1 _ (by simp) 0).symm.trans g0; have g1 : wB.cell? ⟨wi.heap.size + 1, 1, none⟩ = some (.int .i64 2) := (Hc2.out.1 _ (by simp) 1).symm.trans g1; have g2 : wB.cell? ⟨wi.heap.size + 1, 2, none⟩ = some (.int .i64 x') := (Hc2.out.1 _ (by simp) 2).symm.trans g2; have g3 : wB.cell? ⟨wi.heap.size + 1, 3, none⟩ = some (.int .i64 y') := (Hc2.out.1 _ (by simp) 3).symm.trans g3; have g4 : wB.cell? ⟨wi.heap.size + 1, 4, none⟩ = some (.int .i64 v') := (Hc2.out.1 _ (by simp) 4).symm.trans g4; have d0 : wB.cell? ⟨wi.heap.size, 0, none⟩ = some (.int .i64 x) := (Hc2.out.1 _ (by simp) 0).symm.trans d0; have d1 : wB.cell? ⟨wi.heap.size, 1, none⟩ = some (.int .i64 y) := (Hc2.out.1 _ (by simp) 1).symm.trans d1; have d2 : wB.cell? ⟨wi.heap.size, 2, none⟩ = some (.int .i64 v) := (Hc2.out.1 _ (by simp) 2).symm.trans d2; have fz : ∀ j, wB.frozen? ⟨wi.heap.size + 1, j, none⟩ = false := fun j => (Hc2.out.2 _ (by simp) j).symm.trans (fz j)
        have hrw : RowsA w wB Q (l ++ [(i, (x, y, v))]) [wi.heap.size + 1, B8] := by
         have h9 := HR2.out.rows; rw [Hst.out] at h9; exact RowsA.sub (bs := [wi.heap.size + 1, wi.heap.size, B8]) h9 (by simp)
        have Hrw := Lib.hid hrw; have hsz2 := HR2.out.lt (wi.heap.size + 1) (by simp); clear hrw; go_wp2_with fail; refine regionT (fun w' => w'.cell? ⟨wi.heap.size, 0, none⟩ = some (.int .i64 x) ∧ w'.cell? ⟨wi.heap.size, 1, none⟩ = some (.int .i64 y) ∧ w'.cell? ⟨wi.heap.size, 2, none⟩ = some (.int .i64 v)) 4 (by kernel_rfl) ?_; have hS : wB.drew.cell? ⟨wi.heap.size, 0, none⟩ = some (.int .i64 x) ∧ wB.drew.cell? ⟨wi.heap.size, 1, none⟩ = some (.int .i64 y) ∧ wB.drew.cell? ⟨wi.heap.size, 2, none⟩ = some (.int .i64 v) := ⟨d0, d1, d2⟩
        refine tkT 0 ?_ rfl hS ?_ ?_ (by kernel_rfl) (fun _ _ _ h => h) (by rfl); rotate_left; (· intro wS hSw; (try dsimp only at hSw); go_simp; try with_reducible rfl); simp only [Act.put, zA, z0, z1]; refine tkT 1 ?_ rfl hS ?_ ?_ (by kernel_rfl) (fun _ _ _ h => h) (by rfl); rotate_left; (· intro wS hSw; (try dsimp only at hSw); go_simp; try with_reducible rfl); simp only [Act.put, zA, z0, z1]; refine tkT 2 ?_ rfl hS ?_ ?_ (by kernel_rfl) (fun _ _ _ h => h) (by rfl); rotate_left; (· intro wS hSw; (try dsimp only at hSw); go_simp; try with_reducible rfl); simp only [Act.put, zA, z0, z1]; refine oneT (i := 3) rfl (by kernel_rfl) (fun K hK => ?_); go_simp; refine hK _ _ (fun _ => ⟨(World.cell?_setCell_far _ _ _ _ (by simp)).trans d0, (World.cell?_setCell_far _ _ _ _ (by simp)).trans d1, (World.cell?_setCell_far _ _ _ _ (by simp)).trans d2⟩) ?_; clear hK K hS; refine restartT (fun _ => True) 6 (by kernel_rfl) ?_; have hS : True := trivial; refine tkT 4 ?_ rfl hS ?_ ?_ (by kernel_rfl) (fun _ _ _ h => h) (by rfl); rotate_left; (· intro wS hSw; (try dsimp only at hSw); go_simp; try with_reducible rfl); simp only [Act.put, zA, z0, z1]; refine oneT (i := 5) rfl (by kernel_rfl) (fun K hK => ?_); go_simp; refine hK _ _ (fun _ => trivial) ?_; clear hK K hS; refine doneT (by kernel_rfl) ?_ _; have hgT : wB.grownBy (((((wB.setCell ⟨wi.heap.size + 1, 0, none⟩ (.int .i64 i)).setCell ⟨wi.heap.size + 1, 2, none⟩ (.int .i64 x)).setCell ⟨wi.heap.size + 1, 3, none⟩ (.int .i64 y)).setCell ⟨wi.heap.size + 1, 4, none⟩ (.int .i64 v)).drew) (some (wi.heap.size + 1)) :=
         have h := grB_trans (grB_trans (grB_trans (grownBy_setCell wB ⟨wi.heap.size + 1, 0, none⟩ (.int .i64 i)) (grownBy_setCell _ ⟨wi.heap.size + 1, 2, none⟩ (.int .i64 x))) (grownBy_setCell _ ⟨wi.heap.size + 1, 3, none⟩ (.int .i64 y))) (grownBy_setCell _ ⟨wi.heap.size + 1, 4, none⟩ (.int .i64 v))
         ⟨h.os, h.tape, h.output, h.size, h.block⟩
        have HgT := Lib.hid hgT; have hHT : HeldM (((((wB.setCell ⟨wi.heap.size + 1, 0, none⟩ (.int .i64 i)).setCell ⟨wi.heap.size + 1, 2, none⟩ (.int .i64 x)).setCell ⟨wi.heap.size + 1, 3, none⟩ (.int .i64 y)).setCell ⟨wi.heap.size + 1, 4, none⟩ (.int .i64 v)).drew) w.heap.size l := MG.grown HR2.out.held hgT (fun e => by have := Option.some.inj e; omega); have HHT := Lib.hid hHT; have hnl := nums_le l; clear hgT hHT; go_wp2_with (at_mapUpdate; refine wpList_put_MG rfl _ _ _ _ rfl HHT.out mapLawZ Tryz.underlying120 rfl rfl rfl hvk (by omega) ?_; intro w9 hm9 hg9)
        have hJ9 : BesJ w w9 Q (l ++ [(i, (x, y, v))]) B8 kd := bes_tail (bh := wi.heap.size + 1) hv Hwf.out.2.2 Hfn.out HR2.out.held HR2.out.own Hrw.out HR2.out.bel HR2.out.kind (by omega) (by omega) HgT.out hg9 (by
         have e : (atV v l).length + 1 = 2 := by rw [Hat.out]; rfl
         simp only; rw [e]
         exact hm9)
        rw [← Hpre.out] at hJ9; have HJ9 := Lib.hid hJ9; clear hm9 hg9 hJ9; go_roundg (gk - 1)
        case measure => have := Hk.out; omega
        case rel => exact ⟨k + 1, by have := Hk.out; omega, by go_num, HJ9.out⟩
      | [_, (pa, (x', y', v'))] =>
       rw [heldF_two hat] at hlk; have hlk' : (Instr.lookup 120 (.map (some w.heap.size)) (.int .i64 v) false).run Tryz.prog (wi.alloc (.cells #[.int .i64 x, .int .i64 y, .int .i64 v] 38)) = .ok (.agg #[.int .i64 (pa : Nat), .int .i64 2, .int .i64 x', .int .i64 y', .int .i64 v']) (wi.alloc (.cells #[.int .i64 x, .int .i64 y, .int .i64 v] 38)) := hlk
       have hbad : ¬ besideP Q := bes_no (i := i) (k := k + 1) (by omega) (by
        rw [Hpre.out, fineP_virt hv, hat]
        exact fun h => by have := h.2; simp [pairB] at this)
       have Hbad := Lib.hid hbad; clear hlk hpb hfine hat hbad; go_upto_region 17 with (fail)
       have hbH := bl_alloc (wi.alloc (.cells #[.int .i64 x, .int .i64 y, .int .i64 v] 38)) (.cells #[.int .i64 (pa : Nat), .int .i64 3, .int .i64 x', .int .i64 y', .int .i64 v'] 123); have hJH := HJ10.out.grown hbH; have g0 : ((wi.alloc (.cells #[.int .i64 x, .int .i64 y, .int .i64 v] 38)).alloc (.cells #[.int .i64 (pa : Nat), .int .i64 3, .int .i64 x', .int .i64 y', .int .i64 v'] 123)).cell? ⟨wi.heap.size + 1, 0, none⟩ = some (.int .i64 (pa : Nat)) := by simp
       have g1 : ((wi.alloc (.cells #[.int .i64 x, .int .i64 y, .int .i64 v] 38)).alloc (.cells #[.int .i64 (pa : Nat), .int .i64 3, .int .i64 x', .int .i64 y', .int .i64 v'] 123)).cell? ⟨wi.heap.size + 1, 1, none⟩ = some (.int .i64 3) := by simp
       have g2 : ((wi.alloc (.cells #[.int .i64 x, .int .i64 y, .int .i64 v] 38)).alloc (.cells #[.int .i64 (pa : Nat), .int .i64 3, .int .i64 x', .int .i64 y', .int .i64 v'] 123)).cell? ⟨wi.heap.size + 1, 2, none⟩ = some (.int .i64 x') := by simp
       have g3 : ((wi.alloc (.cells #[.int .i64 x, .int .i64 y, .int .i64 v] 38)).alloc (.cells #[.int .i64 (pa : Nat), .int .i64 3, .int .i64 x', .int .i64 y', .int .i64 v'] 123)).cell? ⟨wi.heap.size + 1, 3, none⟩ = some (.int .i64 y') := by simp
       have g4 : ((wi.alloc (.cells #[.int .i64 x, .int .i64 y, .int .i64 v] 38)).alloc (.cells #[.int .i64 (pa : Nat), .int .i64 3, .int .i64 x', .int .i64 y', .int .i64 v'] 123)).cell? ⟨wi.heap.size + 1, 4, none⟩ = some (.int .i64 v') := by simp
       have d0 := keep_cell hbH d0; have d1 := keep_cell hbH d1; have d2 := keep_cell hbH d2; have fz : ∀ j, ((wi.alloc (.cells #[.int .i64 x, .int .i64 y, .int .i64 v] 38)).alloc (.cells #[.int .i64 (pa : Nat), .int .i64 3, .int .i64 x', .int .i64 y', .int .i64 v'] 123)).frozen? ⟨wi.heap.size + 1, j, none⟩ = false := fun j => by simp
       have HJH := Lib.hid hJH; have hrow0 : RowsA w ((wi.alloc (.cells #[.int .i64 x, .int .i64 y, .int .i64 v] 38)).alloc (.cells #[.int .i64 (pa : Nat), .int .i64 3, .int .i64 x', .int .i64 y', .int .i64 v'] 123)) Q l [wi.heap.size + 1, wi.heap.size, B8] := by
        have := HRow10.out.more (.cells #[.int .i64 (pa : Nat), .int .i64 3, .int .i64 x', .int .i64 y', .int .i64 v'] 123); simpa using this
       have Hrow0 := Lib.hid hrow0; have hszH : wi.heap.size + 2 ≤ ((wi.alloc (.cells #[.int .i64 x, .int .i64 y, .int .i64 v] 38)).alloc (.cells #[.int .i64 (pa : Nat), .int .i64 3, .int .i64 x', .int .i64 y', .int .i64 v'] 123)).heap.size := by simp
       clear hJH hbH hlk' hrow0; generalize ((wi.alloc (.cells #[.int .i64 x, .int .i64 y, .int .i64 v] 38)).alloc (.cells #[.int .i64 (pa : Nat), .int .i64 3, .int .i64 x', .int .i64 y', .int .i64 v'] 123)) = wH at *
       have hBH := HJH.out.bel; go_wp2_with fail; go_quiet (fail)
       go_wp2_with fail; go_ret2; exact ⟨below_drewN hBH _, .inr ⟨Hbad.out, rfl⟩⟩
      | _ :: _ :: _ :: _ =>
       rw [hat] at hpb; simp [pairB] at hpb
    ·
     have hkn : k = ls.length := by omega
     subst hkn; have hrow : preQ Q i ls.length = preQ Q (i + 1) 0 := by
      have := preQ_row Q i; rw [Hln.out] at this; rw [this, preQ_zero]
     have hI2 := hJ.toI; rw [hrow] at hI2; have HI2 := Lib.hid hI2; clear hk hrow hI2 hJ; go_wp2_with fail; go_roundg (Q.length - (i + 1))
     case measure => have := Hi.out; omega
     case rel => exact ⟨i + 1, by omega, by go_num, HI2.out⟩
  ·
   have hin : i = Q.length := by omega
   subst hin; rw [preQ_zero] at hI; have hI : BesI w wr Q (allQ Q) := hI; clear hi Hi; have hheld := hI.held; obtain ⟨D, hown, hD1, hD2, hD3, hD4⟩ := hheld; have HD3 := Lib.hid hD3; have HD4 := Lib.hid hD4; have HI := Lib.hid hI; have hwr := hI.sz; clear hD1 hD2 hD3 hD4 hI; obtain ⟨wE, rfl⟩ : ∃ x, x = wr := ⟨_, rfl⟩
   go_upto_region 26 with (at_range; refine wpList_range_own _ rfl _ 120 rfl 3 123 mapLawZ Tryz.underlying120 _ w.heap.size _ D rfl hown ?_; intro w5 hrg5 hg5 hs5)
   have hb5 : Below wE.heap.size wE w5 := (bl_refl wE).grown hg5 (Nat.le_refl _) (fun j hj => by cases hj); have hall : ∀ v, v ≠ 0 → heldF (allQ Q) v = none ∨ ∃ r, heldF (allQ Q) v = some r ∧ r.2.1 = (atV v (allQ Q)).length := fun v _ => by
    unfold heldF; cases h : (atV v (allQ Q)).getLast? with
    | none => exact .inl rfl
    | some p => exact .inr ⟨_, rfl, rfl⟩
   have Hall := Lib.hid hall; clear hall; go_frame; go_loopg [] (Maps.size D) (fun r wj => ∃ left, wj.ranges Tryz.prog 3 RV w.heap.size wE.heap.size (numsO (allQ Q)).length D left r ∧ (∀ v, v ≠ 0 → Maps.has D (.int .i64 v) = true → left (.int .i64 v) = false → (atV v (allQ Q)).length = 2) ∧ (∀ x, left x = true → Maps.has D x = true) ∧ Below wE.heap.size wE wj)
   case atStart => exact ⟨_, hrg5, fun v _ h1 h2 => (by rw [h1] at h2; cases h2), fun l hl => hl, hb5⟩
   case round =>
    obtain ⟨left, hrg, hch, hle, hbj⟩ := hrel; have Hch := Lib.hid hch; have Hle := Lib.hid hle; clear hch hle; go_wp2_with (at_next; refine wpList_next_ranges (α := Int) (β := Value) _ rfl _ rfl 3 mapLawZ RV (Value.int .i64) (fun c => c) (fun key kl hk => by obtain ⟨x, rfl, _⟩ := Maps.keyOf_int_inv Tryz.underlying3 hk; exact ⟨x, rfl⟩) (fun v y _ => ⟨v, rfl⟩) _ _ _ _ _ _ rfl hrg ?_ ?_)
    ·
     intro hc0 hl0; have hboth : bothP (allQ Q) := fun v hv => by
      by_cases hm : v ∈ numsO (allQ Q)
      ·
       right; exact Hch.out v hv (by rw [HD3.out]; exact (heldL_some hv).2 hm) (hl0 _)
      ·
       left; have h1 : ¬ (heldF (allQ Q) v).isSome = true := fun h => hm ((heldF_some hv).1 h); unfold heldF at h1; cases h2 : (atV v (allQ Q)).getLast? with
       | none => rw [List.getLast?_eq_none_iff.1 h2]; rfl
       | some p => rw [h2] at h1; exact absurd rfl h1
     have Hboth := Lib.hid hboth; clear hc0 hl0 hboth hrg; have HI2 := Lib.hid (HI.out.grown hbj); have hnl : (numsO (allQ Q)).length ≤ 2000000 := by
      have h1 := nums_le (allQ Q); have h2 := Hpl.out Q.length 0 (Nat.le_refl _); rw [preQ_zero] at h2; have h3 : (preO Q Q.length).length = (allQ Q).length := rfl; omega
     have hsum : ∀ i, (outO (pairsO (allQ Q)) i).length ≤ 4000000 := fun i => by
      have h1 := outO_len (pairsO (allQ Q)) i; have h2 := pairsO_len (allQ Q); have h3 := Hpl.out Q.length 0 (Nat.le_refl _); rw [preQ_zero] at h3; have h4 : (preO Q Q.length).length = (allQ Q).length := rfl; omega
     have Hsum := Lib.hid hsum; clear hsum; have hln := MG.len HI2.out.held (t := 120) Tryz.underlying120 3; by_cases hne : (numsO (allQ Q)).length + 1 = Q.length
     ·
      have hbp : besideP Q := ⟨HI.out.fine, Hboth.out, hne⟩
      have Hbp := Lib.hid hbp; have e1 : (((numsO (allQ Q)).length : Int) + 1 != (Q.length : Int)) = false := by simp; omega
      clear hbp hne; go_wp2_with fail; obtain ⟨vals0, hO0⟩ := HI2.out.rows; have hB0 := HI2.out.bel; clear hln HI HI2 hbj hown hb5 hrg5 hg5 HD3 HD4 Hall Hch Hle; go_loopg [140] Q.length (fun r iv wj => ∃ j : Nat, j + r = Q.length ∧ iv = .int .i64 j ∧ (∃ vals, OwnRows wj (w.heap.size + 1 + 1) 33 3 Q.length vals (srtRows Q.length (allQ Q) j)) ∧ Below w.heap.size w wj)
      case atStart => exact ⟨0, by omega, rfl, ⟨vals0, by rw [srtRows_zero]; exact hO0⟩, hB0⟩
      case round =>
       clear hO0 hB0; obtain ⟨j, hj, rfl, ⟨vals, hO⟩, hB⟩ := hrel; have Hj := Lib.hid hj; by_cases hjl : j < Q.length
       ·
        clear hj; have hvl : vals.length = Q.length := by rw [hO.len]; simp [srtRows]
        have hGl := hO.outer.lt; obtain ⟨u, hu⟩ : ∃ u, vals[j]? = some u := ⟨vals[j]'(by omega), by simp⟩
        have hrA := srtRows_get (l := allQ Q) (j := j) hjl; rw [if_neg (Nat.lt_irrefl j)] at hrA; have hown := hO.own j u _ hu hrA; have hcJ : wr.cell? ⟨w.heap.size + 1 + 1, j, none⟩ = some u := by rw [hO.outer.cell? _ (by omega)]; exact hu
        have hlen := Hsum.out j; rw [List.length_map] at hown; rcases hown.2 with ⟨rfl, h0⟩ | ⟨g, cg, rfl, hcg, hrow⟩
        ·
         have hnil := List.eq_nil_of_length_eq_zero h0; have Hnil := Lib.hid hnil; have HO := Lib.hid hO; clear hrA hown h0 hnil hO hu; go_wp2_with fail; refine (Tryz.slices_Sort_int_none none 0 _).mono ?_; rintro e w' ⟨rfl, rfl⟩; go_wp2_with fail; go_roundg (gk - 1)
         case measure => have := Hj.out; omega
         case rel => exact ⟨j + 1, by have := Hj.out; omega, by go_num, ⟨vals, by rw [srtRows_none Hnil.out]; exact HO.out⟩, hB⟩
        ·
         have hyg := hO.young j _ g hu rfl; have hsrt := sort_rowN g cg _ wr hrow (by omega); have HO := Lib.hid hO; have HrA := Lib.hid hrA; have Hu := Lib.hid hu; clear hrA hown hO hu; go_wp2_with fail; refine hsrt.mono ?_; rintro e w2 ⟨rfl, hr2, hg2⟩; have hcl : vals[j]? = some (.slice (some ⟨g, 0, none⟩) ((outO (pairsO (allQ Q)) j).map vN).length cg) := by rw [List.length_map]; simpa using Hu.out
         have hO2 := ownRows_turn HO.out hcl HrA.out hr2 (by simp [srtN_len]) hg2; rw [srtRows_set hjl] at hO2; have hB2 : Below w.heap.size w w2 := hB.grown hg2 hB.size (fun k hk => by cases hk; omega); clear hsrt hcl hg2 hr2 hrow; go_wp2_with fail; go_roundg (gk - 1)
         case measure => have := Hj.out; omega
         case rel => exact ⟨j + 1, by have := Hj.out; omega, by go_num, ⟨vals, hO2⟩, hB2⟩
       ·
        have hjn : j = Q.length := by omega
        subst hjn; clear hj; rw [srtRows_all] at hO; have hG : RdG wr (w.heap.size + 1 + 1) Q.length (besQ Q) := fun v hv => by
         have hvl0 : vals.length = Q.length := by rw [hO.len]; simp
         obtain ⟨u, hu⟩ : ∃ u, vals[v]? = some u := ⟨vals[v]'(by omega), by simp⟩
         have hrA : ((List.range Q.length).map fun k => (besQ Q k).map vN)[v]? = some ((besQ Q v).map vN) := by simp [hv]
         have hown := hO.own v u _ hu hrA; have hc : wr.cell? ⟨w.heap.size + 1 + 1, v, none⟩ = some u := by rw [hO.outer.cell? v (by omega)]; exact hu
         rcases hown.2 with ⟨rfl, h0⟩ | ⟨g, c', rfl, _, hrow⟩
         ·
          rw [List.length_map] at h0; have hnil := List.eq_nil_of_length_eq_zero h0; exact ⟨none, 0, by rw [hc, hnil]; rfl, by rw [hnil]; intro i u hu; simp at hu⟩
         ·
          rw [List.length_map] at hc; exact ⟨some ⟨g, 0, none⟩, c', hc, hrow.at_⟩
        clear hO Hj; go_wp2_with fail; go_ret2; exact ⟨hB, .inl ⟨Hbp.out, _, rfl, hG⟩⟩
     ·
      have hbad : ¬ besideP Q := fun h => hne h.2.2; have Hbad := Lib.hid hbad; have e1 : (((numsO (allQ Q)).length : Int) + 1 != (Q.length : Int)) = true := by simp; omega
      clear hbad hne; go_wp2_with fail; go_ret2; exact ⟨bl_trans HI.out.bel hbj, .inr ⟨Hbad.out, rfl⟩⟩
    ·
     intro x cv kl yd yp w6 cnt6 hkx hlx hRy hat hrg6 hlt6 hg6 hs6 hen; obtain ⟨x2, hx2, hkl, _⟩ := Maps.keyOf_int_inv Tryz.underlying3 hkx; cases hx2; subst hkl; have hh := Hle.out _ hlx; rw [HD3.out] at hh; obtain ⟨cw, hcw⟩ := Option.isSome_iff_exists.1 hh; have hx0 : x ≠ 0 := fun h => by rw [h] at hcw; simp [heldL] at hcw
     have hcw2 := hcw; rw [heldL_at hx0] at hcw2; obtain ⟨⟨pa, tm, x', y', v'⟩, hr1, hr2⟩ := Option.map_eq_some_iff.1 hcw2; have h4 := HD4.out _ _ hcw yd; rw [hat] at h4; have hcv : cv = hVal (pa, tm, x', y', v') := by
      rw [hr2]; unfold RV at hRy; simp only [Option.some.injEq, Prod.mk.injEq] at hRy; rw [h4] at hRy; injection hRy.1
     have htm : tm = (atV x (allQ Q)).length := by
      unfold heldF at hr1; cases h : (atV x (allQ Q)).getLast? with
      | none => rw [h] at hr1; cases hr1
      | some p =>
       rw [h] at hr1; have := Option.some.inj hr1; exact (congrArg (fun r => r.2.1) this).symm
     have htp : tm ≠ 0 := fun h0 => by
      rw [h0] at htm; have h := List.eq_nil_of_length_eq_zero htm.symm; unfold heldF at hr1; rw [h] at hr1; cases hr1
     have Htp := Lib.hid htp; clear htp; subst hcv; have hb6 := hbj.grown hg6 (by have := hbj.size; omega) (fun j hj => by cases hj; exact Nat.le_refl _); have htl : (atV x (allQ Q)).length ≤ 2 := pairB_len (HI.out.fine.2 x hx0); have Htm := Lib.hid htm; have Hx0 := Lib.hid hx0; have hent : (Instr.entry (.pointer (some ⟨wE.heap.size, 0, none⟩))).run Tryz.prog w6 = .ok (.tuple #[.int .i64 x, .agg #[.int .i64 (pa : Nat), .int .i64 (tm : Nat), .int .i64 x', .int .i64 y', .int .i64 v']]) w6 := hen; have htm2 : tm ≤ 2 := by omega
     clear hcw hcw2 hr1 hr2 h4 hat hlx hkx hh hRy htl htm hx0 hen; have hbl := bl_alloc w6 (.cells #[.int .i64 (pa : Nat), .int .i64 (tm : Nat), .int .i64 x', .int .i64 y', .int .i64 v'] 123); have hb7 := bl_trans hb6 hbl; have d1 : (w6.alloc (.cells #[.int .i64 (pa : Nat), .int .i64 (tm : Nat), .int .i64 x', .int .i64 y', .int .i64 v'] 123)).cell? ⟨w6.heap.size, 1, none⟩ = some (.int .i64 (tm : Nat)) := by simp
     have hrg7 : (w6.alloc (.cells #[.int .i64 (pa : Nat), .int .i64 (tm : Nat), .int .i64 x', .int .i64 y', .int .i64 v'] 123)).ranges Tryz.prog 3 RV w.heap.size wE.heap.size (numsO (allQ Q)).length D (fun z => left z && !z.sameKey (.int .i64 x)) cnt6 := hrg6.alloc _; by_cases hc2 : tm = 2
     ·
      subst hc2; go_wp2_with fail; go_roundg cnt6
      case measure => omega
      case rel =>
       refine ⟨_, hrg7, fun v hv h1 h2 => ?_, fun z hz => ?_, hb7⟩
       ·
        by_cases he : left (.int .i64 v) = true
        ·
         simp only [he, Bool.true_and, Bool.not_eq_false'] at h2; simp [Lit.sameKey] at h2; subst h2; exact Htm.out.symm
        · exact Hch.out v hv h1 (by simpa using he)
       ·
        simp only [Bool.and_eq_true] at hz; exact Hle.out z hz.1
     ·
      have hne : ((tm : Int) != 2) = true := by
       simp; omega
      have hbad : ¬ besideP Q := fun h => by
       rcases h.2.1 x Hx0.out with h1 | h1
       ·
        rw [← Htm.out] at h1; exact Htp.out h1
       · exact hc2 (Htm.out.trans h1)
      have Hbad := Lib.hid hbad; clear hbad hc2; go_wp2_with fail; go_ret2; exact ⟨bl_trans HI.out.bel hb7, .inr ⟨Hbad.out, rfl⟩⟩
end Go.Proofs.YtagcbnpahgfgmaaGreat
namespace Go.Proofs.YtagcbnpahgfgmaaGreat
open Go Go.RowKit Go.Maps
def RetAl (w : World) (Q : List Pt) (e : Ending) (w' : World) : Prop :=
 Below w.heap.size w w' ∧ ((∃ (i j : Nat) (v : Int), i < Q.length ∧ j < Q.length ∧ alikeP Q i j v ∧ e = .returned (.tuple #[.int .i64 i, .int .i64 j, .int .i64 v])) ∨ (clearP Q (allQ Q) ∧ e = .returned (.tuple #[.int .i64 0, .int .i64 0, .int .i64 0])))
def hF (Q : List Pt) (l : List Oc) : Int → Option Int := fun v => (lastO Q l v).map fun p => (p.1 : Int)
theorem hF_nil (Q : List Pt) : hF Q [] = fun _ => none := by funext v; simp [hF, lastO, colO, atV]
theorem hF_no {Q : List Pt} {l : List Oc} {p : Oc} (h : mayO Q p = false) : hF Q (l ++ [p]) = hF Q l := by funext v; unfold hF; rw [lastO_no h]
theorem hF_yes {Q : List Pt} {l : List Oc} {p : Oc} (h : mayO Q p = true) : updF (hF Q l) p.2.2.2 (p.1 : Int) = hF Q (l ++ [p]) := by
 funext v
 unfold updF hF
 rw [lastO_yes h]
 by_cases hv : v = p.2.2.2
 · rw [if_pos hv, if_pos hv]; rfl
 · rw [if_neg hv, if_neg hv]
theorem colO_row {Q : List Pt} {i : Nat} (h : kdQ Q i = 3) : colO Q (preQ Q (i + 1) 0) = colO Q (preQ Q i 0) := by
 rw [preQ_zero, preQ_zero, preO_succ]
 unfold colO
 rw [List.filter_append]
 have : (rowO Q i).filter (mayO Q) = [] := by
  rw [List.filter_eq_nil_iff]
  intro p hp
  unfold rowO at hp
  obtain ⟨e, _, rfl⟩ := List.mem_map.1 hp
  unfold mayO
  simp [h]
 rw [this, List.append_nil]
structure AlI (w wj : World) (Q : List Pt) (l : List Oc) : Prop where
 mz : ∃ c, MZ wj w.heap.size c (hF Q l) ∧ c ≤ l.length
 clr : clearP Q l
 bel : Below w.heap.size w wj
theorem AlI.grown {w wj w' : World} {Q : List Pt} {l : List Oc} (h : AlI w wj Q l) (hb : Below wj.heap.size wj w') : AlI w w' Q l := by
 obtain ⟨c, h1, h2⟩ := h.mz
 exact ⟨⟨c, h1.below hb, h2⟩, h.clr, bl_trans h.bel hb⟩
theorem lastO_mem {Q : List Pt} {l : List Oc} {v : Int} {p : Oc} (h : lastO Q l v = some p) : p ∈ l := by
 have h1 : p ∈ atV v (colO Q l) := List.mem_of_getLast? h
 exact (List.mem_filter.1 (mem_atV.1 h1).1).1
end Go.Proofs.YtagcbnpahgfgmaaGreat
namespace Go.Proofs.YtagcbnpahgfgmaaGreat
open Go Go.RowKit Go.Maps
set_option maxRecDepth 100000 in
set_option maxHeartbeats 4000000 in
theorem alike_walk (a : Option Addr) (cap : Nat) (Q : List Pt) (w : World) (hr : RdQ w a Q) (hQ : Q.length ≤ 1000) (hR : ∀ q ∈ Q, RightL q.2) :
  Calls Tryz.prog 72 #[.slice a Q.length cap] w (RetAl w Q) := by
 have hpl := fun i k hi => allQ_len hQ (fun q hq => (hR q hq).1) i k hi
 have Hpl := Lib.hid hpl
 clear hpl
 have hm1 := fun w => run_makeMapN 35 _ _ Tryz.underlying35 w
 go_enter Tryz.func72, Tryz.ntmps72
 go_wp2_with fail
 clear hm1
 have hI0 : AlI w (w.alloc (.map #[] 0)) Q (preQ Q 0 0) := by
  have e0 : preQ Q 0 0 = [] := by simp [preQ, preO]
  rw [e0]
  exact ⟨⟨0, by rw [hF_nil]; exact MZ.made w, Nat.le_refl _⟩, clear_nil Q, bl_alloc w _⟩
 generalize w.alloc (.map #[] 0) = w1 at hI0 ⊢
 go_loopg [15] Q.length (fun r iv wj => ∃ i : Nat, i + r = Q.length ∧ iv = .int .i64 i ∧ AlI w wj Q (preQ Q i 0))
 case atStart => exact ⟨0, by omega, rfl, hI0⟩
 case round =>
  clear hI0
  obtain ⟨i, hi, rfl, hI⟩ := hrel
  have Hi := Lib.hid hi
  by_cases hil : i < Q.length
  ·
   clear hi; have hqi : Q[i]? = some Q[i] := List.getElem?_eq_getElem hil; have hRq := hR _ (List.getElem_mem hil); have hln := lnQ_at hil; have hkd := kdQ_at hil; obtain ⟨bp, op, au, cu, rfl, p0w, p1w, hrq, hcu, hcm⟩ := hr i _ hqi; obtain ⟨⟨kd, ls⟩, hq⟩ : ∃ q : Pt, Q[i] = q := ⟨_, rfl⟩
   rw [hq] at p0w p1w hrq hcu hRq hln hkd; simp only at p0w p1w hrq hcu hRq hln hkd; have hlsl := hRq.1; have p0 := keep_cell hI.bel p0w; have p1 := keep_cell hI.bel p1w; have iI : (i : Int) < (Q.length : Int) := by omega
   have Hln := Lib.hid hln; have Hkd := Lib.hid hkd; have HRq := Lib.hid hRq; clear hln hkd hRq hq hqi; have hbl := bl_alloc wr (.cells #[.int .i64 kd, .slice au ls.length cu] 49); have d0 : (wr.alloc (.cells #[.int .i64 kd, .slice au ls.length cu] 49)).cell? ⟨wr.heap.size, 0, none⟩ = some (.int .i64 kd) := by simp
   have d1 : (wr.alloc (.cells #[.int .i64 kd, .slice au ls.length cu] 49)).cell? ⟨wr.heap.size, 1, none⟩ = some (.slice au ls.length cu) := by simp
   have hIa := hI.grown hbl; have hw8 : w.heap.size < wr.heap.size := by obtain ⟨c, h1, _⟩ := hI.mz; exact h1.lt
   by_cases hk3 : kd = 3
   ·
    subst hk3; have hcol := colO_row Hkd.out; have hIn : AlI w (wr.alloc (.cells #[.int .i64 3, .slice au ls.length cu] 49)) Q (preQ Q (i + 1) 0) := by
     obtain ⟨⟨c, h1, h2⟩, h3, h4⟩ := hIa; refine ⟨⟨c, ?_, ?_⟩, ?_, h4⟩
     · unfold hF lastO at h1 ⊢; rw [hcol]; exact h1
     ·
      rw [preQ_zero] at h2 ⊢; rw [preO_succ, List.length_append]; omega
     · unfold clearP at h3 ⊢; rw [hcol]; exact h3
    clear hI hIa hcol; go_wp2_with fail; go_roundg (gk - 1)
    case measure => have := Hi.out; omega
    case rel => exact ⟨i + 1, by have := Hi.out; omega, by go_num, hIn⟩
   ·
    have e3 : (kd == 3) = false := beq_eq_false_iff_ne.2 hk3; have Hk3 := Lib.hid hk3; clear hk3 hI; obtain ⟨gko, hgko⟩ : ∃ g, g = gk := ⟨_, rfl⟩
    have Hgko := Lib.hid hgko; obtain ⟨B8, hB8⟩ : ∃ b, b = wr.heap.size := ⟨_, rfl⟩
    clear hgko; go_upto_region 7 with (fail)
    rw [← hB8] at d0 d1 hw8 ⊢; clear hB8 p0 p1 hbl; generalize (wr.alloc (.cells #[.int .i64 kd, .slice au ls.length cu] 49)) = wa at *
    go_loopg [26] ls.length (fun r kv wj => ∃ k : Nat, k + r = ls.length ∧ kv = .int .i64 k ∧ AlI w wj Q (preQ Q i k) ∧ wj.cell? ⟨B8, 0, none⟩ = some (.int .i64 kd))
    case atStart => exact ⟨0, by omega, rfl, hIa, d0⟩
    case round =>
     clear hIa d0 d1; obtain ⟨k, hk, rfl, hI, d0⟩ := hrel; have Hk := Lib.hid hk; by_cases hkl : k < ls.length
     ·
      clear hk; obtain ⟨b1, o1, rfl, q0, q1, q2⟩ := (hrq.below hI.bel).at k hkl; have hpre : preQ Q i (k + 1) = preQ Q i k ++ [(i, ls[k])] := by
       have := preQ_succ Q i k (by rw [Hln.out]; exact hkl); rw [this]; congr 3; simp [Hln.out]
      have hok := HRq.out.2.1 _ (List.getElem_mem hkl); obtain ⟨⟨x, y, z⟩, hxe⟩ : ∃ u : Lk, ls[k] = u := ⟨_, rfl⟩
      rw [hxe] at q0 q1 q2 hpre hok; simp only at q0 q1 q2; have hwz : WfZ z := wfZ_of (by unfold OkL at hok; simp only at hok; omega); have i2 : (k : Int) < (ls.length : Int) := by omega
      have hll := Hpl.out i k (by omega); have hbl := bl_alloc wr (.cells #[.int .i64 x, .int .i64 y, .int .i64 z] 38); have hI2 := hI.grown hbl; have g0 := keep_cell hbl d0; obtain ⟨l, hl⟩ : ∃ l, l = preQ Q i k := ⟨_, rfl⟩
      rw [← hl] at hpre hI2 hll; have Hpre := Lib.hid hpre; clear hxe hok hl hI hpre; by_cases hz : z = 0
      ·
       subst hz; have hno : mayO Q (i, ((x, y, 0) : Lk)) = false := by simp [mayO]
       have hI3 : AlI w (wr.alloc (.cells #[.int .i64 x, .int .i64 y, .int .i64 0] 38)) Q (l ++ [(i, (x, y, 0))]) := by
        obtain ⟨⟨c, h1, h2⟩, h3, h4⟩ := hI2; exact ⟨⟨c, by rw [hF_no hno]; exact h1, by rw [List.length_append]; omega⟩, clear_no hno h3, h4⟩
       clear hno hI2 hbl; go_wp2_with fail; go_roundg (gk - 1)
       case measure => have := Hk.out; omega
       case rel => exact ⟨k + 1, by have := Hk.out; omega, by go_num, by rw [Hpre.out]; exact hI3, g0⟩
      ·
       have e1 : (z == 0) = false := beq_eq_false_iff_ne.2 hz; have hyes : mayO Q (i, ((x, y, z) : Lk)) = true := by
        unfold mayO; simp only [Hkd.out]; simp [Hk3.out, hz]
       have Hyes := Lib.hid hyes; obtain ⟨c, hmz, hcl⟩ := hI2.mz; have hlk := hmz.lookOk hwz; have HI2 := Lib.hid hI2; clear hyes hI2 hz; cases hla : lastO Q l z with
       | none =>
        have hF0 : hF Q l z = none := by unfold hF; rw [hla]; rfl
        rw [hF0] at hlk; simp only [Option.getD_none, Option.isSome_none] at hlk; have Hla := Lib.hid hla; clear hla hF0; go_wp2_with fail; go_quiet (fail)
        clear hlk; have Hm := Lib.hid (MZ.block (w' := (wr.alloc (.cells #[.int .i64 x, .int .i64 y, .int .i64 z] 38)).drewN nq) hmz rfl); go_wp2_with (at_mapUpdate; refine wpList_put_MZ rfl _ _ _ rfl Hm.out (k := z) (v := (i : Int)) rfl rfl rfl hwz (wfZ_of (by omega)) (by omega) ?_; intro w6 hm6 hg6); have hI3 : AlI w w6 Q (l ++ [(i, (x, y, z))]) := by
         have h6 := hF_yes (l := l) Hyes.out; simp only at h6; rw [h6] at hm6; exact ⟨⟨_, hm6, by rw [List.length_append, List.length_singleton]; split <;> omega⟩, clear_yes Hyes.out HI2.out.clr (fun q hq => by rw [Hla.out] at hq; cases hq), (below_drewN HI2.out.bel nq).grown hg6 (below_drewN HI2.out.bel nq).size (fun j hj => by cases hj; exact Nat.le_refl _)⟩
        have g6 := grown_cell hg6 g0 (fun e => by have := Option.some.inj e; omega); clear hm6 hg6; go_roundg (gk - 1)
        case measure => have := Hk.out; omega
        case rel => exact ⟨k + 1, by have := Hk.out; omega, by go_num, by rw [Hpre.out]; exact hI3, g6⟩
       | some p =>
        have hF0 : hF Q l z = some (p.1 : Int) := by unfold hF; rw [hla]; rfl
        rw [hF0] at hlk; simp only [Option.getD_some, Option.isSome_some] at hlk; have hpm := lastO_mem hla; have Hla := Lib.hid hla; have hpn : p.1 < Q.length := by
         have h1 : p ∈ preQ Q i (k + 1) := by rw [Hpre.out]; simp [hpm]
         obtain ⟨b, hb⟩ := preO_take Q i (k + 1) (by omega); have h2 : p ∈ allQ Q := by rw [hb]; simp [h1]
         exact lnQ_mem (mem_allQ.1 h2)
        obtain ⟨b9, o9, a9, c9, he9, pk0, _, _, _, _⟩ := hr p.1 _ (List.getElem?_eq_getElem hpn); cases he9; obtain ⟨kq, hkq⟩ : ∃ kq, kq = Q[p.1].1 := ⟨_, rfl⟩
        have hkp : kdQ Q p.1 = kq := by rw [kdQ_at hpn, hkq]
        rw [← hkq] at pk0; have Hkp := Lib.hid hkp; have pk := keep_cell HI2.out.bel pk0; have i3 : (p.1 : Int) < (Q.length : Int) := by omega
        clear hla hF0 hpm hkp hkq pk0; by_cases hkk : kq = kd
        ·
         have e2 : (kq == kd) = true := by simpa using hkk
         have hal : alikeP Q p.1 i z := by
          obtain ⟨b, hb⟩ := preO_take Q i (k + 1) (by omega); rw [Hpre.out] at hb; exact alike_at (l := l) (b := b) (p := (i, (x, y, z))) (q := p) (by rw [hb]; simp) Hyes.out Hla.out (by simp only; rw [Hkp.out, Hkd.out]; exact hkk)
         have Hal := Lib.hid hal; clear hal hkk; go_wp2_with fail; go_quiet (fail)
         clear hlk; go_wp2_with fail; go_quiet (fail)
         go_wp2_with fail; go_ret3; exact ⟨below_drewN (below_drewN HI2.out.bel _) _, .inl ⟨p.1, i, z, hpn, hil, Hal.out, rfl⟩⟩
        ·
         have e2 : (kq == kd) = false := by simpa using hkk
         have Hkk := Lib.hid hkk; clear hkk; go_wp2_with fail; go_quiet (fail)
         clear hlk; have Hm := Lib.hid (MZ.block (w' := (wr.alloc (.cells #[.int .i64 x, .int .i64 y, .int .i64 z] 38)).drewN nq) hmz rfl); go_wp2_with (at_mapUpdate; refine wpList_put_MZ rfl _ _ _ rfl Hm.out (k := z) (v := (i : Int)) rfl rfl rfl hwz (wfZ_of (by omega)) (by omega) ?_; intro w6 hm6 hg6); have hI3 : AlI w w6 Q (l ++ [(i, (x, y, z))]) := by
          have h6 := hF_yes (l := l) Hyes.out; simp only at h6; rw [h6] at hm6; exact ⟨⟨_, hm6, by rw [List.length_append, List.length_singleton]; split <;> omega⟩, clear_yes Hyes.out HI2.out.clr (fun q hq => by rw [Hla.out] at hq; cases hq; rw [Hkp.out, Hkd.out]; exact Hkk.out), (below_drewN HI2.out.bel nq).grown hg6 (below_drewN HI2.out.bel nq).size (fun j hj => by cases hj; exact Nat.le_refl _)⟩
         have g6 := grown_cell hg6 g0 (fun e => by have := Option.some.inj e; omega); clear hm6 hg6; go_roundg (gk - 1)
         case measure => have := Hk.out; omega
         case rel => exact ⟨k + 1, by have := Hk.out; omega, by go_num, by rw [Hpre.out]; exact hI3, g6⟩
     ·
      have hkn : k = ls.length := by omega
      subst hkn; have hrow : preQ Q i ls.length = preQ Q (i + 1) 0 := by
       have := preQ_row Q i; rw [Hln.out] at this; rw [this, preQ_zero]
      rw [hrow] at hI; clear hk hrow; go_wp2_with fail; go_roundg (gko - 1)
      case measure => have := Hi.out; have := Hgko.out; omega
      case rel => exact ⟨i + 1, by have := Hi.out; have := Hgko.out; omega, by go_num, hI⟩
  ·
   have hin : i = Q.length := by omega
   subst hin; rw [preQ_zero] at hI; have hI : AlI w wr Q (allQ Q) := hI; have hb := hI.bel; have hc := hI.clr; clear hi Hi hI; go_wp2_with fail; go_ret3; exact ⟨hb, .inr ⟨hc, rfl⟩⟩
end Go.Proofs.YtagcbnpahgfgmaaGreat
namespace Go.Proofs.YtagcbnpahgfgmaaGreat
theorem row_count {Q : List Pt} {m i : Nat} {e : Lk} : (rowO Q m).count (i, e) = if m = i then (lnQ Q i).count e else 0 := by
 unfold rowO
 by_cases h : m = i
 ·
  subst h
  rw [if_pos rfl]
  induction lnQ Q m with
  | nil => rfl
  | cons a l ih => rw [List.map_cons, List.count_cons, List.count_cons, ih]; simp
 ·
  rw [if_neg h]
  refine List.count_eq_zero_of_not_mem fun hm => ?_
  obtain ⟨x, _, hx⟩ := List.mem_map.1 hm
  cases hx; exact h rfl
theorem pre_count {Q : List Pt} {i : Nat} {e : Lk} : ∀ n, (preO Q n).count (i, e) = if i < n then (lnQ Q i).count e else 0 := by
 intro n
 induction n with
 | zero => simp [preO]
 | succ n ih =>
  rw [preO_succ, List.count_append, ih, row_count]
  by_cases h1 : i < n
  · rw [if_pos h1, if_neg (by omega), if_pos (by omega)]; rfl
  ·
   by_cases h2 : n = i
   · rw [if_neg h1, if_pos h2, if_pos (by omega)]; omega
   · rw [if_neg h1, if_neg h2, if_neg (by omega)]
theorem all_count {Q : List Pt} {i : Nat} {e : Lk} (hi : i < Q.length) : (allQ Q).count (i, e) = (lnQ Q i).count e := by
 have := pre_count (Q := Q) (i := i) (e := e) Q.length
 rw [if_pos hi] at this; exact this
theorem alikeP.two {ls : List Lk} {Q : List Pt} (h : QI ls Q) {i j : Nat} {v : Int} (ha : alikeP Q i j v) : i < Q.length ∧ j < Q.length ∧ i ≠ j ∧ v ≠ 0 ∧ kdQ Q i = kdQ Q j ∧ kdQ Q j ≠ 3 ∧ ∃ e f, e ∈ lnQ Q i ∧ f ∈ lnQ Q j ∧ e.2.2 = v ∧ f.2.2 = v := by
 obtain ⟨h0, h3, hk, e, f, b1, b2, b3, hall, he, hf⟩ := ha.places
 have me : e ∈ lnQ Q i := (mem_allQ (p := (i, e))).1 (by rw [hall]; simp)
 have mf : f ∈ lnQ Q j := (mem_allQ (p := (j, f))).1 (by rw [hall]; simp)
 refine ⟨lnQ_mem me, lnQ_mem mf, fun hij => ?_, h0, hk, h3, e, f, me, mf, he, hf⟩
 subst hij
 have hi := lnQ_mem me
 have hme := me
 have hmf := mf
 rw [lnQ_at hi] at hme hmf
 have hef : f = e := h.uniq (List.getElem_mem hi) (mem_virtL.2 ⟨hme, by rw [he]; exact h0⟩) f hmf (by rw [hf, he])
 subst hef
 have h1 := all_count (Q := Q) (e := f) hi
 have h2 : 2 ≤ (allQ Q).count (i, f) := by
  rw [hall]
  simp [List.count_append, List.count_cons]
  omega
 have h3 : (lnQ Q i).count f ≤ 1 := by
  rw [lnQ_at hi]
  exact List.nodup_iff_count.1 ((h.right _ (List.getElem_mem hi)).2.2.imp fun h e => by subst e; exact LtL.irrefl _ h) f
 omega
end Go.Proofs.YtagcbnpahgfgmaaGreat
namespace Go.Proofs.YtagcbnpahgfgmaaGreat
theorem perm_any {α : Type} {Q : List α} {i j : Nat} (hij : i ≠ j) (hi : i < Q.length) (hj : j < Q.length) : ∃ R, Q.Perm (Q[i] :: Q[j] :: R) := by
 rcases Nat.lt_or_gt_of_ne hij with h | h
 · exact perm_two h hj
 ·
  obtain ⟨R, hR⟩ := perm_two h hi
  exact ⟨R, hR.trans (.swap ..)⟩
def mergeQ (Q : List Pt) (i j : Nat) (v : Int) : List Pt := (Q.set i (kdQ Q i, joinL (lnQ Q i) (lnQ Q j) v)).eraseIdx j
theorem perm_set {α : Type} {Q : List α} {i j : Nat} (hij : i ≠ j) (hi : i < Q.length) (hj : j < Q.length) (x : α) : ∃ R, Q.Perm (Q[i] :: Q[j] :: R) ∧ ((Q.set i x).eraseIdx j).Perm (x :: R) := by
 have h1 := perm_cons_eraseIdx' (Q := Q) hj
 have h3 : (Q.set i x).eraseIdx j = (Q.eraseIdx j).set (if i < j then i else i - 1) x := by
  by_cases h : i < j
  · rw [if_pos h, List.eraseIdx_set_gt h]
  ·
   have : i = (i - 1) + 1 := by omega
   rw [if_neg h]; conv => lhs; rw [this]
   rw [List.eraseIdx_set_lt (by omega), Nat.add_sub_cancel]
 obtain ⟨m, hm⟩ : ∃ m, m = if i < j then i else i - 1 := ⟨_, rfl⟩
 have hml : m < (Q.eraseIdx j).length := by rw [List.length_eraseIdx, if_pos hj]; split at hm <;> omega
 have hmi : (Q.eraseIdx j)[m] = Q[i] := by
  rw [List.getElem_eraseIdx]
  split at hm
  ·
   have e : m = i := hm; subst e; rw [dif_pos (by assumption)]
  ·
   have e : m + 1 = i := by omega
   subst e; rw [dif_neg (by omega)]
 rw [h3, ← hm]
 refine ⟨(Q.eraseIdx j).eraseIdx m, ?_, ?_⟩
 ·
  refine h1.trans ?_
  refine ((perm_cons_eraseIdx' hml).cons _).trans ?_
  rw [hmi]; exact .swap ..
 ·
  have hml2 : m < ((Q.eraseIdx j).set m x).length := by rw [List.length_set]; exact hml
  have h4 := perm_cons_eraseIdx' hml2
  rw [List.getElem_set_self, List.eraseIdx_set_eq] at h4
  exact h4
theorem alikeP.step {ls : List Lk} {Q : List Pt} (h : QI ls Q) {i j : Nat} {v : Int} (ha : alikeP Q i j v) : ∃ e, e ∈ lnQ Q i ∧ e ∈ lnQ Q j ∧ e.2.2 = v ∧ MStep e Q (mergeQ Q i j v) := by
 obtain ⟨hi, hj, hij, h0, hk, h3, e, f, he, hf, hev, hfv⟩ := ha.two h
 obtain ⟨D, hT, _⟩ := h.tree
 have hef : e = f := by
  refine hT.same_num (mem_occL.2 ⟨Q[i].2, List.mem_map_of_mem (List.getElem_mem hi), by rw [← lnQ_at hi]; exact he, by rw [hev]; exact h0⟩) (mem_occL.2 ⟨Q[j].2, List.mem_map_of_mem (List.getElem_mem hj), by rw [← lnQ_at hj]; exact hf, by rw [hfv]; exact h0⟩) (by rw [hev, hfv])
 subst hef
 obtain ⟨R, hR, hS⟩ := perm_set hij hi hj (kdQ Q i, joinL (lnQ Q i) (lnQ Q j) v)
 refine ⟨e, he, hf, hev, Q[i], Q[j], R, hR, mem_virtL.2 ⟨by rw [← lnQ_at hi]; exact he, by rw [hev]; exact h0⟩, mem_virtL.2 ⟨by rw [← lnQ_at hj]; exact hf, by rw [hev]; exact h0⟩, ?_, ?_, ?_⟩
 · rw [← kdQ_at hi, ← kdQ_at hj]; exact hk
 · rw [← kdQ_at hi, hk]; exact h3
 ·
  unfold mergeQ
  rw [← kdQ_at hi, ← lnQ_at hi, ← lnQ_at hj, hev]
  exact hS
theorem split_pair {α : Type} {S : List α} {a b : α} (ha : a ∈ S) (hb : b ∈ S) (hne : a ≠ b) : ∃ l1 p l2 q, S = l1 ++ p :: l2 ∧ q ∈ l1 ∧ ((p = a ∧ q = b) ∨ (p = b ∧ q = a)) := by
 obtain ⟨s, t, rfl⟩ := List.append_of_mem ha
 rcases List.mem_append.1 hb with h | h
 · exact ⟨s, a, t, b, rfl, h, .inl ⟨rfl, rfl⟩⟩
 ·
  rcases List.mem_cons.1 h with h | h
  · exact absurd h.symm hne
  ·
   obtain ⟨t1, t2, rfl⟩ := List.append_of_mem h; exact ⟨s ++ a :: t1, b, t2, a, by simp, by simp, .inr ⟨rfl, rfl⟩⟩
theorem clearP.normal {ls : List Lk} {Q : List Pt} (h : QI ls Q) (hc : clearP Q (allQ Q)) : MNormal Q := by
 intro e Q' hs
 obtain ⟨x, y, R, hp, hex, hey, hk, h3, _⟩ := hs
 have hxy : x ≠ y := fun he => h.distinct hp (by rw [he])
 obtain ⟨a, ha, hax⟩ := List.getElem_of_mem (hp.mem_iff.2 (by simp : x ∈ x :: y :: R))
 obtain ⟨b, hb, hby⟩ := List.getElem_of_mem (hp.mem_iff.2 (by simp : y ∈ x :: y :: R))
 have hab : a ≠ b := fun he => by subst he; exact hxy (hax.symm.trans hby)
 obtain ⟨h1, hv⟩ := mem_virtL.1 hex
 have h2 := (mem_virtL.1 hey).1
 have ma : (a, e) ∈ colO Q (allQ Q) := by
  unfold colO
  rw [List.mem_filter]
  refine ⟨mem_allQ.2 (by simp only; rw [lnQ_at ha, hax]; exact h1), ?_⟩
  unfold mayO
  simp only [kdQ_at ha, hax, Bool.and_eq_true, bne_iff_ne, ne_eq]
  exact ⟨h3, hv⟩
 have mb : (b, e) ∈ colO Q (allQ Q) := by
  unfold colO
  rw [List.mem_filter]
  refine ⟨mem_allQ.2 (by simp only; rw [lnQ_at hb, hby]; exact h2), ?_⟩
  unfold mayO
  simp only [kdQ_at hb, hby, Bool.and_eq_true, bne_iff_ne, ne_eq]
  exact ⟨by rw [← hk]; exact h3, hv⟩
 obtain ⟨l1, p, l2, q, hS, hq, hpq⟩ := split_pair ma mb (fun he => hab (by cases he; rfl))
 have hpe : p.2.2.2 = e.2.2 ∧ kdQ Q p.1 = x.1 := by
  rcases hpq with ⟨rfl, _⟩ | ⟨rfl, _⟩
  · exact ⟨rfl, by simp only; rw [kdQ_at ha, hax]⟩
  · exact ⟨rfl, by simp only; rw [kdQ_at hb, hby, hk]⟩
 have hqe : q.2.2.2 = e.2.2 := by rcases hpq with ⟨_, rfl⟩ | ⟨_, rfl⟩ <;> rfl
 have hqa : q ∈ atV p.2.2.2 l1 := mem_atV.2 ⟨hq, by rw [hqe, hpe.1]⟩
 obtain ⟨r, hr⟩ : ∃ r, (atV p.2.2.2 l1).getLast? = some r := by
  cases hl : (atV p.2.2.2 l1).getLast? with
  | none => rw [List.getLast?_eq_none_iff.1 hl] at hqa; simp at hqa
  | some r => exact ⟨r, rfl⟩
 refine hc l1 p l2 hS r hr ?_
 obtain ⟨hr1, hr2⟩ := mem_atV.1 (List.mem_of_getLast? hr)
 have hrall : r ∈ allQ Q := (List.mem_filter.1 (show r ∈ colO Q (allQ Q) by rw [hS]; simp [hr1])).1
 have hrl := mem_allQ.1 hrall
 have hrn := lnQ_mem hrl
 rw [lnQ_at hrn] at hrl
 have hrQ : Q[r.1] ∈ x :: y :: R := hp.mem_iff.1 (List.getElem_mem hrn)
 rw [hpe.2, kdQ_at hrn]
 simp only [List.mem_cons] at hrQ
 rcases hrQ with hz | hz | hz
 · rw [hz]
 · rw [hz, hk]
 · exact absurd (by rw [hr2, hpe.1]) (h.only hp hex hey _ hz r.2 hrl)
theorem QI.len {ls : List Lk} {Q : List Pt} (h : QI ls Q) : Q.length ≤ ls.length := by
 cases hQ : Q with
 | nil => simp
 | cons q R =>
  obtain ⟨D, hT, _⟩ := h.tree
  have hp : (Q.map fun q => q.2).Perm (q.2 :: R.map fun q => q.2) := by rw [hQ]; exact .refl _
  have h1 := QI.small hT hp (fun x hx => by
   obtain ⟨r, hr, rfl⟩ := List.mem_map.1 hx
   exact h.three r (by rw [hQ]; simp [hr]))
  have h2 := h.rels.length_eq
  have h3 := h.three q (by rw [hQ]; simp)
  simp at h1 ⊢
  omega
end Go.Proofs.YtagcbnpahgfgmaaGreat
namespace Go.Proofs.YtagcbnpahgfgmaaGreat
open Go Go.RowKit
set_option maxHeartbeats 1000000 in
theorem chosen_walk (ac : Option Addr) (cc cb n cl : Nat) (al : Option Addr) (c : List Lk) (t : Bool) (w : World) (hb : w.cell? ⟨cb, 0, none⟩ = some (.slice al n cl)) (hn : n ≤ 100000) (hcl : c.length ≤ 100000) (ht : chosenB n c = t) :
  Calls Tryz.prog 93 #[.slice ac c.length cc, .pointer (some ⟨cb, 0, none⟩)] w fun e w' => e = .returned (.bool t) ∧ w = w' := by
 unfold chosenB at ht
 have i1 : IntKind.i64.wrap ((n : Int) - (c.length : Int)) = (n : Int) - (c.length : Int) := IntWalk.i64_in _ (by omega)
 by_cases h1 : 1 < c.length
 ·
  have q1 : decide ((1 : Int) < (c.length : Int)) = true := by simp; omega
  rw [decide_eq_true h1, Bool.true_and] at ht
  have q1' : decide (1 < c.length) = true := by simpa using h1
  clear h1
  cases t with
  | true =>
   go_enter Tryz.func93, Tryz.ntmps93; go_wp2_with fail; go_ret; exact ⟨rfl, rfl⟩
  | false =>
   go_enter Tryz.func93, Tryz.ntmps93; go_wp2_with fail; go_ret; exact ⟨rfl, rfl⟩
 ·
  have q1 : decide ((1 : Int) < (c.length : Int)) = false := by simp; omega
  rw [decide_eq_false h1, Bool.false_and] at ht
  have q1' : decide (1 < c.length) = false := by simpa using h1
  clear h1
  subst ht
  go_enter Tryz.func93, Tryz.ntmps93
  go_wp2_with fail
  go_ret
  exact ⟨rfl, rfl⟩
def idxZ (n : Nat) (G : List (List Lk)) : Int := match G.findIdx? (chosenB n) with
 | some i => (i : Int)
 | none => -1
set_option maxHeartbeats 1000000 in
theorem indexG_walk (a al : Option Addr) (cap cb n cl : Nat) (G : List (List Lk)) (w : World) (hr : RdLs w a G) (hb : w.cell? ⟨cb, 0, none⟩ = some (.slice al n cl)) (hn : n ≤ 100000) (hl : G.length ≤ 100000) (hG : ∀ r ∈ G, r.length ≤ 100000) :
  Calls Tryz.prog 94 #[.slice a G.length cap, .func (.func 93) #[] #[.pointer (some ⟨cb, 0, none⟩)]] w fun e w' => e = .returned (.int .i64 (idxZ n G)) ∧ w = w' := by
 have HG := Lib.hid hG; clear hG
 go_enter Tryz.func94, Tryz.ntmps94
 go_wp2_with fail
 go_loopg [8] G.length (fun r iv wj => ∃ i : Nat, i + r = G.length ∧ iv = .int .i64 i ∧ (∀ j (h : j < G.length), j < i → chosenB n G[j] = false) ∧ w = wj)
 case atStart => exact ⟨0, by omega, rfl, fun j h hj => absurd hj (by omega), rfl⟩
 case round =>
  obtain ⟨i, hi, rfl, hall, rfl⟩ := hrel
  have Hi := Lib.hid hi; have Hall := Lib.hid hall
  clear hall
  by_cases hil : i < G.length
  ·
   clear hi; obtain ⟨R, hR⟩ : ∃ R, G[i] = R := ⟨_, rfl⟩
   have hRi : G[i]? = some R := by rw [List.getElem?_eq_getElem hil, hR]
   obtain ⟨bo, oo, au, cu, rfl, p0, _, _, _⟩ := hr i R hRi; have hRl := HG.out R (by rw [← hR]; exact List.getElem_mem _); obtain ⟨t, ht⟩ : ∃ t, chosenB n R = t := ⟨_, rfl⟩
   have hcw := chosen_walk au cu cb n cl al R t w hb hn hRl ht; have Hcw := Lib.hid hcw; have HR := Lib.hid hR; have Ht := Lib.hid ht; clear hRi hR hcw ht; go_wp2_with fail; refine Hcw.out.mono ?_; rintro e w' ⟨rfl, rfl⟩; cases t with
   | true =>
    have hfin : idxZ n G = (i : Int) := by
     unfold idxZ; have : G.findIdx? (chosenB n) = some i := List.findIdx?_eq_some_iff_getElem.2 ⟨hil, by rw [HR.out]; exact Ht.out, fun j hj => by rw [Hall.out j (by omega) hj]; simp⟩; rw [this]
    have Hfin := Lib.hid hfin; clear hfin; go_wp2_with fail; go_ret; exact ⟨by rw [Hfin.out] <;> rfl, rfl⟩
   | false =>
    have hnx : ∀ j (h : j < G.length), j < i + 1 → chosenB n G[j] = false := fun j h hj => by
     by_cases e : j < i
     · exact Hall.out j h e
     ·
      obtain rfl : j = i := by omega
      rw [HR.out]; exact Ht.out
    have Hnx := Lib.hid hnx; clear hnx; go_wp2_with fail; go_roundg (gk - 1)
    case measure => have := Hi.out; omega
    case rel => exact ⟨i + 1, by have := Hi.out; omega, by go_num, Hnx.out, rfl⟩
  ·
   have hin : i = G.length := by omega
   subst hin; have hfin : idxZ n G = -1 := by
    unfold idxZ; have : G.findIdx? (chosenB n) = none := List.findIdx?_eq_none_iff.2 fun r hr => by
     obtain ⟨j, hj, rfl⟩ := List.getElem_of_mem hr; exact Hall.out j hj hj
    rw [this]
   have Hfin := Lib.hid hfin; clear hfin hi; go_wp2_with fail; go_ret; exact ⟨by rw [Hfin.out] <;> rfl, rfl⟩
def RetSides (w : World) (s : List Lk × List Lk) (e : Ending) (w' : World) : Prop :=
 ∃ v1 v2, e = .returned (.tuple #[v1, v2]) ∧ OwnL w' v1 s.1 ∧ OwnL w' v2 s.2 ∧ (∀ g, v1.ownBlock = some g → w.heap.size ≤ g) ∧ (∀ g, v2.ownBlock = some g → w.heap.size ≤ g) ∧ Below w.heap.size w w'
end Go.Proofs.YtagcbnpahgfgmaaGreat
