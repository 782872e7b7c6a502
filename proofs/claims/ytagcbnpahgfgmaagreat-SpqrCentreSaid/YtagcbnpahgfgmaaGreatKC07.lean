/- Facts that the claim rests on, part 8. -/
import Derived.Test.YtagcbnpahgfgmaaGreatKC06
namespace Go.Proofs.YtagcbnpahgfgmaaGreat
open Go Go.RowKit Go.Maps
theorem allQ_len {Q : List Pt} (hQ : Q.length ≤ 1000) (hR : ∀ q ∈ Q, q.2.length ≤ 1000) : ∀ i k, i ≤ Q.length → (preQ Q i k).length ≤ 2000000 := by
 intro i k hi
 have h1 : ∀ i, i ≤ Q.length → (preO Q i).length ≤ i * 1000 := by
  intro i
  induction i with
  | zero => intro _; simp [preO]
  | succ i ih =>
   intro h; rw [preO_succ, List.length_append]; have := ih (by omega); have h2 : (rowO Q i).length ≤ 1000 := by
    unfold rowO; rw [List.length_map, lnQ_at (by omega)]; exact hR _ (List.getElem_mem _)
   rw [Nat.succ_mul]; omega
 unfold preQ
 rw [List.length_append]
 have := h1 i hi
 have h2 : ((rowO Q i).take k).length ≤ 1000 := by
  rw [List.length_take]
  unfold rowO
  rw [List.length_map]
  by_cases h : i < Q.length
  · rw [lnQ_at h]; have := hR _ (List.getElem_mem h); omega
  · rw [lnQ_out h]; simp
 have h3 : i * 1000 ≤ 1000 * 1000 := Nat.mul_le_mul_right _ (by omega)
 omega
theorem sort_row2 (g cap : Nat) (zs : List Int) (w : World) (h : Row w g 3 1 cap (zs.map (Value.int .i64))) (hsz : zs.length < 1000000000) :
  Calls Tryz.prog 44 #[.slice (some ⟨g, 0, none⟩) zs.length cap] w fun e w' => e = .returned (.tuple #[]) ∧
   Row w' g 3 1 cap ((zs.mergeSort fun x y => decide (x ≤ y)).map (Value.int .i64)) ∧ w.grownBy w' (some g) := by
 obtain ⟨cur, hg, hs, hl, hm, ht⟩ := h
 have ht' : cur.toList.take zs.length = zs.map (Value.int .i64) := by simpa using ht
 have hH := holds_of_blockI (ss := zs) hg ht'
 refine (Tryz.slices_Sort_int g 0 cap zs w hH (Array.getElem?_eq_some_iff.1 hg).1 (by omega)).mono ?_
 rintro e w' ⟨rfl, n, os, rfl⟩
 refine ⟨rfl, ?_, grownBy_sortedI _⟩
 have hlen : (zs.mergeSort fun x y => decide (x ≤ y)).length = zs.length := by simp
 refine ⟨_, heap_sortedI _ hg, by simpa [Sort.putCells] using hs, by simpa [hlen] using hl, hm, ?_⟩
 rw [List.length_map]
 exact take_putCellsI cur _ (by simp at hl; omega)
theorem vN_map (l : List Nat) : l.map vN = (l.map fun x : Nat => (x : Int)).map (Value.int .i64) := by
 rw [List.map_map]; rfl
theorem sort_rowN (g cap : Nat) (l : List Nat) (w : World) (h : Row w g 3 1 cap (l.map vN)) (hsz : l.length < 1000000000) :
  Calls Tryz.prog 44 #[.slice (some ⟨g, 0, none⟩) l.length cap] w fun e w' => e = .returned (.tuple #[]) ∧
   Row w' g 3 1 cap ((srtN l).map vN) ∧ w.grownBy w' (some g) := by
 rw [vN_map] at h
 have h2 := sort_row2 g cap _ w h (by simpa using hsz)
 rw [List.length_map] at h2
 rw [vN_map (srtN l), srtN_map]
 exact h2
set_option maxRecDepth 100000 in
set_option maxHeartbeats 8000000 in
theorem beside_walk (a : Option Addr) (cap : Nat) (Q : List Pt) (w : World) (hr : RdQ w a Q) (hQ : Q.length ≤ 1000) (hR : ∀ q ∈ Q, RightL q.2) :
  Calls Tryz.prog 80 #[.slice a Q.length cap] w (RetBes w Q) := by
 have hpl := fun i k hi => allQ_len hQ (fun q hq => (hR q hq).1) i k hi
 have HR := Lib.hid hR; have Hpl := Lib.hid hpl
 clear hR hpl
 have hm1 := fun w => run_makeMapN 120 _ _ Tryz.underlying120 w
 have hm2 := fun w => run_makeMapN 121 _ _ Tryz.underlying121 w
 have hmk := run_make_row' (P := Tryz.prog) 63 33 (.slice none 0 0) 24 Tryz.underlying63 ints_info2 rfl .i64 .i64 Q.length (by omega) (by omega)
 go_enter Tryz.func80, Tryz.ntmps80
 go_wp2_with fail
 clear hm1 hm2 hmk
 have hI0 : BesI w (((w.alloc (.map #[] 0)).alloc (.map #[] 0)).alloc (.cells (madeCells #[.slice none 0 0] Q.length) 33)) Q (preQ Q 0 0) := by
  have e0 : preQ Q 0 0 = [] := by simp [preQ, preO]
  have b1 := bl_alloc w (.map #[] 0)
  have b2 := bl_trans b1 (bl_alloc _ (.map #[] 0))
  have hh : heldL [] = fun _ => none := by
   funext x; unfold heldL; split
   ·
    split
    · rfl
    · rfl
   · rfl
  rw [e0]
  refine ⟨fineP_nil Q, ?_, ⟨0, fun _ => none, ?_, by simp, fun e _ => by simp [realsO]⟩, ⟨List.replicate Q.length (.slice none 0 0), ?_⟩, bl_trans b2 (bl_alloc _ _)⟩
  ·
   unfold HeldM; rw [hh]; exact ((MG.made w _).alloc _).alloc _
  ·
   have := (MG.made (w.alloc (.map #[] 0)) 38).alloc (.cells (madeCells #[.slice none 0 0] Q.length) 33); simpa using this
  ·
   rw [rowsO_nil]; have := ownRows_made ((w.alloc (.map #[] 0)).alloc (.map #[] 0)) Q.length 33 3 (by unfold maxLen; omega); simpa using this
 generalize ((w.alloc (.map #[] 0)).alloc (.map #[] 0)).alloc (.cells (madeCells #[.slice none 0 0] Q.length) 33) = w1 at hI0 ⊢
 go_wp2_with fail
 go_loopg [23] Q.length (fun r iv wj => ∃ i : Nat, i + r = Q.length ∧ iv = .int .i64 i ∧ BesI w wj Q (preQ Q i 0))
 case atStart => exact ⟨0, by omega, rfl, hI0⟩
 case round =>
  clear hI0
  obtain ⟨i, hi, rfl, hI⟩ := hrel
  have Hi := Lib.hid hi
  by_cases hil : i < Q.length
  ·
   clear hi; have hqi : Q[i]? = some Q[i] := List.getElem?_eq_getElem hil; obtain ⟨bp, op, au, cu, rfl, p0w, p1w, hrq, hcu, hcm⟩ := hr i _ hqi; have hRq := HR.out _ (List.getElem_mem hil); have hln := lnQ_at hil; have hkd := kdQ_at hil; obtain ⟨⟨kd, ls⟩, hq⟩ : ∃ q : Pt, Q[i] = q := ⟨_, rfl⟩
   rw [hq] at p0w p1w hrq hcu hRq hln hkd; simp only at p0w p1w hrq hcu hRq hln hkd; have hlsl := hRq.1; have p0 := keep_cell hI.bel p0w; have p1 := keep_cell hI.bel p1w; have Hln := Lib.hid hln; have Hkd := Lib.hid hkd; have HRq := Lib.hid hRq; have Hq := Lib.hid hq; have hb8 := bl_alloc wr (.cells #[.int .i64 kd, .slice au ls.length cu] 49); have hI8 := hI.grown hb8; have hJ8 : BesJ w (wr.alloc (.cells #[.int .i64 kd, .slice au ls.length cu] 49)) Q (preQ Q i 0) wr.heap.size kd := ⟨hI8.fine, hI8.held, hI8.own, (RowsA.start hI).more _, hI8.bel, (two_cells _ _ _ _ rfl).1, hI.sz⟩
   have HJ8 := Lib.hid hJ8; clear hqi hln hkd hRq hq hI8 hI hb8 hJ8 p0w p1w; go_wp2_with fail; obtain ⟨B8, hB8⟩ : ∃ b, b = wr.heap.size := ⟨_, rfl⟩
   rw [← hB8] at HJ8 ⊢; generalize wr.alloc (.cells #[.int .i64 kd, .slice au ls.length cu] 49) = wo at HJ8 ⊢; clear hB8 p0 p1; go_loopg [31] ls.length (fun r kv wj => ∃ k : Nat, k + r = ls.length ∧ kv = .int .i64 k ∧ BesJ w wj Q (preQ Q i k) B8 kd)
   case atStart => exact ⟨0, by omega, rfl, HJ8.out⟩
   case round =>
    clear HJ8; obtain ⟨k, hk, rfl, hJ⟩ := hrel; obtain ⟨wi, rfl⟩ : ∃ wi : World, wi = wr := ⟨_, rfl⟩
    have Hk := Lib.hid hk; by_cases hkl : k < ls.length
    ·
     clear hk; obtain ⟨b, o, rfl, c0, c1, c2⟩ := (hrq.below hJ.bel).at k hkl; have hok := HRq.out.2.1 _ (List.getElem_mem hkl); have hpre : preQ Q i (k + 1) = preQ Q i k ++ [(i, ls[k])] := by
      have := preQ_succ Q i k (by rw [Hln.out]; exact hkl); simp only [Hln.out] at this; exact this
     obtain ⟨⟨x, y, v⟩, he⟩ : ∃ e : Lk, ls[k] = e := ⟨_, rfl⟩
     rw [he] at c0 c1 c2 hok hpre; have hwf := hok.wf; unfold OkL at hok; simp only at c0 c1 c2 hok; obtain ⟨o1, o2, o3, o4, o5⟩ := hok; have hll := Hpl.out i k (by omega); obtain ⟨l, hl⟩ : ∃ l, l = preQ Q i k := ⟨_, rfl⟩
     rw [← hl] at hpre hJ hll; have hb10 := bl_alloc wi (.cells #[.int .i64 x, .int .i64 y, .int .i64 v] 38); have hJ10 := hJ.grown hb10; have hRow10 := hJ.rows.more (.cells #[.int .i64 x, .int .i64 y, .int .i64 v] 38); have HRow10 := Lib.hid hRow10; clear hRow10; have hJlt := hJ.lt; have hJbig := hJ.big; have d0 : (wi.alloc (.cells #[.int .i64 x, .int .i64 y, .int .i64 v] 38)).cell? ⟨wi.heap.size, 0, none⟩ = some (.int .i64 x) := by simp
     have d1 : (wi.alloc (.cells #[.int .i64 x, .int .i64 y, .int .i64 v] 38)).cell? ⟨wi.heap.size, 1, none⟩ = some (.int .i64 y) := by simp
     have d2 : (wi.alloc (.cells #[.int .i64 x, .int .i64 y, .int .i64 v] 38)).cell? ⟨wi.heap.size, 2, none⟩ = some (.int .i64 v) := by simp
     have Hpre := Lib.hid hpre; have Hl := Lib.hid hl; have Hwf := Lib.hid hwf; have HJ10 := Lib.hid hJ10; have Ho := Lib.hid (And.intro o1 (And.intro o2 (And.intro o3 (And.intro o4 o5)))); have hwl := hJ10.bel.size; clear hpre hl hwf he hJ hJ10 hb10 o1 o2 o3; by_cases hv : v = 0
     ·
      subst hv; go_upto_region 11 with (fail)
      obtain ⟨c, F, hMG, hcl, hF⟩ := HJ10.out.own; have hMGd : MG ((wi.alloc (.cells #[.int .i64 x, .int .i64 y, .int .i64 0] 38)).drew) 38 (w.heap.size + 1) c F := hMG.block rfl; have hkey := litL_ok Hwf.out; unfold lkV at hkey; simp only at hkey; have hlook := hMGd.look keyedL Tryz.underlying121 (zeroI _) hkey; obtain ⟨st, w5, hent, hg5, ⟨c5, F5, hMG5, hF5⟩, hstore⟩ := hMGd.entry lawL Tryz.underlying121 zeroI hkey (by omega); have hlook5 := hMG5.look keyedL Tryz.underlying121 (zeroI _) hkey; rw [hF5] at hlook5; have hFe := hF (x, y, 0) Hwf.out; have hne10 : (some (w.heap.size + 1) : Option Nat) ≠ some wi.heap.size := fun e => by have := Option.some.inj e; omega
      have hneB8 : (some (w.heap.size + 1) : Option Nat) ≠ some B8 := fun e => by have := Option.some.inj e; omega
      have f0 := grown_cell hg5 d0 hne10; have f1 := grown_cell hg5 d1 hne10; have f2 := grown_cell hg5 d2 hne10; obtain ⟨z, hz⟩ : ∃ z : Int, (F (litL (x, y, 0))).getD (.int .i64 0) = .int .i64 z ∧ (z = 0 ∨ z = 1) ∧ (z = 0 ↔ (x, y, 0) ∉ realsO l) := by
       by_cases hm : (x, y, 0) ∈ realsO l
       · exact ⟨1, by rw [hFe, if_pos hm]; rfl, .inr rfl, by simp [hm]⟩
       · exact ⟨0, by rw [hFe, if_neg hm]; rfl, .inl rfl, by simp [hm]⟩
      obtain ⟨hz1, hz2, hz3⟩ := hz; rw [hz1] at hlook hlook5 hent; obtain ⟨w6, hst6, hg6, hMG6⟩ := hstore w5 (.int .i64 (z + 1)) rfl; have hlook6 := hMG6.look keyedL Tryz.underlying121 (zeroI _) hkey; rw [updL_same] at hlook6; have hlook6 : (Instr.lookup 121 (.map (some (w.heap.size + 1))) (.agg #[.int .i64 x, .int .i64 y, .int .i64 0]) false).run Tryz.prog w6 = .ok (.int .i64 (z + 1)) w6 := hlook6; unfold goInt at hst6; have k0 := grown_cell hg6 f0 hne10; have k1 := grown_cell hg6 f1 hne10; have k2 := grown_cell hg6 f2 hne10; have iz : IntKind.i64.wrap (z + 1) = z + 1 := IntWalk.i64_in _ (by omega); have hgg : (wi.alloc (.cells #[.int .i64 x, .int .i64 y, .int .i64 0] 38)).grownBy w6 (some (w.heap.size + 1)) := ⟨hg6.os.trans hg5.os, hg6.tape.trans hg5.tape, hg6.output.trans hg5.output, Nat.le_trans hg5.size hg6.size, fun j h1 h2 => (hg6.block j (Nat.lt_of_lt_of_le h1 hg5.size) h2).trans (hg5.block j h1 h2)⟩
      have HMG6 := Lib.hid hMG6; have HFe := Lib.hid hFe; have HF := Lib.hid hF; have Hz2 := Lib.hid hz2; have Hz3 := Lib.hid hz3; have Hgg := Lib.hid hgg; clear hMG hMGd hMG5 hF5 hFe hF hz1 hz2 hz3 hstore hg5 hg6 hMG6 hgg hkey; refine regionT (fun w' => w'.cell? ⟨wi.heap.size, 0, none⟩ = some (.int .i64 x) ∧ w'.cell? ⟨wi.heap.size, 1, none⟩ = some (.int .i64 y) ∧ w'.cell? ⟨wi.heap.size, 2, none⟩ = some (.int .i64 0) ∧ (Instr.lookup 121 (.map (some (w.heap.size + 1))) (.agg #[.int .i64 x, .int .i64 y, .int .i64 0]) false).run Tryz.prog w' = .ok (.int .i64 z) w') 6 (by kernel_rfl) ?_; have hS : (wi.alloc (.cells #[.int .i64 x, .int .i64 y, .int .i64 0] 38)).drew.cell? ⟨wi.heap.size, 0, none⟩ = some (.int .i64 x) ∧ (wi.alloc (.cells #[.int .i64 x, .int .i64 y, .int .i64 0] 38)).drew.cell? ⟨wi.heap.size, 1, none⟩ = some (.int .i64 y) ∧ (wi.alloc (.cells #[.int .i64 x, .int .i64 y, .int .i64 0] 38)).drew.cell? ⟨wi.heap.size, 2, none⟩ = some (.int .i64 0) ∧ (Instr.lookup 121 (.map (some (w.heap.size + 1))) (.agg #[.int .i64 x, .int .i64 y, .int .i64 0]) false).run Tryz.prog (wi.alloc (.cells #[.int .i64 x, .int .i64 y, .int .i64 0] 38)).drew = .ok (.int .i64 z) (wi.alloc (.cells #[.int .i64 x, .int .i64 y, .int .i64 0] 38)).drew := ⟨d0, d1, d2, hlook⟩
      refine tkT 0 ?_ rfl hS ?_ ?_ (by kernel_rfl) (fun _ _ _ h => h) (by rfl); rotate_left; (· intro wS hSw; (try dsimp only at hSw); go_simp; try with_reducible rfl); simp only [Act.put, zA, z0, z1]; refine tkT 1 ?_ rfl hS ?_ ?_ (by kernel_rfl) (fun _ _ _ h => h) (by rfl); rotate_left; (· intro wS hSw; (try dsimp only at hSw); go_simp; try with_reducible rfl); simp only [Act.put, zA, z0, z1]; refine tkT 2 ?_ rfl hS ?_ ?_ (by kernel_rfl) (fun _ _ _ h => h) (by rfl); rotate_left; (· intro wS hSw; (try dsimp only at hSw); go_simp; try with_reducible rfl); simp only [Act.put, zA, z0, z1]; refine tkT 3 ?_ rfl hS ?_ ?_ (by kernel_rfl) (fun _ _ _ h => h) (by rfl); rotate_left; (· intro wS hSw; (try dsimp only at hSw); go_simp; try with_reducible rfl); simp only [Act.put, zA, z0, z1]; refine oneT (i := 4) rfl (by kernel_rfl) (fun K hK => ?_); go_simp; refine hK _ _ (fun _ => ⟨f0, f1, f2, hlook5⟩) ?_; clear hK K hS; have hS := And.intro f0 (And.intro f1 (And.intro f2 hlook5)); refine tkT 5 ?_ rfl hS ?_ ?_ (by kernel_rfl) (fun _ _ _ h => h) (by rfl); rotate_left; (· intro wS hSw; (try dsimp only at hSw); go_simp; try with_reducible rfl); simp only [Act.put, zA, z0, z1]; refine oneT (i := 6) rfl (by kernel_rfl) (fun K hK => ?_); go_simp; refine hK _ _ (fun h => absurd h (by omega)) ?_; clear hK K hS; refine doneT (by kernel_rfl) ?_ _; clear hlook hlook5 hent hst6 f0 f1 f2 d0 d1 d2; have hB6 : Below w.heap.size w w6 := HJ10.out.bel.grown Hgg.out (by have := HJ10.out.bel.size; omega) (fun j hj => by cases hj; omega)
      rcases Hz2.out with rfl | rfl
      ·
       have hno := Hz3.out.1 rfl
       have hJ6 : BesJ w w6 Q (l ++ [(i, (x, y, 0))]) B8 kd := HJ10.out.real rfl hno Hgg.out (by
        refine ⟨_, _, HMG6.out, by simp only [List.length_append, List.length_singleton]; split <;> omega, fun e' he' => ?_⟩; by_cases h9 : e' = (x, y, 0)
        ·
         subst h9; rw [updL_same, realsO_append, if_pos (by simp [realsO])]; rfl
        ·
         rw [updL_ne _ _ (fun h => h9 (litL_inj he' Hwf.out h)), HF.out e' he', realsO_append]; have : e' ∈ realsO l ++ realsO [(i, (x, y, 0))] ↔ e' ∈ realsO l := by simp [realsO, h9]
         simp only [this])
       rw [← Hpre.out] at hJ6; have HJ6 := Lib.hid hJ6; clear hno hJ6 HMG6 hlook6; have hlook7 : (Instr.lookup 121 (.map (some (w.heap.size + 1))) (.agg #[.int .i64 x, .int .i64 y, .int .i64 0]) false).run Tryz.prog w6 = .ok (.int .i64 1) w6 := by assumption
       go_wp2_with fail; go_roundg (gk - 1)
       case measure => have := Hk.out; omega
       case rel => exact ⟨k + 1, by have := Hk.out; omega, by go_num, HJ6.out⟩
      ·
       have hbad : ¬ besideP Q := bes_no (i := i) (k := k + 1) (by omega) (by
        rw [Hpre.out, fineP_real rfl]
        exact fun h => absurd ((Hz3.out).2 h.2) (by decide))
       have Hbad := Lib.hid hbad; clear hbad; go_wp2_with fail; go_ret2; exact ⟨hB6, .inr ⟨Hbad.out, rfl⟩⟩
     ·
      have hv0 : (v == 0) = false := by simpa using hv
      have hvk := keyZ Hwf.out.2.2; have hlk := HJ10.out.held.look mapLawZ Tryz.underlying120 (zeroH _) hvk; rw [heldL_at hv] at hlk; have hpb := HJ10.out.fine.2 v hv; have hfine := HJ10.out.fine; match hat : atV v l with
      | [] =>
       rw [heldF_none hat] at hlk; have hlk' : (Instr.lookup 120 (.map (some w.heap.size)) (.int .i64 v) false).run Tryz.prog (wi.alloc (.cells #[.int .i64 x, .int .i64 y, .int .i64 v] 38)) = .ok (.agg #[.int .i64 0, .int .i64 0, .int .i64 0, .int .i64 0, .int .i64 0]) (wi.alloc (.cells #[.int .i64 x, .int .i64 y, .int .i64 v] 38)) := hlk; clear hlk hpb hfine; have Hat := Lib.hid hat; clear hat; go_upto_region 21 with (fail)
       have hbH := bl_alloc (wi.alloc (.cells #[.int .i64 x, .int .i64 y, .int .i64 v] 38)) (.cells #[.int .i64 0, .int .i64 1, .int .i64 0, .int .i64 0, .int .i64 0] 123); have hJH := HJ10.out.grown hbH; have g0 : ((wi.alloc (.cells #[.int .i64 x, .int .i64 y, .int .i64 v] 38)).alloc (.cells #[.int .i64 0, .int .i64 1, .int .i64 0, .int .i64 0, .int .i64 0] 123)).cell? ⟨wi.heap.size + 1, 0, none⟩ = some (.int .i64 0) := by simp
       have g1 : ((wi.alloc (.cells #[.int .i64 x, .int .i64 y, .int .i64 v] 38)).alloc (.cells #[.int .i64 0, .int .i64 1, .int .i64 0, .int .i64 0, .int .i64 0] 123)).cell? ⟨wi.heap.size + 1, 1, none⟩ = some (.int .i64 1) := by simp
       have g2 : ((wi.alloc (.cells #[.int .i64 x, .int .i64 y, .int .i64 v] 38)).alloc (.cells #[.int .i64 0, .int .i64 1, .int .i64 0, .int .i64 0, .int .i64 0] 123)).cell? ⟨wi.heap.size + 1, 2, none⟩ = some (.int .i64 0) := by simp
       have g3 : ((wi.alloc (.cells #[.int .i64 x, .int .i64 y, .int .i64 v] 38)).alloc (.cells #[.int .i64 0, .int .i64 1, .int .i64 0, .int .i64 0, .int .i64 0] 123)).cell? ⟨wi.heap.size + 1, 3, none⟩ = some (.int .i64 0) := by simp
       have g4 : ((wi.alloc (.cells #[.int .i64 x, .int .i64 y, .int .i64 v] 38)).alloc (.cells #[.int .i64 0, .int .i64 1, .int .i64 0, .int .i64 0, .int .i64 0] 123)).cell? ⟨wi.heap.size + 1, 4, none⟩ = some (.int .i64 0) := by simp
       have d0 := keep_cell hbH d0; have d1 := keep_cell hbH d1; have d2 := keep_cell hbH d2; have fz : ∀ j, ((wi.alloc (.cells #[.int .i64 x, .int .i64 y, .int .i64 v] 38)).alloc (.cells #[.int .i64 0, .int .i64 1, .int .i64 0, .int .i64 0, .int .i64 0] 123)).frozen? ⟨wi.heap.size + 1, j, none⟩ = false := fun j => by simp
       have HJH := Lib.hid hJH; have hrow0 : RowsA w ((wi.alloc (.cells #[.int .i64 x, .int .i64 y, .int .i64 v] 38)).alloc (.cells #[.int .i64 0, .int .i64 1, .int .i64 0, .int .i64 0, .int .i64 0] 123)) Q l [wi.heap.size + 1, wi.heap.size, B8] := by
        have := HRow10.out.more (.cells #[.int .i64 0, .int .i64 1, .int .i64 0, .int .i64 0, .int .i64 0] 123); simpa using this
       have Hrow0 := Lib.hid hrow0; have hszH : wi.heap.size + 2 ≤ ((wi.alloc (.cells #[.int .i64 x, .int .i64 y, .int .i64 v] 38)).alloc (.cells #[.int .i64 0, .int .i64 1, .int .i64 0, .int .i64 0, .int .i64 0] 123)).heap.size := by simp
       clear hJH hbH hlk' hrow0; generalize ((wi.alloc (.cells #[.int .i64 x, .int .i64 y, .int .i64 v] 38)).alloc (.cells #[.int .i64 0, .int .i64 1, .int .i64 0, .int .i64 0, .int .i64 0] 123)) = wH at *
       have hfn : fineP Q (l ++ [(i, (x, y, v))]) := (fineP_virt hv).2 ⟨HJH.out.fine, by rw [Hat.out]; rfl⟩; have hrw : RowsA w wH Q (l ++ [(i, (x, y, v))]) [wi.heap.size + 1, B8] := by
        have := Hrow0.out.sub (bs' := [wi.heap.size + 1, B8]) (by simp); unfold RowsA at this ⊢; rw [rowsO_same (newP_first Hat.out)]; exact this
       have Hfn := Lib.hid hfn; have Hrw := Lib.hid hrw; clear hfn hrw; refine regionT (fun w' => w'.cell? ⟨wi.heap.size, 0, none⟩ = some (.int .i64 x) ∧ w'.cell? ⟨wi.heap.size, 1, none⟩ = some (.int .i64 y) ∧ w'.cell? ⟨wi.heap.size, 2, none⟩ = some (.int .i64 v)) 4 (by kernel_rfl) ?_; have hS : wH.drew.cell? ⟨wi.heap.size, 0, none⟩ = some (.int .i64 x) ∧ wH.drew.cell? ⟨wi.heap.size, 1, none⟩ = some (.int .i64 y) ∧ wH.drew.cell? ⟨wi.heap.size, 2, none⟩ = some (.int .i64 v) := ⟨d0, d1, d2⟩
       refine tkT 0 ?_ rfl hS ?_ ?_ (by kernel_rfl) (fun _ _ _ h => h) (by rfl); rotate_left; (· intro wS hSw; (try dsimp only at hSw); go_simp; try with_reducible rfl); simp only [Act.put, zA, z0, z1]; refine tkT 1 ?_ rfl hS ?_ ?_ (by kernel_rfl) (fun _ _ _ h => h) (by rfl); rotate_left; (· intro wS hSw; (try dsimp only at hSw); go_simp; try with_reducible rfl); simp only [Act.put, zA, z0, z1]; refine tkT 2 ?_ rfl hS ?_ ?_ (by kernel_rfl) (fun _ _ _ h => h) (by rfl); rotate_left; (· intro wS hSw; (try dsimp only at hSw); go_simp; try with_reducible rfl); simp only [Act.put, zA, z0, z1]; refine oneT (i := 3) rfl (by kernel_rfl) (fun K hK => ?_); go_simp; refine hK _ _ (fun _ => ⟨(World.cell?_setCell_far _ _ _ _ (by simp)).trans d0, (World.cell?_setCell_far _ _ _ _ (by simp)).trans d1, (World.cell?_setCell_far _ _ _ _ (by simp)).trans d2⟩) ?_; clear hK K hS; refine restartT (fun _ => True) 6 (by kernel_rfl) ?_; have hS : True := trivial; refine tkT 4 ?_ rfl hS ?_ ?_ (by kernel_rfl) (fun _ _ _ h => h) (by rfl); rotate_left; (· intro wS hSw; (try dsimp only at hSw); go_simp; try with_reducible rfl); simp only [Act.put, zA, z0, z1]; refine oneT (i := 5) rfl (by kernel_rfl) (fun K hK => ?_); go_simp; refine hK _ _ (fun _ => trivial) ?_; clear hK K hS; refine doneT (by kernel_rfl) ?_ _; have hgT : wH.grownBy (((((wH.setCell ⟨wi.heap.size + 1, 0, none⟩ (.int .i64 i)).setCell ⟨wi.heap.size + 1, 2, none⟩ (.int .i64 x)).setCell ⟨wi.heap.size + 1, 3, none⟩ (.int .i64 y)).setCell ⟨wi.heap.size + 1, 4, none⟩ (.int .i64 v)).drew) (some (wi.heap.size + 1)) :=
        have h := grB_trans (grB_trans (grB_trans (grownBy_setCell wH ⟨wi.heap.size + 1, 0, none⟩ (.int .i64 i)) (grownBy_setCell _ ⟨wi.heap.size + 1, 2, none⟩ (.int .i64 x))) (grownBy_setCell _ ⟨wi.heap.size + 1, 3, none⟩ (.int .i64 y))) (grownBy_setCell _ ⟨wi.heap.size + 1, 4, none⟩ (.int .i64 v))
        ⟨h.os, h.tape, h.output, h.size, h.block⟩
       have HgT := Lib.hid hgT; have hHT : HeldM (((((wH.setCell ⟨wi.heap.size + 1, 0, none⟩ (.int .i64 i)).setCell ⟨wi.heap.size + 1, 2, none⟩ (.int .i64 x)).setCell ⟨wi.heap.size + 1, 3, none⟩ (.int .i64 y)).setCell ⟨wi.heap.size + 1, 4, none⟩ (.int .i64 v)).drew) w.heap.size l := MG.grown HJH.out.held hgT (fun e => by have := Option.some.inj e; omega); have HHT := Lib.hid hHT; have hnl := nums_le l; clear hgT hHT; go_wp2_with (at_mapUpdate; refine wpList_put_MG rfl _ _ _ _ rfl HHT.out mapLawZ Tryz.underlying120 rfl rfl rfl hvk (by omega) ?_; intro w9 hm9 hg9)
       have hJ9 : BesJ w w9 Q (l ++ [(i, (x, y, v))]) B8 kd := bes_tail (bh := wi.heap.size + 1) hv Hwf.out.2.2 Hfn.out HJH.out.held HJH.out.own Hrw.out HJH.out.bel HJH.out.kind (by omega) (by omega) HgT.out hg9 (by
        have e : (atV v l).length + 1 = 1 := by rw [Hat.out]; rfl
        simp only; rw [e]
        exact hm9)
       rw [← Hpre.out] at hJ9; have HJ9 := Lib.hid hJ9; clear hm9 hg9 hJ9; go_roundg (gk - 1)
       case measure => have := Hk.out; omega
       case rel => exact ⟨k + 1, by have := Hk.out; omega, by go_num, HJ9.out⟩
      | [(pa, (x', y', v'))] =>
       rw [heldF_one hat] at hlk; have hlk' : (Instr.lookup 120 (.map (some w.heap.size)) (.int .i64 v) false).run Tryz.prog (wi.alloc (.cells #[.int .i64 x, .int .i64 y, .int .i64 v] 38)) = .ok (.agg #[.int .i64 (pa : Nat), .int .i64 1, .int .i64 x', .int .i64 y', .int .i64 v']) (wi.alloc (.cells #[.int .i64 x, .int .i64 y, .int .i64 v] 38)) := hlk; have hpaQ : pa < Q.length := by
        have hm : (pa, ((x', y', v') : Lk)) ∈ atV v l := by rw [hat]; simp
        have := (mem_atV.1 hm).1; rw [Hl.out] at this; unfold preQ at this; rcases List.mem_append.1 this with h | h
        · have := (mem_preO.1 h).1; omega
        · have := (mem_rowO.1 (List.mem_of_mem_take h)).1; simp only at this; omega
       obtain ⟨bd, hbd⟩ : ∃ bd, bd = badB Q (pa, (x', y', v')) (i, (x, y, v)) := ⟨_, rfl⟩
       have hpv : pairB Q (atV v l ++ [(i, ((x, y, v) : Lk))]) = !bd := by rw [hat, hbd]; exact pair_bad Q (pa, (x', y', v')) (i, (x, y, v))
       obtain ⟨bq, oq, auq, cuq, he9, pk0, _, _, _, _⟩ := hr pa _ (List.getElem?_eq_getElem hpaQ); cases he9; obtain ⟨kq, hkq⟩ : ∃ kq, kq = Q[pa].1 := ⟨_, rfl⟩
       have hkpa : kdQ Q pa = kq := by rw [kdQ_at hpaQ, hkq]
       rw [← hkq] at pk0; unfold badB at hbd; simp only at hbd; rw [hkpa, Hkd.out] at hbd; have Hat := Lib.hid hat; have Hpv := Lib.hid hpv; have Hbd := Lib.hid hbd; clear hlk hpb hfine hat hpv hbd hkq hkpa; go_upto_region 17 with (fail)
       have hbH := bl_alloc (wi.alloc (.cells #[.int .i64 x, .int .i64 y, .int .i64 v] 38)) (.cells #[.int .i64 (pa : Nat), .int .i64 2, .int .i64 x', .int .i64 y', .int .i64 v'] 123); have hJH := HJ10.out.grown hbH; have g0 : ((wi.alloc (.cells #[.int .i64 x, .int .i64 y, .int .i64 v] 38)).alloc (.cells #[.int .i64 (pa : Nat), .int .i64 2, .int .i64 x', .int .i64 y', .int .i64 v'] 123)).cell? ⟨wi.heap.size + 1, 0, none⟩ = some (.int .i64 (pa : Nat)) := by simp
       have g1 : ((wi.alloc (.cells #[.int .i64 x, .int .i64 y, .int .i64 v] 38)).alloc (.cells #[.int .i64 (pa : Nat), .int .i64 2, .int .i64 x', .int .i64 y', .int .i64 v'] 123)).cell? ⟨wi.heap.size + 1, 1, none⟩ = some (.int .i64 2) := by simp
       have g2 : ((wi.alloc (.cells #[.int .i64 x, .int .i64 y, .int .i64 v] 38)).alloc (.cells #[.int .i64 (pa : Nat), .int .i64 2, .int .i64 x', .int .i64 y', .int .i64 v'] 123)).cell? ⟨wi.heap.size + 1, 2, none⟩ = some (.int .i64 x') := by simp
       have g3 : ((wi.alloc (.cells #[.int .i64 x, .int .i64 y, .int .i64 v] 38)).alloc (.cells #[.int .i64 (pa : Nat), .int .i64 2, .int .i64 x', .int .i64 y', .int .i64 v'] 123)).cell? ⟨wi.heap.size + 1, 3, none⟩ = some (.int .i64 y') := by simp
       have g4 : ((wi.alloc (.cells #[.int .i64 x, .int .i64 y, .int .i64 v] 38)).alloc (.cells #[.int .i64 (pa : Nat), .int .i64 2, .int .i64 x', .int .i64 y', .int .i64 v'] 123)).cell? ⟨wi.heap.size + 1, 4, none⟩ = some (.int .i64 v') := by simp
       have d0 := keep_cell hbH d0; have d1 := keep_cell hbH d1; have d2 := keep_cell hbH d2; have fz : ∀ j, ((wi.alloc (.cells #[.int .i64 x, .int .i64 y, .int .i64 v] 38)).alloc (.cells #[.int .i64 (pa : Nat), .int .i64 2, .int .i64 x', .int .i64 y', .int .i64 v'] 123)).frozen? ⟨wi.heap.size + 1, j, none⟩ = false := fun j => by simp
       have HJH := Lib.hid hJH; have hrow0 : RowsA w ((wi.alloc (.cells #[.int .i64 x, .int .i64 y, .int .i64 v] 38)).alloc (.cells #[.int .i64 (pa : Nat), .int .i64 2, .int .i64 x', .int .i64 y', .int .i64 v'] 123)) Q l [wi.heap.size + 1, wi.heap.size, B8] := by
        have := HRow10.out.more (.cells #[.int .i64 (pa : Nat), .int .i64 2, .int .i64 x', .int .i64 y', .int .i64 v'] 123); simpa using this
       have Hrow0 := Lib.hid hrow0; have hszH : wi.heap.size + 2 ≤ ((wi.alloc (.cells #[.int .i64 x, .int .i64 y, .int .i64 v] 38)).alloc (.cells #[.int .i64 (pa : Nat), .int .i64 2, .int .i64 x', .int .i64 y', .int .i64 v'] 123)).heap.size := by simp
       clear hJH hbH hlk' hrow0; generalize ((wi.alloc (.cells #[.int .i64 x, .int .i64 y, .int .i64 v] 38)).alloc (.cells #[.int .i64 (pa : Nat), .int .i64 2, .int .i64 x', .int .i64 y', .int .i64 v'] 123)) = wH at *
       have hBH := HJH.out.bel; have pk := keep_cell hBH pk0; have kk := HJH.out.kind; have hpe := fun w => lk_eq (x', y', v') (x, y, v) w; unfold lkV at hpe; simp only at hpe; have hgt : Tryz.prog.eqGuardType Tryz.prog.depth 38 = false := by kernel_rfl
       have ip1 : (pa : Int) < (Q.length : Int) := by omega
       go_cut [89] (fun tv wx => tv = .bool bd ∧ ∃ d, wx = wH.drewN d)
       case first =>
        by_cases h1 : pa = i
        ·
         have e1 : ((pa : Int) == (i : Int)) = true := by simp; omega
         have e1' : (pa == i) = true := by simpa using h1
         have hb : bd = true := by rw [Hbd.out]; simp [h1]
         have HbT := Lib.hid hb; clear h1 hb hpe; go_wp2_with fail; go_quiet (fail)
         go_wp2_with fail; go_meet
         exact ⟨by rw [HbT.out] <;> rfl, nq, rfl⟩
        have e1 : ((pa : Int) == (i : Int)) = false := by simp; omega
        have e1' : (pa == i) = false := by simpa using h1
        by_cases h2 : ((x', y', v') : Lk) = (x, y, v)
        ·
         rw [decide_eq_true h2] at hpe; by_cases h3 : kq = kd
         ·
          have e3 : (kq == kd) = true := by simpa using h3
          by_cases h4 : kd = 3
          ·
           have e4 : (kd != 3) = false := by simpa using h4
           have hb : bd = false := by rw [Hbd.out]; simp [h1, h2, h3, h4]
           have HbT := Lib.hid hb; clear h1 h2 h3 h4 hb; go_wp2_with fail; go_quiet (fail)
           go_wp2_with fail; go_meet
           exact ⟨by rw [HbT.out] <;> rfl, nq, rfl⟩
          ·
           have e4 : (kd != 3) = true := by simpa using h4
           have hb : bd = true := by rw [Hbd.out]; simp [h1, h2, h3, h4]
           have HbT := Lib.hid hb; clear h1 h2 h3 h4 hb; go_wp2_with fail; go_quiet (fail)
           go_wp2_with fail; go_meet
           exact ⟨by rw [HbT.out] <;> rfl, nq, rfl⟩
         ·
          have e3 : (kq == kd) = false := by simpa using h3
          have hb : bd = false := by rw [Hbd.out]; simp [h1, h2, h3]
          have HbT := Lib.hid hb; clear h1 h2 h3 hb; go_wp2_with fail; go_quiet (fail)
          go_wp2_with fail; go_meet
          exact ⟨by rw [HbT.out] <;> rfl, nq, rfl⟩
        ·
         rw [decide_eq_false h2] at hpe; have hb : bd = true := by rw [Hbd.out]; simp only [decide_eq_true_eq, ne_eq, h2, not_false_eq_true, decide_true, Bool.true_or, Bool.or_true]
         have HbT := Lib.hid hb; clear h1 h2 hb; go_wp2_with fail; go_quiet (fail)
         go_wp2_with fail; go_meet
         exact ⟨by rw [HbT.out] <;> rfl, nq, rfl⟩
       case rest =>
       obtain ⟨rfl, nq, rfl⟩ := hcut; clear hpe hgt pk kk pk0; cases bd with
       | true =>
        have hbad : ¬ besideP Q := bes_no (i := i) (k := k + 1) (by omega) (by
         rw [Hpre.out, fineP_virt hv, Hpv.out]
         exact fun h => by have := h.2; simp at this)
        have Hbad := Lib.hid hbad; clear hbad; go_wp2_with fail; go_ret2; exact ⟨below_drewN hBH _, .inr ⟨Hbad.out, rfl⟩⟩
       | false =>
        have hne : pa ≠ i := fun h => by
         have := Hbd.out; simp [h] at this
        have hfn : fineP Q (l ++ [(i, (x, y, v))]) := (fineP_virt hv).2 ⟨HJH.out.fine, by rw [Hpv.out]; rfl⟩; have Hfn := Lib.hid hfn; have HJH := Lib.hid (HJH.out.grown (below_drewN (bl_refl wH) nq)); have Hrow0 := Lib.hid (Hrow0.out.below (below_drewN (bl_refl wH) nq)); have g0 : (wH.drewN nq).cell? ⟨wi.heap.size + 1, 0, none⟩ = some (.int .i64 (pa : Nat)) := g0; have g1 : (wH.drewN nq).cell? ⟨wi.heap.size + 1, 1, none⟩ = some (.int .i64 2) := g1; have g2 : (wH.drewN nq).cell? ⟨wi.heap.size + 1, 2, none⟩ = some (.int .i64 x') := g2; have g3 : (wH.drewN nq).cell? ⟨wi.heap.size + 1, 3, none⟩ = some (.int .i64 y') := g3; have g4 : (wH.drewN nq).cell? ⟨wi.heap.size + 1, 4, none⟩ = some (.int .i64 v') := g4; have d0 : (wH.drewN nq).cell? ⟨wi.heap.size, 0, none⟩ = some (.int .i64 x) := d0; have d1 : (wH.drewN nq).cell? ⟨wi.heap.size, 1, none⟩ = some (.int .i64 y) := d1; have d2 : (wH.drewN nq).cell? ⟨wi.heap.size, 2, none⟩ = some (.int .i64 v) := d2; have fz : ∀ j, (wH.drewN nq).frozen? ⟨wi.heap.size + 1, j, none⟩ = false := fz; have hszH : wi.heap.size + 2 ≤ (wH.drewN nq).heap.size := hszH; clear hBH; go_wp2_with fail; generalize wH.drewN nq = wH at *
        have hR0 : BesR w wH Q.length l (rowsO Q.length l) [wi.heap.size + 1, wi.heap.size, B8] B8 kd := ⟨HJH.out.held, HJH.out.own, Hrow0.out, HJH.out.bel, HJH.out.kind, fun z hz => by simp only [List.mem_cons, List.not_mem_nil, or_false] at hz; rcases hz with rfl | rfl | rfl <;> omega, by simp⟩
        have hil2 : i < Q.length := by omega
        have hst := rowsO_step (n := Q.length) (l := l) (p := (i, ((x, y, v) : Lk))) (a := (pa, ((x', y', v') : Lk))) hv Hat.out hne hil2 hpaQ; simp only at hst; have hrI := rowsO_get (n := Q.length) (l := l) hil2; have hrP := rowsO_get (n := Q.length) (l := l) hpaQ; have hol : ∀ j, (outO (pairsO l) j).length ≤ 4000000 := fun j => by have h1 := outO_len (pairsO l) j; have h2 := pairsO_len l; omega
        have holI := hol i; have holP := hol pa; obtain ⟨rI, hrIe⟩ : ∃ r, r = outO (pairsO l) i := ⟨_, rfl⟩
        obtain ⟨rP, hrPe⟩ : ∃ r, r = outO (pairsO l) pa := ⟨_, rfl⟩
        rw [← hrIe] at hst hrI holI; rw [← hrPe] at hst hrP holP; have hrP1 : ((rowsO Q.length l).set i (rI.map vN ++ [vN pa]))[pa]? = some (rP.map vN) := by rw [List.getElem?_set, if_neg (fun h => hne h.symm)]; exact hrP
        have HR0 := Lib.hid hR0; have Hst := Lib.hid hst; have HrI := Lib.hid hrI; have HrP1 := Lib.hid hrP1; have iI1 : (i : Int) < (Q.length : Int) := by omega
        clear hfn hR0 hst hrI hrP hrP1 hrIe hrPe hol Hrow0 HJH; have hsz0 := HR0.out.lt _ HR0.out.mem; obtain ⟨vals, hO, hap⟩ := HR0.out.rows; have hGl := hO.outer.lt; have hjl : i < vals.length := by rw [hO.len]; exact (List.getElem?_eq_some_iff.1 HrI.out).1
        obtain ⟨uI, hu⟩ : ∃ u, vals[i]? = some u := ⟨vals[i], by simp⟩
        have hown := hO.own _ uI _ hu HrI.out; rw [List.length_map] at hown; have hcJ : wH.cell? ⟨w.heap.size + 1 + 1, i, none⟩ = some uI := by rw [hO.outer.cell? _ hjl]; exact hu
        have hfJ := hO.outer.frozen i; have hneJ := hO.ne_outer hu; have Hu := Lib.hid hu; have HO := Lib.hid hO; have Hap := Lib.hid hap; have hnH : (∀ g, uI.ownBlock = some g → g ≠ wi.heap.size + 1) := fun g hg e => hap _ _ g hu hg (by rw [e]; simp); have Hnh := Lib.hid hnH; clear hu hO hap hnH; refine regionT (fun w' => w'.cell? ⟨w.heap.size + 1 + 1, i, none⟩ = some uI ∧ w'.frozen? ⟨w.heap.size + 1 + 1, i, none⟩ = false ∧ w'.cell? ⟨wi.heap.size + 1, 0, none⟩ = some (.int .i64 (pa : Nat))) 10 (by kernel_rfl) ?_; have hS : wH.drew.cell? ⟨w.heap.size + 1 + 1, i, none⟩ = some uI ∧ wH.drew.frozen? ⟨w.heap.size + 1 + 1, i, none⟩ = false ∧ wH.drew.cell? ⟨wi.heap.size + 1, 0, none⟩ = some (.int .i64 (pa : Nat)) := ⟨hcJ, hfJ, g0⟩
        refine tkT 0 ?_ rfl hS ?_ ?_ (by kernel_rfl) (fun _ _ _ h => h) (by rfl); rotate_left; (· intro wS hSw; (try dsimp only at hSw); go_simp; try with_reducible rfl); simp only [Act.put, zA, z0, z1]; refine tkT 1 ?_ rfl hS ?_ ?_ (by kernel_rfl) (fun _ _ _ h => h) (by rfl); rotate_left; (· intro wS hSw; (try dsimp only at hSw); go_simp; try with_reducible rfl); simp only [Act.put, zA, z0, z1]; refine tkT 2 ?_ rfl hS ?_ ?_ (by kernel_rfl) (fun _ _ _ h => h) (by rfl); rotate_left; (· intro wS hSw; (try dsimp only at hSw); go_simp; try with_reducible rfl); simp only [Act.put, zA, z0, z1]; refine tkT 3 ?_ rfl hS ?_ ?_ (by kernel_rfl) (fun _ _ _ h => h) (by rfl); rotate_left; (· intro wS hSw; (try dsimp only at hSw); go_simp; try with_reducible rfl); simp only [Act.put, zA, z0, z1]; refine tkT 4 ?_ rfl hS ?_ ?_ (by kernel_rfl) (fun _ _ _ h => h) (by rfl); rotate_left; (· intro wS hSw; (try dsimp only at hSw); go_simp; try with_reducible rfl); simp only [Act.put, zA, z0, z1]; refine tkT 5 ?_ rfl hS ?_ ?_ (by kernel_rfl) (fun _ _ _ h => h) (by rfl); rotate_left; (· intro wS hSw; (try dsimp only at hSw); go_simp; try with_reducible rfl); simp only [Act.put, zA, z0, z1]; refine tkT 6 ?_ rfl hS ?_ ?_ (by kernel_rfl) (fun _ _ _ h => h) (by rfl); rotate_left; (· intro wS hSw; (try dsimp only at hSw); go_simp; try with_reducible rfl); simp only [Act.put, zA, z0, z1]; refine tkT 7 ?_ rfl hS ?_ ?_ (by kernel_rfl) (fun _ _ _ h => h) (by rfl); rotate_left; (· intro wS hSw; (try dsimp only at hSw); go_simp; try with_reducible rfl); simp only [Act.put, zA, z0, z1]
        refine oneT (i := 8) rfl (by kernel_rfl) (fun K hK => ?_); go_simp; have hba := (bl_alloc wH (.cells #[.int .i64 (pa : Nat)] 3)).drew; have hS2 := And.intro (keep_cell hba hcJ) (And.intro ((hba.frozen (p := ⟨w.heap.size + 1 + 1, i, none⟩) hGl).trans hfJ) (keep_cell hba g0)); refine hK _ _ (fun _ => hS2) ?_; clear hK K hS; refine oneT (i := 9) rfl (by kernel_rfl) (fun K hK => ?_); refine step_append_row rfl (.tmp 95) (.tmp 98) 33 rfl 3 (.int .i64 0) 1 8 Tryz.underlying33 int_info rfl uI rI.length _ rfl ((hown.alloc _).drew) ⟨wH.heap.size, 0, none⟩ 1 1 [.int .i64 (pa : Nat)] rfl rfl (one_new (cell_new1 rfl)) (one_ok _ _) (by omega) (by unfold maxLen; omega) (by omega) ?_; intro g5 c5 w5 hr5 hc5 hg5 hor5; have hS3 := And.intro (grown_cell hg5 hS2.1 hneJ) (And.intro (grown_frozen hg5 (by simp; omega) hS2.2.1 hneJ) (grown_cell hg5 hS2.2.2 (fun e => Hnh.out _ e rfl))); refine hK _ _ (fun _ => hS3) ?_; clear hK K hS2; refine restartT (fun _ => True) 12 (by kernel_rfl) ?_; have hS : True := trivial; refine tkT 10 ?_ rfl hS ?_ ?_ (by kernel_rfl) (fun _ _ _ h => h) (by rfl); rotate_left; (· intro wS hSw; (try dsimp only at hSw); go_simp; try with_reducible rfl); simp only [Act.put, zA, z0, z1]; obtain ⟨k1, k2, _⟩ := hS3; refine oneT (i := 11) rfl (by kernel_rfl) (fun K hK => ?_); go_simp; refine hK _ _ (fun _ => trivial) ?_; clear hK K hS; refine doneT (by kernel_rfl) ?_ _; obtain ⟨hN, hNc1, hNc2, _⟩ := HR0.out.push HO.out Hap.out Hu.out HrI.out (o := .cells #[.int .i64 (pa : Nat)] 3) hr5 hg5 (hor5.imp (fun h => h) (fun h => by simpa using h))
        generalize w5.setCell ⟨w.heap.size + 1 + 1, i, none⟩ (.slice (some ⟨g5, 0, none⟩) (rI.length + 1) c5) = wA at hN hNc1 hNc2 ⊢; have HR1 := Lib.hid hN; have Hc1 := Lib.hid (And.intro hNc1 hNc2); clear hr5 hg5 hor5 hN hNc1 hNc2 hba hcJ hfJ hneJ k1 k2 HO Hap Hu Hnh hown hGl hjl; have g0 : wA.cell? ⟨wi.heap.size + 1, 0, none⟩ = some (.int .i64 (pa : Nat)) := (Hc1.out.1 _ (by simp) 0).symm.trans g0; have g1 : wA.cell? ⟨wi.heap.size + 1, 1, none⟩ = some (.int .i64 2) := (Hc1.out.1 _ (by simp) 1).symm.trans g1; have g2 : wA.cell? ⟨wi.heap.size + 1, 2, none⟩ = some (.int .i64 x') := (Hc1.out.1 _ (by simp) 2).symm.trans g2; have g3 : wA.cell? ⟨wi.heap.size + 1, 3, none⟩ = some (.int .i64 y') := (Hc1.out.1 _ (by simp) 3).symm.trans g3; have g4 : wA.cell? ⟨wi.heap.size + 1, 4, none⟩ = some (.int .i64 v') := (Hc1.out.1 _ (by simp) 4).symm.trans g4; have d0 : wA.cell? ⟨wi.heap.size, 0, none⟩ = some (.int .i64 x) := (Hc1.out.1 _ (by simp) 0).symm.trans d0; have d1 : wA.cell? ⟨wi.heap.size, 1, none⟩ = some (.int .i64 y) := (Hc1.out.1 _ (by simp) 1).symm.trans d1; have d2 : wA.cell? ⟨wi.heap.size, 2, none⟩ = some (.int .i64 v) := (Hc1.out.1 _ (by simp) 2).symm.trans d2; have fz : ∀ j, wA.frozen? ⟨wi.heap.size + 1, j, none⟩ = false := fun j => (Hc1.out.2 _ (by simp) j).symm.trans (fz j); go_wp2_with fail; have hsz1 := HR1.out.lt _ HR1.out.mem; have iI2 : (pa : Int) < (Q.length : Int) := by omega
        obtain ⟨vals, hO, hap⟩ := HR1.out.rows; have hGl := hO.outer.lt; have hjl : pa < vals.length := by rw [hO.len]; exact (List.getElem?_eq_some_iff.1 HrP1.out).1
        obtain ⟨uP, hu⟩ : ∃ u, vals[pa]? = some u := ⟨vals[pa], by simp⟩
        have hown := hO.own _ uP _ hu HrP1.out; rw [List.length_map] at hown; have hcJ : wA.cell? ⟨w.heap.size + 1 + 1, pa, none⟩ = some uP := by rw [hO.outer.cell? _ hjl]; exact hu
        have hfJ := hO.outer.frozen pa; have hneJ := hO.ne_outer hu; have Hu := Lib.hid hu; have HO := Lib.hid hO; have Hap := Lib.hid hap; have hnH : (∀ g, uP.ownBlock = some g → g ≠ wi.heap.size + 1) := fun g hg e => hap _ _ g hu hg (by rw [e]; simp); have Hnh := Lib.hid hnH; clear hu hO hap hnH; refine regionT (fun w' => w'.cell? ⟨w.heap.size + 1 + 1, pa, none⟩ = some uP ∧ w'.frozen? ⟨w.heap.size + 1 + 1, pa, none⟩ = false ∧ w'.cell? ⟨wi.heap.size + 1, 0, none⟩ = some (.int .i64 (pa : Nat))) 11 (by kernel_rfl) ?_; have hS : wA.drew.cell? ⟨w.heap.size + 1 + 1, pa, none⟩ = some uP ∧ wA.drew.frozen? ⟨w.heap.size + 1 + 1, pa, none⟩ = false ∧ wA.drew.cell? ⟨wi.heap.size + 1, 0, none⟩ = some (.int .i64 (pa : Nat)) := ⟨hcJ, hfJ, g0⟩
        refine tkT 0 ?_ rfl hS ?_ ?_ (by kernel_rfl) (fun _ _ _ h => h) (by rfl); rotate_left; (· intro wS hSw; (try dsimp only at hSw); go_simp; try with_reducible rfl); simp only [Act.put, zA, z0, z1]; refine tkT 1 ?_ rfl hS ?_ ?_ (by kernel_rfl) (fun _ _ _ h => h) (by rfl); rotate_left; (· intro wS hSw; (try dsimp only at hSw); go_simp; try with_reducible rfl); simp only [Act.put, zA, z0, z1]; refine tkT 2 ?_ rfl hS ?_ ?_ (by kernel_rfl) (fun _ _ _ h => h) (by rfl); rotate_left; (· intro wS hSw; (try dsimp only at hSw); go_simp; try with_reducible rfl); simp only [Act.put, zA, z0, z1]; refine tkT 3 ?_ rfl hS ?_ ?_ (by kernel_rfl) (fun _ _ _ h => h) (by rfl); rotate_left; (· intro wS hSw; (try dsimp only at hSw); go_simp; try with_reducible rfl); simp only [Act.put, zA, z0, z1]; refine tkT 4 ?_ rfl hS ?_ ?_ (by kernel_rfl) (fun _ _ _ h => h) (by rfl); rotate_left; (· intro wS hSw; (try dsimp only at hSw); go_simp; try with_reducible rfl); simp only [Act.put, zA, z0, z1]; refine tkT 5 ?_ rfl hS ?_ ?_ (by kernel_rfl) (fun _ _ _ h => h) (by rfl); rotate_left; (· intro wS hSw; (try dsimp only at hSw); go_simp; try with_reducible rfl); simp only [Act.put, zA, z0, z1]; refine tkT 6 ?_ rfl hS ?_ ?_ (by kernel_rfl) (fun _ _ _ h => h) (by rfl); rotate_left; (· intro wS hSw; (try dsimp only at hSw); go_simp; try with_reducible rfl); simp only [Act.put, zA, z0, z1]; refine tkT 7 ?_ rfl hS ?_ ?_ (by kernel_rfl) (fun _ _ _ h => h) (by rfl); rotate_left; (· intro wS hSw; (try dsimp only at hSw); go_simp; try with_reducible rfl); simp only [Act.put, zA, z0, z1]
        refine tkT 8 ?_ rfl hS ?_ ?_ (by kernel_rfl) (fun _ _ _ h => h) (by rfl); rotate_left; (· intro wS hSw; (try dsimp only at hSw); go_simp; try with_reducible rfl); simp only [Act.put, zA, z0, z1]; refine oneT (i := 9) rfl (by kernel_rfl) (fun K hK => ?_); go_simp; have hba := (bl_alloc wA (.cells #[.int .i64 (i : Nat)] 3)).drew; have hS2 := And.intro (keep_cell hba hcJ) (And.intro ((hba.frozen (p := ⟨w.heap.size + 1 + 1, pa, none⟩) hGl).trans hfJ) (keep_cell hba g0)); refine hK _ _ (fun _ => hS2) ?_; clear hK K hS; refine oneT (i := 10) rfl (by kernel_rfl) (fun K hK => ?_); refine step_append_row rfl (.tmp 108) (.tmp 110) 33 rfl 3 (.int .i64 0) 1 8 Tryz.underlying33 int_info rfl uP rP.length _ rfl ((hown.alloc _).drew) ⟨wA.heap.size, 0, none⟩ 1 1 [.int .i64 (i : Nat)] rfl rfl (one_new (cell_new1 rfl)) (one_ok _ _) (by omega) (by unfold maxLen; omega) (by omega) ?_; intro g5 c5 w5 hr5 hc5 hg5 hor5; have hS3 := And.intro (grown_cell hg5 hS2.1 hneJ) (And.intro (grown_frozen hg5 (by simp; omega) hS2.2.1 hneJ) (grown_cell hg5 hS2.2.2 (fun e => Hnh.out _ e rfl))); refine hK _ _ (fun _ => hS3) ?_; clear hK K hS2; refine restartT (fun _ => True) 13 (by kernel_rfl) ?_; have hS : True := trivial; refine tkT 11 ?_ rfl hS ?_ ?_ (by kernel_rfl) (fun _ _ _ h => h) (by rfl); rotate_left; (· intro wS hSw; (try dsimp only at hSw); go_simp; try with_reducible rfl); simp only [Act.put, zA, z0, z1]; obtain ⟨k1, k2, _⟩ := hS3; refine oneT (i := 12) rfl (by kernel_rfl) (fun K hK => ?_); go_simp; refine hK _ _ (fun _ => trivial) ?_
        clear hK K hS; refine doneT (by kernel_rfl) ?_ _; obtain ⟨hN, hNc1, hNc2, _⟩ := HR1.out.push HO.out Hap.out Hu.out HrP1.out (o := .cells #[.int .i64 (i : Nat)] 3) hr5 hg5 (hor5.imp (fun h => h) (fun h => by simpa using h)); generalize w5.setCell ⟨w.heap.size + 1 + 1, pa, none⟩ (.slice (some ⟨g5, 0, none⟩) (rP.length + 1) c5) = wB at hN hNc1 hNc2 ⊢; have HR2 := Lib.hid hN; have Hc2 := Lib.hid (And.intro hNc1 hNc2); clear hr5 hg5 hor5 hN hNc1 hNc2 hba hcJ hfJ hneJ k1 k2 HO Hap Hu Hnh hown hGl hjl; have g0 : wB.cell? ⟨wi.heap.size + 1, 0, none⟩ = some (.int .i64 (pa : Nat)) := (Hc2.out.1 _ (by simp) 0).symm.trans g0; have g1 : wB.cell? ⟨wi.heap.size + 1, 1, none⟩ = some (.int .i64 2) := (Hc2.out.1 _ (by simp) 1).symm.trans g1; have g2 : wB.cell? ⟨wi.heap.size + 1, 2, none⟩ = some (.int .i64 x') := (Hc2.out.1 _ (by simp) 2).symm.trans g2; have g3 : wB.cell? ⟨wi.heap.size + 1, 3, none⟩ = some (.int .i64 y') := (Hc2.out.1 _ (by simp) 3).symm.trans g3; have g4 : wB.cell? ⟨wi.heap.size + 1, 4, none⟩ = some (.int .i64 v') := (Hc2.out.1 _ (by simp) 4).symm.trans g4; have d0 : wB.cell? ⟨wi.heap.size, 0, none⟩ = some (.int .i64 x) := (Hc2.out.1 _ (by simp) 0).symm.trans d0; have d1 : wB.cell? ⟨wi.heap.size, 1, none⟩ = some (.int .i64 y) := (Hc2.out.1 _ (by simp) 1).symm.trans d1; have d2 : wB.cell? ⟨wi.heap.size, 2, none⟩ = some (.int .i64 v) := (Hc2.out.1 _ (by simp) 2).symm.trans d2; have fz : ∀ j, wB.frozen? ⟨wi.heap.size + 1, j, none⟩ = false := fun j => (Hc2.out.2 _ (by simp) j).symm.trans (fz j)
        have hrw : RowsA w wB Q (l ++ [(i, (x, y, v))]) [wi.heap.size + 1, B8] := by
         have h9 := HR2.out.rows; rw [Hst.out] at h9; exact RowsA.sub (bs := [wi.heap.size + 1, wi.heap.size, B8]) h9 (by simp)
        have Hrw := Lib.hid hrw; have hsz2 := HR2.out.lt (wi.heap.size + 1) (by simp); clear hrw; go_wp2_with fail; refine regionT (fun w' => w'.cell? ⟨wi.heap.size, 0, none⟩ = some (.int .i64 x) ∧ w'.cell? ⟨wi.heap.size, 1, none⟩ = some (.int .i64 y) ∧ w'.cell? ⟨wi.heap.size, 2, none⟩ = some (.int .i64 v)) 4 (by kernel_rfl) ?_; have hS : wB.drew.cell? ⟨wi.heap.size, 0, none⟩ = some (.int .i64 x) ∧ wB.drew.cell? ⟨wi.heap.size, 1, none⟩ = some (.int .i64 y) ∧ wB.drew.cell? ⟨wi.heap.size, 2, none⟩ = some (.int .i64 v) := ⟨d0, d1, d2⟩
        refine tkT 0 ?_ rfl hS ?_ ?_ (by kernel_rfl) (fun _ _ _ h => h) (by rfl); rotate_left; (· intro wS hSw; (try dsimp only at hSw); go_simp; try with_reducible rfl); simp only [Act.put, zA, z0, z1]; refine tkT 1 ?_ rfl hS ?_ ?_ (by kernel_rfl) (fun _ _ _ h => h) (by rfl); rotate_left; (· intro wS hSw; (try dsimp only at hSw); go_simp; try with_reducible rfl); simp only [Act.put, zA, z0, z1]; refine tkT 2 ?_ rfl hS ?_ ?_ (by kernel_rfl) (fun _ _ _ h => h) (by rfl); rotate_left; (· intro wS hSw; (try dsimp only at hSw); go_simp; try with_reducible rfl); simp only [Act.put, zA, z0, z1]; refine oneT (i := 3) rfl (by kernel_rfl) (fun K hK => ?_); go_simp; refine hK _ _ (fun _ => ⟨(World.cell?_setCell_far _ _ _ _ (by simp)).trans d0, (World.cell?_setCell_far _ _ _ _ (by simp)).trans d1, (World.cell?_setCell_far _ _ _ _ (by simp)).trans d2⟩) ?_; clear hK K hS; refine restartT (fun _ => True) 6 (by kernel_rfl) ?_; have hS : True := trivial; refine tkT 4 ?_ rfl hS ?_ ?_ (by kernel_rfl) (fun _ _ _ h => h) (by rfl); rotate_left; (· intro wS hSw; (try dsimp only at hSw); go_simp; try with_reducible rfl); simp only [Act.put, zA, z0, z1]; refine oneT (i := 5) rfl (by kernel_rfl) (fun K hK => ?_); go_simp; refine hK _ _ (fun _ => trivial) ?_; clear hK K hS; refine doneT (by kernel_rfl) ?_ _; have hgT : wB.grownBy (((((wB.setCell ⟨wi.heap.size + 1, 0, none⟩ (.int .i64 i)).setCell ⟨wi.heap.size + 1, 2, none⟩ (.int .i64 x)).setCell ⟨wi.heap.size + 1, 3, none⟩ (.int .i64 y)).setCell ⟨wi.heap.size + 1, 4, none⟩ (.int .i64 v)).drew) (some (wi.heap.size + 1)) :=
         have h := grB_trans (grB_trans (grB_trans (grownBy_setCell wB ⟨wi.heap.size + 1, 0, none⟩ (.int .i64 i)) (grownBy_setCell _ ⟨wi.heap.size + 1, 2, none⟩ (.int .i64 x))) (grownBy_setCell _ ⟨wi.heap.size + 1, 3, none⟩ (.int .i64 y))) (grownBy_setCell _ ⟨wi.heap.size + 1, 4, none⟩ (.int .i64 v))
         ⟨h.os, h.tape, h.output, h.size, h.block⟩
        have HgT := Lib.hid hgT; have hHT : HeldM (((((wB.setCell ⟨wi.heap.size + 1, 0, none⟩ (.int .i64 i)).setCell ⟨wi.heap.size + 1, 2, none⟩ (.int .i64 x)).setCell ⟨wi.heap.size + 1, 3, none⟩ (.int .i64 y)).setCell ⟨wi.heap.size + 1, 4, none⟩ (.int .i64 v)).drew) w.heap.size l := MG.grown HR2.out.held hgT (fun e => by have := Option.some.inj e; omega); have HHT := Lib.hid hHT; have hnl := nums_le l; clear hgT hHT; go_wp2_with (at_mapUpdate; refine wpList_put_MG rfl _ _ _ _ rfl HHT.out mapLawZ Tryz.underlying120 rfl rfl rfl hvk (by omega) ?_; intro w9 hm9 hg9)
        have hJ9 : BesJ w w9 Q (l ++ [(i, (x, y, v))]) B8 kd := bes_tail (bh := wi.heap.size + 1) hv Hwf.out.2.2 Hfn.out HR2.out.held HR2.out.own Hrw.out HR2.out.bel HR2.out.kind (by omega) (by omega) HgT.out hg9 (by
         have e : (atV v l).length + 1 = 2 := by rw [Hat.out]; rfl
         simp only; rw [e]
         exact hm9)
        rw [← Hpre.out] at hJ9; have HJ9 := Lib.hid hJ9; clear hm9 hg9 hJ9; go_roundg (gk - 1)
        case measure => have := Hk.out; omega
        case rel => exact ⟨k + 1, by have := Hk.out; omega, by go_num, HJ9.out⟩
      | [_, (pa, (x', y', v'))] =>
       rw [heldF_two hat] at hlk; have hlk' : (Instr.lookup 120 (.map (some w.heap.size)) (.int .i64 v) false).run Tryz.prog (wi.alloc (.cells #[.int .i64 x, .int .i64 y, .int .i64 v] 38)) = .ok (.agg #[.int .i64 (pa : Nat), .int .i64 2, .int .i64 x', .int .i64 y', .int .i64 v']) (wi.alloc (.cells #[.int .i64 x, .int .i64 y, .int .i64 v] 38)) := hlk
       have hbad : ¬ besideP Q := bes_no (i := i) (k := k + 1) (by omega) (by
        rw [Hpre.out, fineP_virt hv, hat]
        exact fun h => by have := h.2; simp [pairB] at this)
       have Hbad := Lib.hid hbad; clear hlk hpb hfine hat hbad; go_upto_region 17 with (fail)
       have hbH := bl_alloc (wi.alloc (.cells #[.int .i64 x, .int .i64 y, .int .i64 v] 38)) (.cells #[.int .i64 (pa : Nat), .int .i64 3, .int .i64 x', .int .i64 y', .int .i64 v'] 123); have hJH := HJ10.out.grown hbH; have g0 : ((wi.alloc (.cells #[.int .i64 x, .int .i64 y, .int .i64 v] 38)).alloc (.cells #[.int .i64 (pa : Nat), .int .i64 3, .int .i64 x', .int .i64 y', .int .i64 v'] 123)).cell? ⟨wi.heap.size + 1, 0, none⟩ = some (.int .i64 (pa : Nat)) := by simp
       have g1 : ((wi.alloc (.cells #[.int .i64 x, .int .i64 y, .int .i64 v] 38)).alloc (.cells #[.int .i64 (pa : Nat), .int .i64 3, .int .i64 x', .int .i64 y', .int .i64 v'] 123)).cell? ⟨wi.heap.size + 1, 1, none⟩ = some (.int .i64 3) := by simp
       have g2 : ((wi.alloc (.cells #[.int .i64 x, .int .i64 y, .int .i64 v] 38)).alloc (.cells #[.int .i64 (pa : Nat), .int .i64 3, .int .i64 x', .int .i64 y', .int .i64 v'] 123)).cell? ⟨wi.heap.size + 1, 2, none⟩ = some (.int .i64 x') := by simp
       have g3 : ((wi.alloc (.cells #[.int .i64 x, .int .i64 y, .int .i64 v] 38)).alloc (.cells #[.int .i64 (pa : Nat), .int .i64 3, .int .i64 x', .int .i64 y', .int .i64 v'] 123)).cell? ⟨wi.heap.size + 1, 3, none⟩ = some (.int .i64 y') := by simp
       have g4 : ((wi.alloc (.cells #[.int .i64 x, .int .i64 y, .int .i64 v] 38)).alloc (.cells #[.int .i64 (pa : Nat), .int .i64 3, .int .i64 x', .int .i64 y', .int .i64 v'] 123)).cell? ⟨wi.heap.size + 1, 4, none⟩ = some (.int .i64 v') := by simp
       have d0 := keep_cell hbH d0; have d1 := keep_cell hbH d1; have d2 := keep_cell hbH d2; have fz : ∀ j, ((wi.alloc (.cells #[.int .i64 x, .int .i64 y, .int .i64 v] 38)).alloc (.cells #[.int .i64 (pa : Nat), .int .i64 3, .int .i64 x', .int .i64 y', .int .i64 v'] 123)).frozen? ⟨wi.heap.size + 1, j, none⟩ = false := fun j => by simp
       have HJH := Lib.hid hJH; have hrow0 : RowsA w ((wi.alloc (.cells #[.int .i64 x, .int .i64 y, .int .i64 v] 38)).alloc (.cells #[.int .i64 (pa : Nat), .int .i64 3, .int .i64 x', .int .i64 y', .int .i64 v'] 123)) Q l [wi.heap.size + 1, wi.heap.size, B8] := by
        have := HRow10.out.more (.cells #[.int .i64 (pa : Nat), .int .i64 3, .int .i64 x', .int .i64 y', .int .i64 v'] 123); simpa using this
       have Hrow0 := Lib.hid hrow0; have hszH : wi.heap.size + 2 ≤ ((wi.alloc (.cells #[.int .i64 x, .int .i64 y, .int .i64 v] 38)).alloc (.cells #[.int .i64 (pa : Nat), .int .i64 3, .int .i64 x', .int .i64 y', .int .i64 v'] 123)).heap.size := by simp
       clear hJH hbH hlk' hrow0; generalize ((wi.alloc (.cells #[.int .i64 x, .int .i64 y, .int .i64 v] 38)).alloc (.cells #[.int .i64 (pa : Nat), .int .i64 3, .int .i64 x', .int .i64 y', .int .i64 v'] 123)) = wH at *
       have hBH := HJH.out.bel; go_wp2_with fail; go_quiet (fail)
       go_wp2_with fail; go_ret2; exact ⟨below_drewN hBH _, .inr ⟨Hbad.out, rfl⟩⟩
      | _ :: _ :: _ :: _ =>
       rw [hat] at hpb; simp [pairB] at hpb
    ·
     have hkn : k = ls.length := by omega
     subst hkn; have hrow : preQ Q i ls.length = preQ Q (i + 1) 0 := by
      have := preQ_row Q i; rw [Hln.out] at this; rw [this, preQ_zero]
     have hI2 := hJ.toI; rw [hrow] at hI2; have HI2 := Lib.hid hI2; clear hk hrow hI2 hJ; go_wp2_with fail; go_roundg (Q.length - (i + 1))
     case measure => have := Hi.out; omega
     case rel => exact ⟨i + 1, by omega, by go_num, HI2.out⟩
  ·
   have hin : i = Q.length := by omega
   subst hin; rw [preQ_zero] at hI; have hI : BesI w wr Q (allQ Q) := hI; clear hi Hi; have hheld := hI.held; obtain ⟨D, hown, hD1, hD2, hD3, hD4⟩ := hheld; have HD3 := Lib.hid hD3; have HD4 := Lib.hid hD4; have HI := Lib.hid hI; have hwr := hI.sz; clear hD1 hD2 hD3 hD4 hI; obtain ⟨wE, rfl⟩ : ∃ x, x = wr := ⟨_, rfl⟩
   go_upto_region 26 with (at_range; refine wpList_range_own _ rfl _ 120 rfl 3 123 mapLawZ Tryz.underlying120 _ w.heap.size _ D rfl hown ?_; intro w5 hrg5 hg5 hs5)
   have hb5 : Below wE.heap.size wE w5 := (bl_refl wE).grown hg5 (Nat.le_refl _) (fun j hj => by cases hj); have hall : ∀ v, v ≠ 0 → heldF (allQ Q) v = none ∨ ∃ r, heldF (allQ Q) v = some r ∧ r.2.1 = (atV v (allQ Q)).length := fun v _ => by
    unfold heldF; cases h : (atV v (allQ Q)).getLast? with
    | none => exact .inl rfl
    | some p => exact .inr ⟨_, rfl, rfl⟩
   have Hall := Lib.hid hall; clear hall; go_frame; go_loopg [] (Maps.size D) (fun r wj => ∃ left, wj.ranges Tryz.prog 3 RV w.heap.size wE.heap.size (numsO (allQ Q)).length D left r ∧ (∀ v, v ≠ 0 → Maps.has D (.int .i64 v) = true → left (.int .i64 v) = false → (atV v (allQ Q)).length = 2) ∧ (∀ x, left x = true → Maps.has D x = true) ∧ Below wE.heap.size wE wj)
   case atStart => exact ⟨_, hrg5, fun v _ h1 h2 => (by rw [h1] at h2; cases h2), fun l hl => hl, hb5⟩
   case round =>
    obtain ⟨left, hrg, hch, hle, hbj⟩ := hrel; have Hch := Lib.hid hch; have Hle := Lib.hid hle; clear hch hle; go_wp2_with (at_next; refine wpList_next_ranges (α := Int) (β := Value) _ rfl _ rfl 3 mapLawZ RV (Value.int .i64) (fun c => c) (fun key kl hk => by obtain ⟨x, rfl, _⟩ := Maps.keyOf_int_inv Tryz.underlying3 hk; exact ⟨x, rfl⟩) (fun v y _ => ⟨v, rfl⟩) _ _ _ _ _ _ rfl hrg ?_ ?_)
    ·
     intro hc0 hl0; have hboth : bothP (allQ Q) := fun v hv => by
      by_cases hm : v ∈ numsO (allQ Q)
      ·
       right; exact Hch.out v hv (by rw [HD3.out]; exact (heldL_some hv).2 hm) (hl0 _)
      ·
       left; have h1 : ¬ (heldF (allQ Q) v).isSome = true := fun h => hm ((heldF_some hv).1 h); unfold heldF at h1; cases h2 : (atV v (allQ Q)).getLast? with
       | none => rw [List.getLast?_eq_none_iff.1 h2]; rfl
       | some p => rw [h2] at h1; exact absurd rfl h1
     have Hboth := Lib.hid hboth; clear hc0 hl0 hboth hrg; have HI2 := Lib.hid (HI.out.grown hbj); have hnl : (numsO (allQ Q)).length ≤ 2000000 := by
      have h1 := nums_le (allQ Q); have h2 := Hpl.out Q.length 0 (Nat.le_refl _); rw [preQ_zero] at h2; have h3 : (preO Q Q.length).length = (allQ Q).length := rfl; omega
     have hsum : ∀ i, (outO (pairsO (allQ Q)) i).length ≤ 4000000 := fun i => by
      have h1 := outO_len (pairsO (allQ Q)) i; have h2 := pairsO_len (allQ Q); have h3 := Hpl.out Q.length 0 (Nat.le_refl _); rw [preQ_zero] at h3; have h4 : (preO Q Q.length).length = (allQ Q).length := rfl; omega
     have Hsum := Lib.hid hsum; clear hsum; have hln := MG.len HI2.out.held (t := 120) Tryz.underlying120 3; by_cases hne : (numsO (allQ Q)).length + 1 = Q.length
     ·
      have hbp : besideP Q := ⟨HI.out.fine, Hboth.out, hne⟩
      have Hbp := Lib.hid hbp; have e1 : (((numsO (allQ Q)).length : Int) + 1 != (Q.length : Int)) = false := by simp; omega
      clear hbp hne; go_wp2_with fail; obtain ⟨vals0, hO0⟩ := HI2.out.rows; have hB0 := HI2.out.bel; clear hln HI HI2 hbj hown hb5 hrg5 hg5 HD3 HD4 Hall Hch Hle; go_loopg [140] Q.length (fun r iv wj => ∃ j : Nat, j + r = Q.length ∧ iv = .int .i64 j ∧ (∃ vals, OwnRows wj (w.heap.size + 1 + 1) 33 3 Q.length vals (srtRows Q.length (allQ Q) j)) ∧ Below w.heap.size w wj)
      case atStart => exact ⟨0, by omega, rfl, ⟨vals0, by rw [srtRows_zero]; exact hO0⟩, hB0⟩
      case round =>
       clear hO0 hB0; obtain ⟨j, hj, rfl, ⟨vals, hO⟩, hB⟩ := hrel; have Hj := Lib.hid hj; by_cases hjl : j < Q.length
       ·
        clear hj; have hvl : vals.length = Q.length := by rw [hO.len]; simp [srtRows]
        have hGl := hO.outer.lt; obtain ⟨u, hu⟩ : ∃ u, vals[j]? = some u := ⟨vals[j]'(by omega), by simp⟩
        have hrA := srtRows_get (l := allQ Q) (j := j) hjl; rw [if_neg (Nat.lt_irrefl j)] at hrA; have hown := hO.own j u _ hu hrA; have hcJ : wr.cell? ⟨w.heap.size + 1 + 1, j, none⟩ = some u := by rw [hO.outer.cell? _ (by omega)]; exact hu
        have hlen := Hsum.out j; rw [List.length_map] at hown; rcases hown.2 with ⟨rfl, h0⟩ | ⟨g, cg, rfl, hcg, hrow⟩
        ·
         have hnil := List.eq_nil_of_length_eq_zero h0; have Hnil := Lib.hid hnil; have HO := Lib.hid hO; clear hrA hown h0 hnil hO hu; go_wp2_with fail; refine (Tryz.slices_Sort_int_none none 0 _).mono ?_; rintro e w' ⟨rfl, rfl⟩; go_wp2_with fail; go_roundg (gk - 1)
         case measure => have := Hj.out; omega
         case rel => exact ⟨j + 1, by have := Hj.out; omega, by go_num, ⟨vals, by rw [srtRows_none Hnil.out]; exact HO.out⟩, hB⟩
        ·
         have hyg := hO.young j _ g hu rfl; have hsrt := sort_rowN g cg _ wr hrow (by omega); have HO := Lib.hid hO; have HrA := Lib.hid hrA; have Hu := Lib.hid hu; clear hrA hown hO hu; go_wp2_with fail; refine hsrt.mono ?_; rintro e w2 ⟨rfl, hr2, hg2⟩; have hcl : vals[j]? = some (.slice (some ⟨g, 0, none⟩) ((outO (pairsO (allQ Q)) j).map vN).length cg) := by rw [List.length_map]; simpa using Hu.out
         have hO2 := ownRows_turn HO.out hcl HrA.out hr2 (by simp [srtN_len]) hg2; rw [srtRows_set hjl] at hO2; have hB2 : Below w.heap.size w w2 := hB.grown hg2 hB.size (fun k hk => by cases hk; omega); clear hsrt hcl hg2 hr2 hrow; go_wp2_with fail; go_roundg (gk - 1)
         case measure => have := Hj.out; omega
         case rel => exact ⟨j + 1, by have := Hj.out; omega, by go_num, ⟨vals, hO2⟩, hB2⟩
       ·
        have hjn : j = Q.length := by omega
        subst hjn; clear hj; rw [srtRows_all] at hO; have hG : RdG wr (w.heap.size + 1 + 1) Q.length (besQ Q) := fun v hv => by
         have hvl0 : vals.length = Q.length := by rw [hO.len]; simp
         obtain ⟨u, hu⟩ : ∃ u, vals[v]? = some u := ⟨vals[v]'(by omega), by simp⟩
         have hrA : ((List.range Q.length).map fun k => (besQ Q k).map vN)[v]? = some ((besQ Q v).map vN) := by simp [hv]
         have hown := hO.own v u _ hu hrA; have hc : wr.cell? ⟨w.heap.size + 1 + 1, v, none⟩ = some u := by rw [hO.outer.cell? v (by omega)]; exact hu
         rcases hown.2 with ⟨rfl, h0⟩ | ⟨g, c', rfl, _, hrow⟩
         ·
          rw [List.length_map] at h0; have hnil := List.eq_nil_of_length_eq_zero h0; exact ⟨none, 0, by rw [hc, hnil]; rfl, by rw [hnil]; intro i u hu; simp at hu⟩
         ·
          rw [List.length_map] at hc; exact ⟨some ⟨g, 0, none⟩, c', hc, hrow.at_⟩
        clear hO Hj; go_wp2_with fail; go_ret2; exact ⟨hB, .inl ⟨Hbp.out, _, rfl, hG⟩⟩
     ·
      have hbad : ¬ besideP Q := fun h => hne h.2.2; have Hbad := Lib.hid hbad; have e1 : (((numsO (allQ Q)).length : Int) + 1 != (Q.length : Int)) = true := by simp; omega
      clear hbad hne; go_wp2_with fail; go_ret2; exact ⟨bl_trans HI.out.bel hbj, .inr ⟨Hbad.out, rfl⟩⟩
    ·
     intro x cv kl yd yp w6 cnt6 hkx hlx hRy hat hrg6 hlt6 hg6 hs6 hen; obtain ⟨x2, hx2, hkl, _⟩ := Maps.keyOf_int_inv Tryz.underlying3 hkx; cases hx2; subst hkl; have hh := Hle.out _ hlx; rw [HD3.out] at hh; obtain ⟨cw, hcw⟩ := Option.isSome_iff_exists.1 hh; have hx0 : x ≠ 0 := fun h => by rw [h] at hcw; simp [heldL] at hcw
     have hcw2 := hcw; rw [heldL_at hx0] at hcw2; obtain ⟨⟨pa, tm, x', y', v'⟩, hr1, hr2⟩ := Option.map_eq_some_iff.1 hcw2; have h4 := HD4.out _ _ hcw yd; rw [hat] at h4; have hcv : cv = hVal (pa, tm, x', y', v') := by
      rw [hr2]; unfold RV at hRy; simp only [Option.some.injEq, Prod.mk.injEq] at hRy; rw [h4] at hRy; injection hRy.1
     have htm : tm = (atV x (allQ Q)).length := by
      unfold heldF at hr1; cases h : (atV x (allQ Q)).getLast? with
      | none => rw [h] at hr1; cases hr1
      | some p =>
       rw [h] at hr1; have := Option.some.inj hr1; exact (congrArg (fun r => r.2.1) this).symm
     have htp : tm ≠ 0 := fun h0 => by
      rw [h0] at htm; have h := List.eq_nil_of_length_eq_zero htm.symm; unfold heldF at hr1; rw [h] at hr1; cases hr1
     have Htp := Lib.hid htp; clear htp; subst hcv; have hb6 := hbj.grown hg6 (by have := hbj.size; omega) (fun j hj => by cases hj; exact Nat.le_refl _); have htl : (atV x (allQ Q)).length ≤ 2 := pairB_len (HI.out.fine.2 x hx0); have Htm := Lib.hid htm; have Hx0 := Lib.hid hx0; have hent : (Instr.entry (.pointer (some ⟨wE.heap.size, 0, none⟩))).run Tryz.prog w6 = .ok (.tuple #[.int .i64 x, .agg #[.int .i64 (pa : Nat), .int .i64 (tm : Nat), .int .i64 x', .int .i64 y', .int .i64 v']]) w6 := hen; have htm2 : tm ≤ 2 := by omega
     clear hcw hcw2 hr1 hr2 h4 hat hlx hkx hh hRy htl htm hx0 hen; have hbl := bl_alloc w6 (.cells #[.int .i64 (pa : Nat), .int .i64 (tm : Nat), .int .i64 x', .int .i64 y', .int .i64 v'] 123); have hb7 := bl_trans hb6 hbl; have d1 : (w6.alloc (.cells #[.int .i64 (pa : Nat), .int .i64 (tm : Nat), .int .i64 x', .int .i64 y', .int .i64 v'] 123)).cell? ⟨w6.heap.size, 1, none⟩ = some (.int .i64 (tm : Nat)) := by simp
     have hrg7 : (w6.alloc (.cells #[.int .i64 (pa : Nat), .int .i64 (tm : Nat), .int .i64 x', .int .i64 y', .int .i64 v'] 123)).ranges Tryz.prog 3 RV w.heap.size wE.heap.size (numsO (allQ Q)).length D (fun z => left z && !z.sameKey (.int .i64 x)) cnt6 := hrg6.alloc _; by_cases hc2 : tm = 2
     ·
      subst hc2; go_wp2_with fail; go_roundg cnt6
      case measure => omega
      case rel =>
       refine ⟨_, hrg7, fun v hv h1 h2 => ?_, fun z hz => ?_, hb7⟩
       ·
        by_cases he : left (.int .i64 v) = true
        ·
         simp only [he, Bool.true_and, Bool.not_eq_false'] at h2; simp [Lit.sameKey] at h2; subst h2; exact Htm.out.symm
        · exact Hch.out v hv h1 (by simpa using he)
       ·
        simp only [Bool.and_eq_true] at hz; exact Hle.out z hz.1
     ·
      have hne : ((tm : Int) != 2) = true := by
       simp; omega
      have hbad : ¬ besideP Q := fun h => by
       rcases h.2.1 x Hx0.out with h1 | h1
       ·
        rw [← Htm.out] at h1; exact Htp.out h1
       · exact hc2 (Htm.out.trans h1)
      have Hbad := Lib.hid hbad; clear hbad hc2; go_wp2_with fail; go_ret2; exact ⟨bl_trans HI.out.bel hb7, .inr ⟨Hbad.out, rfl⟩⟩
end Go.Proofs.YtagcbnpahgfgmaaGreat
namespace Go.Proofs.YtagcbnpahgfgmaaGreat
open Go Go.RowKit
theorem swapped_cells (ls : List Lk) (k : Nat) (h : k < ls.length) : (ls.take (k + 1)).map swapL ++ ls.drop (k + 1) = ((ls.take k).map swapL ++ ls.drop k).set k (swapL ls[k]) := by
 rw [List.take_succ_eq_append_getElem h, List.map_append, List.append_assoc]
 have hl : ((ls.take k).map swapL).length = k := by simp; omega
 rw [List.set_append_right _ _ (by omega), hl, Nat.sub_self, List.drop_eq_getElem_cons h]
 rfl
theorem swapped_get (ls : List Lk) (k : Nat) (h : k < ls.length) : ((ls.take k).map swapL ++ ls.drop k)[k]? = some ls[k] := by
 have hl : ((ls.take k).map swapL).length = k := by simp; omega
 rw [List.getElem?_append_right (by omega), hl]
 simp
theorem swapped_len (ls : List Lk) (k : Nat) (h : k ≤ ls.length) : ((ls.take k).map swapL ++ ls.drop k).length = ls.length := by simp; omega
set_option maxHeartbeats 2000000 in
theorem sorted_walk (a : Option Addr) (cap : Nat) (ls : List Lk) (w : World) (hr : RdL w a ls) (hle : ls.length ≤ 100000) :
  Calls Tryz.prog 15 #[.slice a ls.length cap] w (RetLk w (sortL ls)) := by
 by_cases h0 : ls.length = 0
 ·
  obtain rfl := List.eq_nil_of_length_eq_zero h0
  go_enter Tryz.func15, Tryz.ntmps15
  go_wp2_with fail
  refine (clone_walk a cap [] _ hr (by simp)).mono ?_
  rintro e w1 ⟨v, rfl, hown, hnew, hb⟩
  obtain ⟨a1, c1, rfl, _⟩ := hown.read
  go_wp2_with fail
  refine wp_loop_rounds 1 ?_
  rw [rounds_succ]
  have hnone := fun w' => AnyF.slices_SortFunc_none Tryz.laySortL a1 c1 (.func (.func 48) #[] #[]) w'
  change ∀ w', Calls Tryz.prog 42 _ _ _ at hnone
  go_wp2_with fail
  refine (hnone _).mono ?_
  rintro e w' ⟨rfl, rfl⟩
  go_wp2_with fail
  go_ret
  exact ⟨_, rfl, hown, hnew, hb⟩
 ·
  go_enter Tryz.func15, Tryz.ntmps15
  go_wp2_with fail
  refine (clone_walk a cap ls _ hr (by omega)).mono ?_
  rintro e w1 ⟨v, rfl, hown, hnew, hb⟩
  rcases hown.2 with ⟨_, h1⟩ | ⟨g, cg, rfl, hcg, hrow⟩
  · exact absurd h1 h0
  have hg := hnew g rfl
  clear hown hnew hr
  go_wp2_with fail
  go_loopg [10] ls.length (fun r i wr => ∃ k : Nat, k + r = ls.length ∧ i = .int .i64 k ∧ Below w.heap.size w wr ∧ Row wr g 38 3 cg (lkCells ((ls.take k).map swapL ++ ls.drop k)))
  case atStart => exact ⟨0, by omega, rfl, hb, by simpa using hrow⟩
  case round =>
   obtain ⟨k, hk, rfl, hB, hrw⟩ := hrel; by_cases hlt : k < ls.length
   ·
    have hget := swapped_get ls k hlt; have hlen := swapped_len ls k (by omega); have hstep := swapped_cells ls k hlt; obtain ⟨⟨x, y, z⟩, hx⟩ : ∃ x : Lk, ls[k] = x := ⟨_, rfl⟩
    rw [hx] at hget hstep; obtain ⟨q, hq⟩ : ∃ q, q = (ls.take k).map swapL ++ ls.drop k := ⟨_, rfl⟩
    rw [← hq] at hget hlen hrw hstep; have hkq : k < q.length := by omega
    have hqk : q[k] = (x, y, z) := by rw [List.getElem?_eq_getElem hkq] at hget; exact Option.some.inj hget
    obtain ⟨b1, b2, b3⟩ := lkCells_get q k hkq; rw [hqk] at b1 b2 b3; have hcl : k * 3 + 2 < (lkCells q).length := by rw [lkCells_length]; omega
    have c0 : wr.cell? ⟨g, k * 3, none⟩ = some (.int .i64 x) := by rw [hrw.cell? _ (by omega), b1]
    have c1 : wr.cell? ⟨g, k * 3 + 1, none⟩ = some (.int .i64 y) := by rw [hrw.cell? _ (by omega), b2]
    have c2 : wr.cell? ⟨g, k * 3 + 2, none⟩ = some (.int .i64 z) := by rw [hrw.cell? _ (by omega), b3]
    have f0 := hrw.frozen (k * 3); have f1 := hrw.frozen (k * 3 + 1); have hgl := hrw.lt; have hset := lkCells_set q k hkq; rw [hqk] at hset; have Hk := Lib.hid hk; have Hstep := Lib.hid hstep; have Hset := Lib.hid hset; have Hqk := Lib.hid hqk; clear hk hstep hset hqk hget hq hx hlen b1 b2 b3 hb; by_cases hsw : y < x
    ·
     have e1 : swapL (x, y, z) = (y, x, z) := by simp [swapL, hsw]
     have E1 := Lib.hid e1; clear e1; go_wp2_with fail; go_region; go_wp2_with fail; go_roundg (gk - 1)
     case measure => have := Hk.out; omega
     case rel =>
      refine ⟨k + 1, by have := Hk.out; omega, by go_num, ?_, ?_⟩
      · exact (((hB.setCell (by simpa using hg) _).setCell (by simpa using hg) _).alloc (by have := hB.size; simpa using this) _).drew
      ·
       have h1 := (((hrw.set (k * 3) (.int .i64 y)).set (k * 3 + 1) (.int .i64 x)).alloc (.cells #[.int .i64 x, .int .i64 y, .int .i64 z] 38)).drew; rw [Hset.out] at h1; rw [Hstep.out, E1.out]; exact h1
    ·
     have e1 : swapL (x, y, z) = (x, y, z) := by simp [swapL, hsw]
     have E1 := Lib.hid e1; clear e1; go_wp2_with fail; go_roundg (gk - 1)
     case measure => have := Hk.out; omega
     case rel =>
      refine ⟨k + 1, by have := Hk.out; omega, by go_num, bl_trans hB (bl_alloc _ _), ?_⟩; have h1 := hrw.alloc (.cells #[.int .i64 x, .int .i64 y, .int .i64 z] 38); rw [Hstep.out, E1.out, show q.set k (x, y, z) = q by rw [← Hqk.out]; simp]; exact h1
   ·
    have hkl : k = ls.length := by omega
    subst hkl; rw [List.take_length, List.drop_length, List.append_nil] at hrw; have hsort := sortF_walk g cg (ls.map swapL) wr hrw (by simp; omega); rw [List.length_map, sortL_merge] at hsort; clear hrow hrw; go_wp2_with fail; refine hsort.mono ?_; rintro e w' ⟨rfl, hrow2, hgr⟩; have hb2 : Below w.heap.size w w' := hB.grown hgr (by have := hB.size; omega) (fun j hj => by cases hj; exact hg); go_wp2_with fail; go_ret; refine ⟨_, rfl, ?_, fun j hj => by cases hj; exact hg, hb2⟩; have h1 := hrow2.own (n := ls.length) (by rw [lkCells_length, sortL_length]) hcg; unfold OwnL; rw [sortL_length]; exact h1
end Go.Proofs.YtagcbnpahgfgmaaGreat
namespace Go.Proofs.YtagcbnpahgfgmaaGreat
open Go Go.RowKit Go.Maps
def cF (l : List Int) : Int → Option Int := fun v => if v ∈ l then some ((l.count v : Nat) : Int) else none
theorem cF_get (l : List Int) (v : Int) : (cF l v).getD 0 = ((l.count v : Nat) : Int) := by
 unfold cF
 split
 · rfl
 · rename_i h; rw [List.count_eq_zero_of_not_mem h]; rfl
theorem cF_snoc (l : List Int) (x : Int) : updF (cF l) x (((l.count x : Nat) : Int) + 1) = cF (l ++ [x]) := by
 funext v
 unfold updF cF
 by_cases h : v = x
 · subst h; simp
 ·
  have : ¬ x = v := fun e => h e.symm
  simp [h, this]
theorem cF_nil : cF [] = fun _ => none := by funext v; simp [cF]
theorem endsL_snoc (ls : List Lk) (k : Lk) : endsL (ls ++ [k]) = endsL ls ++ [k.1] ++ [k.2.1] := by unfold endsL; rw [List.flatMap_append]; simp
theorem mem_verts_ends {ls : List Lk} {v : Int} : v ∈ vertsL ls ↔ v ∈ endsL ls := by
 rw [mem_vertsL]
 unfold endsL
 simp
theorem allTwo_iff (ls : List Lk) : allTwoL ls = true ↔ ∀ v x, cF (endsL ls) v = some x → x = 2 := by
 unfold allTwoL cntN cF
 rw [List.all_eq_true]
 constructor
 ·
  intro h v x hx
  split at hx
  ·
   rename_i hm; have := h v (mem_verts_ends.2 hm); simp at this hx; omega
  · cases hx
 ·
  intro h v hv
  have := h v _ (by rw [if_pos (mem_verts_ends.1 hv)])
  simp; omega
set_option maxRecDepth 100000 in
set_option maxHeartbeats 4000000 in
theorem allTwo_walk (a : Option Addr) (cap : Nat) (ls : List Lk) (w : World) (hr : RdL w a ls) (hR : RightL ls) :
  Calls Tryz.prog 58 #[.slice a ls.length cap] w (RetT w (allTwoL ls)) := by
 have hn := hR.1
 have HR := Lib.hid hR; clear hR
 have hall := allTwo_iff ls
 obtain ⟨t, ht⟩ : ∃ t, t = allTwoL ls := ⟨_, rfl⟩
 rw [← ht] at hall ⊢
 have Hall := Lib.hid hall
 clear hall ht
 go_enter Tryz.func58, Tryz.ntmps58
 have hmk := run_makeMapZ (ls.length : Int) w
 go_wp2_with fail
 clear hmk
 have hm0 : MZ (w.alloc (.map #[] 0)) w.heap.size 0 (cF []) := by rw [cF_nil]; exact MZ.made w
 have hbm := bl_alloc w (.map #[] 0)
 go_loopg [13] ls.length (fun r iv wj => ∃ (i c : Nat), i + r = ls.length ∧ iv = .int .i64 i ∧ c ≤ 2 * i ∧ MZ wj w.heap.size c (cF (endsL (ls.take i))) ∧ Below w.heap.size w wj)
 case atStart => exact ⟨0, 0, by omega, rfl, by omega, hm0, hbm⟩
 case round =>
  clear hm0 hbm
  obtain ⟨i, c, hi, rfl, hc, hm, hb⟩ := hrel
  have Hi := Lib.hid hi
  by_cases hil : i < ls.length
  ·
   clear hi; obtain ⟨b, o, rfl, c0, c1, c2⟩ := (hr.below hb).at i hil; have hok := HR.out.2.1 _ (List.getElem_mem hil); have htk : endsL (ls.take (i + 1)) = endsL (ls.take i) ++ [ls[i].1] ++ [ls[i].2.1] := by rw [List.take_succ_eq_append_getElem hil, endsL_snoc]
   have hel : (endsL (ls.take i)).length ≤ 2000 := by rw [endsL_length, List.length_take]; omega
   obtain ⟨E, hE⟩ : ∃ E, E = endsL (ls.take i) := ⟨_, rfl⟩
   rw [← hE] at hm htk hel; obtain ⟨⟨x, y, z⟩, hx⟩ : ∃ x : Lk, ls[i] = x := ⟨_, rfl⟩
   rw [hx] at c0 c1 c2 hok htk; unfold OkL at hok; simp only at c0 c1 c2 hok htk; obtain ⟨o1, o2, o3, _, _⟩ := hok; have Htk := Lib.hid htk; have wx : WfZ x := wfZ_of (by omega); have wy : WfZ y := wfZ_of (by omega); have hbl := hm.lt; have hba := bl_alloc wr (.cells #[.int .i64 x, .int .i64 y, .int .i64 z] 38); have hma := hm.alloc (.cells #[.int .i64 x, .int .i64 y, .int .i64 z] 38); have l1 := hma.look wx; rw [cF_get] at l1; have n1 : E.count x ≤ 2000 := Nat.le_trans List.count_le_length hel; have e1 : IntKind.i64.wrap (((E.count x : Nat) : Int) + 1) = ((E.count x : Nat) : Int) + 1 := IntWalk.i64_in _ (by omega); have Hx := Lib.hid hx; have HE := Lib.hid hE; have Hwx := Lib.hid wx; have Hwy := Lib.hid wy; have Hma := Lib.hid hma; have hbB := bl_trans hb hba; clear htk hx hE wx wy hm hma hba; have hx1 : (wr.alloc (.cells #[.int .i64 x, .int .i64 y, .int .i64 z] 38)).cell? ⟨wr.heap.size, 1, none⟩ = some (.int .i64 y) := by simp
   generalize hN1 : E.count x = N1 at l1 n1 e1; go_upto_region 6 with (at_mapUpdate; refine wpList_put_MZ rfl _ _ _ rfl Hma.out (k := x) (v := (N1 : Int) + 1) rfl rfl rfl Hwx.out (wfZ_of (by omega)) (by omega) ?_; intro w5 hm5 hg5)
   have hE1 : updF (cF E) x ((N1 : Int) + 1) = cF (E ++ [x]) := by rw [← hN1]; exact cF_snoc E x
   rw [hE1] at hm5; have hb5 := hbB.grown hg5 hbB.size (fun j hj => by cases hj; exact Nat.le_refl _); have hx5 := grown_cell hg5 hx1 (fun e => by have e2 : w.heap.size = wr.heap.size := Option.some.inj e; omega); have l2 := hm5.look Hwy.out; rw [cF_get] at l2; have n2 : (E ++ [x]).count y ≤ 2001 := Nat.le_trans List.count_le_length (by rw [List.length_append, List.length_singleton]; omega); have e2 : IntKind.i64.wrap ((((E ++ [x]).count y : Nat) : Int) + 1) = (((E ++ [x]).count y : Nat) : Int) + 1 := IntWalk.i64_in _ (by omega); have hE2 : updF (cF (E ++ [x])) y ((((E ++ [x]).count y : Nat) : Int) + 1) = cF (E ++ [x] ++ [y]) := cF_snoc _ _; rw [← Htk.out] at hE2; have Hm5 := Lib.hid hm5; clear hE1 l1 hx1 hm5 hg5 hN1; generalize (E ++ [x]).count y = N2 at l2 n2 e2 hE2; have HE2 := Lib.hid hE2; clear hE2; have hc2 : (if (cF E x).isSome = true then c else c + 1) ≤ 2 * i + 1 := by split <;> omega
   generalize (if (cF E x).isSome = true then c else c + 1) = c2 at Hm5 hc2; go_wp2_with (at_mapUpdate; refine wpList_put_MZ rfl _ _ _ rfl Hm5.out (k := y) (v := (N2 : Int) + 1) rfl rfl rfl Hwy.out (wfZ_of (by omega)) (by omega) ?_; intro w6 hm6 hg6); rw [HE2.out] at hm6; go_roundg (gk - 1)
   case measure => have := Hi.out; omega
   case rel => exact ⟨i + 1, _, by have := Hi.out; omega, by go_num, by split <;> omega, hm6, hb5.grown hg6 hb5.size (fun j hj => by cases hj; exact Nat.le_refl _)⟩
  ·
   have hin : i = ls.length := by omega
   subst hin; rw [List.take_length] at hm; clear hi Hi; obtain ⟨D, hown, hD1, hD2, hD3, hD4⟩ := hm; have HD3 := Lib.hid hD3; have HD4 := Lib.hid hD4; clear hD1 hD2 hD3 hD4; have hlt := hown.lt; go_upto_region 9 with (at_range; refine wpList_range_own _ rfl _ 35 rfl 3 3 mapLawZ Tryz.underlying35 _ w.heap.size c D rfl hown ?_; intro w5 hrg5 hg5 hs5)
   have hb5 := hb.grown hg5 (by omega) (fun j hj => by cases hj); have hw5 : w.heap.size + 1 ≤ w5.heap.size := by omega
   go_frame; go_loopg [] (Maps.size D) (fun r wj => ∃ left, wj.ranges Tryz.prog 3 (plainElem Tryz.prog 3) w.heap.size wr.heap.size c D left r ∧ (∀ v x, cF (endsL ls) v = some x → left (.int .i64 v) = false → x = 2) ∧ (∀ l, left l = true → Maps.has D l = true) ∧ Below w.heap.size w wj)
   case atStart => exact ⟨_, hrg5, fun v x hv hl => (by rw [HD3.out, hv] at hl; simp at hl), fun l hl => hl, hb5⟩
   case round =>
    obtain ⟨left, hrg, hch, hle, hbj⟩ := hrel; have hbw := bl_trans hbj (bl_refl _); have Hch := Lib.hid hch; have Hle := Lib.hid hle; clear hch hle; go_wp2_with (at_next; refine wpList_next_ranges_ii _ rfl _ rfl 3 3 .i64 .i64 mapLawZ Tryz.underlying3 Tryz.underlying3 _ _ _ _ _ _ rfl hrg ?_ ?_)
    ·
     intro hc0 hl0; have hfin : t = true := Hall.out.2 fun v x hv => Hch.out v x hv (hl0 _); subst hfin; clear hc0 hl0; go_wp2_with fail; go_ret; exact ⟨rfl, hbj⟩
    ·
     intro x cv w6 cnt6 hwx hwc hlx hat hrg6 hlt6 hg6 hs6 hen; have hFx : cF (endsL ls) x = some cv := by
      have h1 := HD3.out x; rw [Hle.out _ hlx] at h1; cases hF : cF (endsL ls) x with
      | none => rw [hF] at h1; cases h1
      | some y =>
       have h2 := HD4.out x y hF (.lit (.int .i64 0)); rw [hat] at h2; simp at h2; rw [h2]
     have hb6 := hbj.grown hg6 (by have := hbj.size; omega) (fun j hj => by cases hj; have := hb.size; omega); have HF := Lib.hid hFx; have Hhat := Lib.hid hat; clear hFx hat hlx hwx hwc; by_cases hc2 : cv = 2
     ·
      subst hc2; go_wp2_with fail; go_roundg cnt6
      case measure => omega
      case rel =>
       refine ⟨_, hrg6, fun v y hv hl => ?_, fun l hl => ?_, hb6⟩
       ·
        by_cases he : left (.int .i64 v) = true
        ·
         simp only [he, Bool.true_and, Bool.not_eq_false'] at hl; simp [Lit.sameKey] at hl; subst hl; have := HF.out; rw [hv] at this; exact Option.some.inj this
        · exact Hch.out v y hv (by simpa using he)
       ·
        simp only [Bool.and_eq_true] at hl; exact Hle.out l hl.1
     ·
      have hne : (cv != 2) = true := by simpa using hc2
      have hfin : t = false := by
       cases ht : t with
       | false => rfl
       | true => exact absurd (Hall.out.1 ht x cv HF.out) hc2
      subst hfin; clear hc2; go_wp2_with fail; go_ret; exact ⟨rfl, hb6⟩
end Go.Proofs.YtagcbnpahgfgmaaGreat
namespace Go.Proofs.YtagcbnpahgfgmaaGreat
open Go Go.RowKit
def RetNb (w : World) (n : Nat) (bs : Nat → List Nat) (e : Ending) (w' : World) : Prop :=
 ∃ g, e = .returned (.slice (some ⟨g, 0, none⟩) n n) ∧ RdG w' g n bs ∧ w.heap.size ≤ g ∧ Below w.heap.size w w'
set_option maxRecDepth 100000 in
set_option maxHeartbeats 8000000 in
theorem neighbours_walk (a : Option Addr) (cap : Nat) (ls : List Lk) (av : Option Addr) (cv : Nat) (vs : List Int) (w : World) (hr2 : RdL w a ls) (hRR : RightL ls) (hvs : vs = vertsL ls) (hrv : RdI w av vs) (hvc : vs.length ≤ cv) :
  Calls Tryz.prog 87 #[.slice a ls.length cap, .slice av vs.length cv] w (RetNb w vs.length (nbN vs ls)) := by
 have hn := hRR.1
 have HR := Lib.hid hRR; clear hRR
 have hvl : vs.length ≤ 2000 := by rw [hvs]; have := vertsL_length ls; omega
 have Hvs := Lib.hid hvs; clear hvs
 have hvn : vs.Nodup := by rw [Hvs.out]; exact verts_nodup ls
 have Hvn := Lib.hid hvn; clear hvn
 have hmm := run_makeMapZ
 have hmk := run_make_row' (P := Tryz.prog) 63 33 (.slice none 0 0) 24 Tryz.underlying63 ints_info2 rfl .i64 .i64 vs.length (by omega) (by omega)
 go_enter Tryz.func87, Tryz.ntmps87
 go_wp2_with fail
 go_loopg [18] vs.length (fun r i wr => ∃ (k c : Nat) (F : Int → Option Int), k + r = vs.length ∧ i = .int .i64 k ∧ c ≤ k ∧ MZ wr w.heap.size c F ∧ (∀ (j : Nat) (x : Int), j < k → vs[j]? = some x → F x = some (j : Int)) ∧ Below w.heap.size w wr)
 case atStart => exact ⟨0, 0, _, by omega, rfl, Nat.le_refl _, MZ.made w, fun j x hj => by omega, bl_alloc _ _⟩
 case round =>
  obtain ⟨k, c, F, hk, rfl, hck, hm, hF, hb⟩ := hrel
  by_cases hlt : k < vs.length
  ·
   obtain ⟨bv, ov, rfl, c0⟩ := (hrv.below hb).at k hlt; obtain ⟨z, hz⟩ : ∃ z, vs[k] = z := ⟨_, rfl⟩
   rw [hz] at c0; have hzm : z ∈ vertsL ls := by rw [← Hvs.out, ← hz]; exact List.getElem_mem hlt
   have hzb : 0 ≤ z ∧ z ≤ 1048576 := by
    obtain ⟨q, hq, e⟩ := (mem_vertsL ls z).1 hzm; have ok := HR.out.2.1 q hq; unfold OkL at ok; rcases e with rfl | rfl <;> omega
   have hwz : WfZ z := wfZ_of (by omega); have hF2 : ∀ (j : Nat) (x : Int), j < k + 1 → vs[j]? = some x → updF F z k x = some (j : Int) := fun j x hj hx => by
    by_cases e : j = k
    ·
     subst e; rw [List.getElem?_eq_getElem hlt, hz] at hx; cases hx; exact updF_same _ _ _
    ·
     have hjl := (List.getElem?_eq_some_iff.1 hx).1; rw [updF_ne _ _ fun e2 => ?_]
     · exact hF j x (by omega) hx
     ·
      rw [List.getElem?_eq_getElem hjl] at hx; exact e ((List.getElem_inj Hvn.out).1 ((Option.some.inj hx).trans (e2.trans hz.symm)))
   have HF2 := Lib.hid hF2; have Hwz := Lib.hid hwz; have Hk := Lib.hid hk; clear hF2 hwz hz hk hF hzm hzb; go_wp2_with (at_mapUpdate; refine wpList_put_MZ rfl _ _ _ rfl hm rfl rfl rfl Hwz.out (wfZ_of (by omega)) (by omega) ?_; intro w5 hm5 hg5); have hb5 : Below w.heap.size w w5 := hb.grown hg5 hb.size (fun j hj => by cases hj; exact Nat.le_refl _); have hc5 : (if (F z).isSome then c else c + 1) ≤ k + 1 := by split <;> omega
   clear hg5 hm; go_roundg (gk - 1)
   case measure => have := Hk.out; omega
   case rel => exact ⟨k + 1, _, _, by have := Hk.out; omega, by go_num, hc5, hm5, HF2.out, hb5⟩
  ·
   have hkl : k = vs.length := by omega
   subst hkl; obtain ⟨w3, rfl⟩ : ∃ w3 : World, w3 = wr := ⟨_, rfl⟩
   have hr3 := hr2.below hb; have hB3 := hb; have hF0 : ∀ x, x ∈ vertsL ls → F x = some ((vs.idxOf x : Nat) : Int) := fun x hx => by
    rw [← Hvs.out] at hx; exact hF _ x (List.idxOf_lt_length_of_mem hx) (get_idxOf hx)
   have HF := Lib.hid hF0; clear hF hF0 hk hr2 hb hrv; have hok0 : nbRows vs.length vs (ls.take 0) = List.replicate vs.length [] := by
    apply List.ext_getElem (by simp [nbRows]); intro i h1 h2; simp [nbRows, nbN]
   have Hok0 := Lib.hid hok0; clear hok0; have hzm3 := hm.lt; go_wp2_with fail; go_loopg [32] ls.length (fun r i wr => ∃ (k : Nat) (vals : List Value), k + r = ls.length ∧ i = .int .i64 k ∧ OwnRows wr w3.heap.size 33 3 vs.length vals (nbRows vs.length vs (ls.take k)) ∧ Below w3.heap.size w3 wr ∧ w3.heap.size < wr.heap.size)
   case atStart => exact ⟨0, _, by omega, rfl, by rw [Hok0.out]; exact ownRows_made w3 vs.length _ _ (by unfold maxLen; omega), bl_alloc _ _, by simp⟩
   case round =>
    obtain ⟨k, vals, hk, rfl, hO, hb, hsz⟩ := hrel; by_cases hlt : k < ls.length
    ·
     obtain ⟨b, o, rfl, c0, c1, c2⟩ := (hr3.below hb).at k hlt; have hok := HR.out.2.1 _ (List.getElem_mem hlt); have hmemk := List.getElem_mem hlt; have hstep := fun (A B : Nat) (hA : vs.idxOf ls[k].1 = A) (hBe : vs.idxOf ls[k].2.1 = B) => nbRows_step (n := vs.length) (vs := vs) hlt hA hBe; obtain ⟨⟨x, y, z⟩, hx⟩ : ∃ x : Lk, ls[k] = x := ⟨_, rfl⟩
     rw [hx] at c0 c1 c2 hok hmemk hstep; obtain ⟨k0, k1, k2, k3, k4⟩ := hok; simp only at c0 c1 c2 k0 k1 k2 k3 k4 hstep; have hxm : x ∈ vertsL ls := (mem_vertsL ls x).2 ⟨_, hmemk, .inl rfl⟩; have hym : y ∈ vertsL ls := (mem_vertsL ls y).2 ⟨_, hmemk, .inr rfl⟩; obtain ⟨A, hA⟩ : ∃ A, vs.idxOf x = A := ⟨_, rfl⟩
     obtain ⟨B, hBe⟩ : ∃ B, vs.idxOf y = B := ⟨_, rfl⟩
     have hAn : A < vs.length := by rw [← hA]; exact List.idxOf_lt_length_of_mem (by rw [Hvs.out]; exact hxm)
     have hBn : B < vs.length := by rw [← hBe]; exact List.idxOf_lt_length_of_mem (by rw [Hvs.out]; exact hym)
     have hAB : A ≠ B := fun e => by
      have := idxOf_inj (vs := vs) (by rw [Hvs.out]; exact hxm) (by rw [Hvs.out]; exact hym) (by rw [hA, hBe, e]); omega
     have hst := hstep A B hA hBe hAB hAn hBn; have hFx := HF.out x hxm; have hFy := HF.out y hym; rw [hA] at hFx; rw [hBe] at hFy; have hl1 : ∀ n, (Instr.lookup 35 (.map (some w.heap.size)) (.int .i64 x) false).run Tryz.prog ((wr.alloc (.cells #[.int .i64 x, .int .i64 y, .int .i64 z] 38)).drewN n) = .ok (.int .i64 A) ((wr.alloc (.cells #[.int .i64 x, .int .i64 y, .int .i64 z] 38)).drewN n) := fun n => by
      have := ((hm.below (bl_trans hb (bl_alloc wr (.cells #[.int .i64 x, .int .i64 y, .int .i64 z] 38)))).block (w' := (wr.alloc (.cells #[.int .i64 x, .int .i64 y, .int .i64 z] 38)).drewN n) rfl).look (v := x) (wfZ_of (by omega)); rw [hFx] at this; exact this
     have hl2 : ∀ n, (Instr.lookup 35 (.map (some w.heap.size)) (.int .i64 y) false).run Tryz.prog ((wr.alloc (.cells #[.int .i64 x, .int .i64 y, .int .i64 z] 38)).drewN n) = .ok (.int .i64 B) ((wr.alloc (.cells #[.int .i64 x, .int .i64 y, .int .i64 z] 38)).drewN n) := fun n => by
      have := ((hm.below (bl_trans hb (bl_alloc wr (.cells #[.int .i64 x, .int .i64 y, .int .i64 z] 38)))).block (w' := (wr.alloc (.cells #[.int .i64 x, .int .i64 y, .int .i64 z] 38)).drewN n) rfl).look (v := y) (wfZ_of (by omega)); rw [hFy] at this; exact this
     have Hst := Lib.hid hst; have Hk := Lib.hid hk; clear hst hstep hx hk hmemk hxm hym hA hBe hFx hFy; go_wp2_with fail; go_quiet (fail)
     have hO1 := (hO.alloc (.cells #[.int .i64 x, .int .i64 y, .int .i64 z] 38)).drewN nq; have hbl1 : Below w3.heap.size w3 ((wr.alloc (.cells #[.int .i64 x, .int .i64 y, .int .i64 z] 38)).drewN nq) := below_drewN (bl_trans hb (bl_alloc _ _)) _; have hsz1 : w3.heap.size < ((wr.alloc (.cells #[.int .i64 x, .int .i64 y, .int .i64 z] 38)).drewN nq).heap.size := by simp; omega
     generalize (wr.alloc (.cells #[.int .i64 x, .int .i64 y, .int .i64 z] 38)).drewN nq = wX at hO1 hbl1 hsz1 ⊢; clear hl1 hl2 hO hb c0 c1 c2; have hvl0 : vals.length = vs.length := by rw [hO1.len]; simp [nbRows]
     obtain ⟨u, hu⟩ : ∃ u, vals[A]? = some u := ⟨vals[A]'(by omega), by simp⟩
     have hrA := nbRows_get (vs := vs) (ls := ls.take k) hAn; have hown := hO1.own A u _ hu hrA; rw [List.length_map] at hown; have hln := nbN_take_len vs ls k A hn; have hln2 := nbN_take_len vs ls k B hn; have hcA : wX.cell? ⟨w3.heap.size, A, none⟩ = some u := by rw [hO1.outer.cell? A (by omega)]; exact hu
     have hfA := hO1.outer.frozen A; have hneA := hO1.ne_outer hu; obtain ⟨rA, hrAe⟩ : ∃ r, r = nbN vs (ls.take k) A := ⟨_, rfl⟩
     obtain ⟨rB, hrBe⟩ : ∃ r, r = nbN vs (ls.take k) B := ⟨_, rfl⟩
     rw [← hrAe] at hrA hown hln; rw [← hrBe] at hln2; have hrB := nbRows_get (vs := vs) (ls := ls.take k) hBn; have Hst2 := Hst.out; rw [← hrBe] at hrB Hst2; rw [← hrAe] at Hst2; have HO1 := Lib.hid hO1; have HrA := Lib.hid hrA; have HrB := Lib.hid hrB; have Hu := Lib.hid hu; have Hst3 := Lib.hid Hst2; have Hvl0 := Lib.hid hvl0; clear hO1 hrA hrB hu Hst2 hvl0 hrAe hrBe Hst; have iA0 : (0 : Int) ≤ (A : Int) := by omega
     have iA1 : (A : Int) < (vs.length : Int) := by omega
     have iB0 : (0 : Int) ≤ (B : Int) := by omega
     have iB1 : (B : Int) < (vs.length : Int) := by omega
     go_upto_region 13 with (at_builtin; refine wpList_append_row _ rfl (.tmp 49) (.tmp 51) 33 rfl 3 (.int .i64 0) 1 8 Tryz.underlying33 int_info rfl u _ _ rfl (hown.alloc _) ⟨wX.heap.size, 0, none⟩ 1 1 [.int .i64 B] rfl rfl (one_new (cell_new1 rfl)) (one_ok _ _) (by omega) (by unfold maxLen; omega) (by omega) ?_; intro g5 cc5 w5 hr5 hc5 hg5 hor5; obtain ⟨q1⟩ : PLift (w5.cell? ⟨w3.heap.size, A, none⟩ = some u) := ⟨grown_cell hg5 (keep_cell (bl_alloc _ _) hcA) hneA⟩; obtain ⟨q2⟩ : PLift (w5.frozen? ⟨w3.heap.size, A, none⟩ = false) := ⟨grown_frozen hg5 (by simp; omega) ((((bl_alloc wX (.cells #[.int .i64 B] 3)).frozen (p := ⟨w3.heap.size, A, none⟩) hsz1)).trans hfA) hneA⟩)
     have hst1 := (HO1.out.alloc (.cells #[.int .i64 B] 3)).stored Hu.out HrA.out hr5 hg5 (hor5.imp id (fun h => by simpa using h)); have hbl5 : Below w3.heap.size w3 (w5.setCell ⟨w3.heap.size, A, none⟩ (.slice (some ⟨g5, 0, none⟩) (rA.length + 1) cc5)) := ((bl_trans hbl1 (bl_alloc _ _)).grown hg5 (by simp; omega) (fun j hj => by have := (HO1.out.young A u j Hu.out hj); omega)).setCell (by simp) _; rw [show (rA.map vN ++ [Value.int .i64 (B : Int)]) = rA.map vN ++ [vN B] from rfl, show (rA.map vN ++ [vN B]).length = rA.length + 1 by simp] at hst1; have hsz5 : w3.heap.size < (w5.setCell ⟨w3.heap.size, A, none⟩ (.slice (some ⟨g5, 0, none⟩) (rA.length + 1) cc5)).heap.size := by have := hg5.size; simp at this ⊢; omega
     generalize w5.setCell ⟨w3.heap.size, A, none⟩ (.slice (some ⟨g5, 0, none⟩) (rA.length + 1) cc5) = wY at hst1 hbl5 hsz5 ⊢; clear hr5 hg5 hor5 q1 q2 hcA hfA hneA hown hbl1 hsz1; generalize vals.set A (.slice (some ⟨g5, 0, none⟩) (rA.length + 1) cc5) = vals2 at hst1; have hvl2 : vals2.length = vs.length := by rw [hst1.len]; simp [nbRows]
     obtain ⟨u2, hu2⟩ : ∃ u, vals2[B]? = some u := ⟨vals2[B]'(by omega), by simp⟩
     have hrB2 : ((nbRows vs.length vs (ls.take k)).set A (rA.map vN ++ [vN B]))[B]? = some (rB.map vN) := by rw [List.getElem?_set, if_neg hAB]; exact HrB.out
     have hown2 := hst1.own B u2 _ hu2 hrB2; rw [List.length_map] at hown2; have hcB : wY.cell? ⟨w3.heap.size, B, none⟩ = some u2 := by rw [hst1.outer.cell? B (by omega)]; exact hu2
     have hfB := hst1.outer.frozen B; have hneB := hst1.ne_outer hu2; have HS1 := Lib.hid hst1; have HrB2 := Lib.hid hrB2; have Hu2 := Lib.hid hu2; clear hst1 hrB2 hu2 hvl2; go_upto_region 14 with (at_builtin; refine wpList_append_row _ rfl (.tmp 59) (.tmp 61) 33 rfl 3 (.int .i64 0) 1 8 Tryz.underlying33 int_info rfl u2 _ _ rfl (hown2.alloc _) ⟨wY.heap.size, 0, none⟩ 1 1 [.int .i64 A] rfl rfl (one_new (cell_new1 rfl)) (one_ok _ _) (by omega) (by unfold maxLen; omega) (by omega) ?_; intro g6 cc6 w6 hr6 hc6 hg6 hor6; obtain ⟨q1⟩ : PLift (w6.cell? ⟨w3.heap.size, B, none⟩ = some u2) := ⟨grown_cell hg6 (keep_cell (bl_alloc _ _) hcB) hneB⟩; obtain ⟨q2⟩ : PLift (w6.frozen? ⟨w3.heap.size, B, none⟩ = false) := ⟨grown_frozen hg6 (by simp; omega) ((((bl_alloc wY (.cells #[.int .i64 A] 3)).frozen (p := ⟨w3.heap.size, B, none⟩) hsz5)).trans hfB) hneB⟩)
     have hst2 := (HS1.out.alloc (.cells #[.int .i64 A] 3)).stored Hu2.out HrB2.out hr6 hg6 (hor6.imp id (fun h => by simpa using h)); have hbl6 : Below w3.heap.size w3 (w6.setCell ⟨w3.heap.size, B, none⟩ (.slice (some ⟨g6, 0, none⟩) (rB.length + 1) cc6)) := ((bl_trans hbl5 (bl_alloc _ _)).grown hg6 (by simp; omega) (fun j hj => by have := (HS1.out.young B u2 j Hu2.out hj); omega)).setCell (by simp) _; rw [show (rB.map vN ++ [Value.int .i64 (A : Int)]) = rB.map vN ++ [vN A] from rfl, show (rB.map vN ++ [vN A]).length = rB.length + 1 by simp, Hst3.out] at hst2; have hsz6 : w3.heap.size < (w6.setCell ⟨w3.heap.size, B, none⟩ (.slice (some ⟨g6, 0, none⟩) (rB.length + 1) cc6)).heap.size := by have := hg6.size; simp at this ⊢; omega
     clear hr6 hg6 hor6 q1 q2 hcB hfB hneB hown2 hbl5 hsz5; go_wp2_with fail; go_roundg (gk - 1)
     case measure => have := Hk.out; omega
     case rel => exact ⟨k + 1, _, by have := Hk.out; omega, by go_num, hst2, hbl6, hsz6⟩
    ·
     have hkl : k = ls.length := by omega
     subst hkl; rw [List.take_length] at hO; have hok := HR.out.2.1; have hG : RdG wr w3.heap.size vs.length (nbN vs ls) := fun v hv => by
      have hvl0 : vals.length = vs.length := by rw [hO.len]; simp [nbRows]
      obtain ⟨u, hu⟩ : ∃ u, vals[v]? = some u := ⟨vals[v]'(by omega), by simp⟩
      have hrA := nbRows_get (vs := vs) (ls := ls) hv; have hown := hO.own v u _ hu hrA; have hc : wr.cell? ⟨w3.heap.size, v, none⟩ = some u := by rw [hO.outer.cell? v (by omega)]; exact hu
      rcases hown.2 with ⟨rfl, h0⟩ | ⟨g, c', rfl, _, hrow⟩
      ·
       rw [List.length_map] at h0; have hnil := List.eq_nil_of_length_eq_zero h0; exact ⟨none, 0, by rw [hc, hnil]; rfl, by rw [hnil]; intro i u hu; simp at hu⟩
      ·
       rw [List.length_map] at hc; exact ⟨some ⟨g, 0, none⟩, c', hc, hrow.at_⟩
     have hB4 := bl_trans hB3 hb; have hszw := hB3.size; clear hO hr3 hm hk hok hb; go_wp2_with fail; go_ret; exact ⟨_, rfl, hG, hszw, hB4⟩
end Go.Proofs.YtagcbnpahgfgmaaGreat
