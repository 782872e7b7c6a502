/- Facts that the claim rests on, part 16. -/
import Derived.Test.YtagjdkkfmfombaaGreatKB14
namespace Go.Proofs.YtagjdkkfmfombaaGreat
open Go Go.RowKit Go.Maps
set_option maxRecDepth 100000 in
set_option maxHeartbeats 8000000 in
theorem grown_walk (n : Nat) (es : List (Int × Int)) (cuts : List Nat) (ts : List Int) (a1 a2 a3 b : Option Addr) (c1 c2 c3 cb m nc nL : Nat) (w : World) (ht : TreeV n es) (h2 : 2 ≤ n) (hn : n ≤ 200) (hc : CutsOk n es cuts) (hl : ts.length = n) (hts : RdI w b ts)
  (hB : RdB w a1 (es.map fun e => [e])) (hC : CellsAt w a2 (cuts.map vN)) (hL : RdP w a3 (linksT es cuts es.length)) (hm : m = es.length) (hnc : nc = cuts.length) (hnL : nL = (linksT es cuts es.length).length) :
  Calls Tryz.prog 35 #[.agg #[.slice a1 m c1, .slice a2 nc c2, .slice a3 nL c3], .slice b n cb] w (RetGr w n es cuts ts) := by
 obtain ⟨hU1, hU2, hU3⟩ := uz_ok ts
 obtain ⟨U, hUe⟩ : ∃ U, U = uz ts := ⟨_, rfl⟩
 rw [← hUe] at hU1 hU2 hU3
 have hUe2 : Lib.compact (ts.mergeSort fun x y => decide (x ≤ y)) = U := hUe.symm
 have HUe := Lib.hid hUe; have HUe2 := Lib.hid hUe2
 clear hUe hUe2
 have hcl := fun w hr => cloneZ_walk b cb ts w hr (by omega) (by omega)
 rw [hl] at hcl
 obtain ⟨bb, oo, rfl, -⟩ := hts.at 0 (by omega)
 have hmk := fun w => run_make_row' (P := Tryz.prog) 88 4 (.bool false) 1 Tryz.underlying88 bool_info rfl .i64 .i64 n (by omega) (by omega) w
 have hm1 := fun w => run_makeMapN 87 _ _ Tryz.underlying87 w
 have hb0 := bl_alloc w (.cells #[.slice a1 m c1, .slice a2 nc c2, .slice a3 nL c3] 78)
 have z0 : (w.alloc (.cells #[.slice a1 m c1, .slice a2 nc c2, .slice a3 nL c3] 78)).cell? ⟨w.heap.size, 0, none⟩ = some (.slice a1 m c1) := by simp
 have z1 : (w.alloc (.cells #[.slice a1 m c1, .slice a2 nc c2, .slice a3 nL c3] 78)).cell? ⟨w.heap.size, 1, none⟩ = some (.slice a2 nc c2) := by simp
 have z2 : (w.alloc (.cells #[.slice a1 m c1, .slice a2 nc c2, .slice a3 nL c3] 78)).cell? ⟨w.heap.size, 2, none⟩ = some (.slice a3 nL c3) := by simp
 have hsz0 : (w.alloc (.cells #[.slice a1 m c1, .slice a2 nc c2, .slice a3 nL c3] 78)).heap.size = w.heap.size + 1 := by simp
 generalize hw0 : w.alloc (.cells #[.slice a1 m c1, .slice a2 nc c2, .slice a3 nL c3] 78) = w0 at hb0 z0 z1 z2 hsz0
 have hts0 := hts.below hb0
 have Hcl := Lib.hid hcl; have Hts0 := Lib.hid hts0; have Hts := Lib.hid hts; have HB := Lib.hid hB; have HC := Lib.hid hC; have HL := Lib.hid hL; have Hht := Lib.hid ht; have Hhc := Lib.hid hc; have Hl := Lib.hid hl; have HU1 := Lib.hid hU1; have HU2 := Lib.hid hU2; have HU3 := Lib.hid hU3; have Hm := Lib.hid hm; have Hnc := Lib.hid hnc; have HnL := Lib.hid hnL; have Hb0 := Lib.hid hb0; have Hz0 := Lib.hid z0; have Hz1 := Lib.hid z1; have Hz2 := Lib.hid z2; have Hsz0 := Lib.hid hsz0
 clear hcl hts0 hts hB hC hL ht hc hl hU1 hU2 hU3 hm hnc hnL hb0 z0 z1 z2 hsz0
 go_enter Tryz.func35, Tryz.ntmps35
 go_wp2_with fail
 clear hw0
 refine (Hcl.out _ Hts0.out).mono ?_
 rintro e w1 ⟨ga, ca, rfl, hra, hga, hb1⟩
 have hso := sort_rowU ga ca ts w1 hra (by rw [Hl.out]; omega)
 rw [Hl.out] at hso
 have Hso := Lib.hid hso; have Hb1 := Lib.hid hb1; have Hga := Lib.hid hga
 clear hso hb1 hra hga
 go_wp2_with fail
 refine Hso.out.mono ?_
 rintro e w2 ⟨rfl, hr2, hg2⟩
 have hcp := compact_row ga ca (ts.mergeSort fun x y => decide (x ≤ y)) w2 hr2 (by rw [List.length_mergeSort, Hl.out]; omega)
 rw [List.length_mergeSort, Hl.out, HUe2.out] at hcp
 have Hcp := Lib.hid hcp; have Hg2 := Lib.hid hg2
 clear hcp hg2 hr2
 go_wp2_with fail
 refine Hcp.out.mono ?_
 rintro e w3 ⟨rfl, hr3, hg3⟩
 have hb3 : Below (w.heap.size + 1) w0 w3 := by
  have a := Hsz0.out
  have b := Hga.out
  have c := Hb1.out.size
  have h1 : Below (w.heap.size + 1) w0 w1 := Hb1.out.mono (by omega)
  have h2 := h1.grown Hg2.out (by omega) fun k hk => by cases hk; omega
  exact h2.grown hg3 (by have := h2.size; omega) fun k hk => by cases hk; omega
 have d0 := keep_cell (hb3.mono (by rw [Hsz0.out]; exact Nat.le_refl _)) Hz0.out
 have Hb3 := Lib.hid hb3; have Hr3 := Lib.hid hr3
 clear hb3 hr3 hg3
 go_upto_region 5 with (fail)
 have tc5 := TC.made ((w3.alloc (.map #[] 0)).alloc (.cells (madeCells #[.bool false] n) 4)) #[.slice none 0 0, .slice none 0 0, .int .i64 0, .slice none 0 0, .slice none 0 0, .slice none 0 0, .slice none 0 0, .int .i64 U.length, .map (some w3.heap.size), .slice (some ⟨w3.heap.size + 1, 0, none⟩) n n, .slice none 0 0] 90
 have mz5 := (((MZ.made w3).alloc (.cells (madeCells #[.bool false] n) 4)).alloc (.cells #[.slice none 0 0, .slice none 0 0, .int .i64 0, .slice none 0 0, .slice none 0 0, .slice none 0 0, .slice none 0 0, .int .i64 U.length, .map (some w3.heap.size), .slice (some ⟨w3.heap.size + 1, 0, none⟩) n n, .slice none 0 0] 90))
 have gp5 := (row_made (w3.alloc (.map #[] 0)) (.bool false) n 4 (by unfold maxLen; omega)).alloc (.cells #[.slice none 0 0, .slice none 0 0, .int .i64 0, .slice none 0 0, .slice none 0 0, .slice none 0 0, .slice none 0 0, .int .i64 U.length, .map (some w3.heap.size), .slice (some ⟨w3.heap.size + 1, 0, none⟩) n n, .slice none 0 0] 90)
 have hsz1 : (w3.alloc (.map #[] 0)).heap.size = w3.heap.size + 1 := by simp
 have hsz2 : ((w3.alloc (.map #[] 0)).alloc (.cells (madeCells #[.bool false] n) 4)).heap.size = w3.heap.size + 1 + 1 := by simp
 rw [hsz2] at tc5
 rw [hsz1] at gp5
 have b35 : Below w3.heap.size w3 (((w3.alloc (.map #[] 0)).alloc (.cells (madeCells #[.bool false] n) 4)).alloc (.cells #[.slice none 0 0, .slice none 0 0, .int .i64 0, .slice none 0 0, .slice none 0 0, .slice none 0 0, .slice none 0 0, .int .i64 U.length, .map (some w3.heap.size), .slice (some ⟨w3.heap.size + 1, 0, none⟩) n n, .slice none 0 0] 90)) := bl_trans (bl_trans (bl_alloc _ _) (bl_alloc _ _)) (bl_alloc _ _)
 have hsz3 : (((w3.alloc (.map #[] 0)).alloc (.cells (madeCells #[.bool false] n) 4)).alloc (.cells #[.slice none 0 0, .slice none 0 0, .int .i64 0, .slice none 0 0, .slice none 0 0, .slice none 0 0, .slice none 0 0, .int .i64 U.length, .map (some w3.heap.size), .slice (some ⟨w3.heap.size + 1, 0, none⟩) n n, .slice none 0 0] 90)).heap.size = w3.heap.size + 1 + 1 + 1 := by simp
 generalize ((w3.alloc (.map #[] 0)).alloc (.cells (madeCells #[.bool false] n) 4)).alloc (.cells #[.slice none 0 0, .slice none 0 0, .int .i64 0, .slice none 0 0, .slice none 0 0, .slice none 0 0, .slice none 0 0, .int .i64 U.length, .map (some w3.heap.size), .slice (some ⟨w3.heap.size + 1, 0, none⟩) n n, .slice none 0 0] 90) = w5 at *
 obtain ⟨T, hT⟩ : ∃ T, T = w3.heap.size + 1 + 1 := ⟨_, rfl⟩
 rw [← hT] at tc5 hsz3 ⊢
 obtain ⟨gp, hgp⟩ : ∃ gp, gp = w3.heap.size + 1 := ⟨_, rfl⟩
 rw [← hgp] at tc5 gp5 hT ⊢
 obtain ⟨mb, hmb⟩ : ∃ mb, mb = w3.heap.size := ⟨_, rfl⟩
 rw [← hmb] at tc5 mz5 hgp ⊢
 have hr5 := Hr3.out.below b35 Hr3.out.lt
 have hgalt := Hr3.out.lt
 have B5 : Below (w.heap.size + 1) w0 w5 := Hb3.out.trans (b35.mono (by have := Hb3.out.size; have := Hsz0.out; omega))
 have hs0 := Hsz0.out
 have hs3 := Hb3.out.size
 have hord : w.heap.size < ga ∧ ga < mb ∧ gp = mb + 1 ∧ T = gp + 1 ∧ w5.heap.size = T + 1 := by
  have := Hga.out
  refine ⟨by omega, by omega, by omega, by omega, by omega⟩
 have Htc5 := Lib.hid tc5; have Hmz5 := Lib.hid mz5; have Hgp5 := Lib.hid gp5; have Hr5 := Lib.hid hr5; have HB5 := Lib.hid B5; have Hord := Lib.hid hord
 clear tc5 mz5 gp5 hr5 B5 hord hsz1 hsz2 hsz3 b35 hT hgp hmb hgalt hs0 hs3 Hr3 Hb3 d0 hm1 hmk Hg2 Hga
 obtain ⟨T0, hT0⟩ : ∃ T0 : List Value, T0 = [.slice none 0 0, .slice none 0 0, .int .i64 0, .slice none 0 0, .slice none 0 0, .slice none 0 0, .slice none 0 0, .int .i64 U.length, .map (some mb), .slice (some ⟨gp, 0, none⟩) n n, .slice none 0 0] := ⟨_, rfl⟩
 have tc5 : TC w5 T T0 := by rw [hT0]; exact Htc5.out
 have hT06 : T0.set 6 (.slice none 0 0) = T0 := by rw [hT0]; rfl
 have hT0l : T0.length = 11 := by rw [hT0]; rfl
 have HT0 := Lib.hid hT0; have HT06 := Lib.hid hT06; have HT0l := Lib.hid hT0l; have HT5 := Lib.hid tc5
 clear hT0 hT06 hT0l tc5 Htc5
 go_wp2_with fail
 go_loopg [41] n (fun r iv wj => ∃ (k : Nat) (sv : Value), k + r = n ∧ iv = .int .i64 (k : Nat) ∧ Fld T 6 3 T0 (((shL ts).take k).map vN) sv wj ∧ StepX (fun a => a.block = T) w5 none wj sv.ownBlock)
 case atStart => exact ⟨0, .slice none 0 0, by omega, rfl, ⟨by rw [HT06.out]; exact HT5.out, by simpa using own_nil w5 3 1, by simp [Value.ownBlock]⟩, StepX.refl _ _ _⟩
 case round =>
  obtain ⟨k, sv, hk, rfl, hF, hS⟩ := hrel
  obtain ⟨o1, o2, o3, o4, o5⟩ := Hord.out
  by_cases hkn : k < n
  ·
   have hbw : Below w.heap.size w wr := (Hb0.out.trans (HB5.out.mono (by omega))).trans (hS.toBelow (by omega) (fun p hp => by omega) fun g hg => by cases hg); obtain ⟨b', o', hbe, hx⟩ := (Hts.out.below hbw).at k (by rw [Hl.out]; exact hkn); cases hbe; obtain ⟨x, hxx⟩ : ∃ x, x = ts[k]'(by rw [Hl.out]; exact hkn) := ⟨_, rfl⟩
   rw [← hxx] at hx; have hxU : x ∈ U := (HU2.out x).2 (by rw [hxx]; exact List.getElem_mem _); have hrg : Row wr ga 3 1 ca (U.map (Value.int .i64)) := hS.1.row Hr5.out (by omega) fun o hp => by
    rcases hp with e | e
    · simp only at e; omega
    · cases e
   have hsk := seek_walk ga ca U x wr hrg HU1.out hxU (by have := HU3.out; have := Hl.out; omega); have htk : ((shL ts).take (k + 1)).map vN = ((shL ts).take k).map vN ++ [vN (U.idxOf x)] := by
    have hk2 : k < (shL ts).length := by simp [shL, Hl.out, hkn]
    rw [List.take_succ_eq_append_getElem hk2, List.map_append]; have : (shL ts)[k] = U.idxOf x := by rw [hxx, HUe.out]; simp [shL]
    rw [this]; rfl
   have hvl : (((shL ts).take k).map vN).length = k := by simp [shL, Hl.out]; omega
   obtain ⟨p, hp⟩ : ∃ p, p = U.idxOf x := ⟨_, rfl⟩
   rw [← hp] at hsk htk; have i1 : (k : Int) < (n : Int) := by omega
   have i0 : (0 : Int) ≤ (k : Int) := by omega
   have Hsk := Lib.hid hsk; have HF := Lib.hid hF; have HS := Lib.hid hS; have Hk := Lib.hid hk; have Htk := Lib.hid htk; have Hvl := Lib.hid hvl; clear hsk hF hS hk htk hvl hrg hxU hp hxx hbw o1 o2 o3 o4 o5; go_wp2_with fail; refine Hsk.out.mono ?_; rintro e w6 ⟨rfl, q, rfl⟩; have hF6 := HF.out.drewN q; have hS6 : StepX (fun a => a.block = T) w5 none (wr.drewN q) sv.ownBlock := HS.out.trans (StepX.ofBelow (below_drewN (RowKit.Below.refl wr.heap.size wr) q) _); generalize wr.drewN q = wq at *
   have hown := hF6.own; rw [Hvl.out] at hown; have hAl := hown.alloc (.cells #[.int .i64 (p : Nat)] 3); have qn : (wq.alloc (.cells #[.int .i64 (p : Nat)] 3)).cell? ⟨wq.heap.size, 0, none⟩ = some (.int .i64 (p : Nat)) := by simp
   have c6 := hF6.cell (by rw [HT0l.out]; omega); have tA := hF6.tc.below (bl_alloc wq (.cells #[.int .i64 (p : Nat)] 3)); have c6A := tA.at_ 6 sv (by rw [List.getElem?_set_self (by rw [HT0l.out]; omega)]); have f6A := tA.fz 6; have ltA := tA.lt; have ne1 := hF6.ne; have ne2 : some T ≠ sv.ownBlock := fun e => ne1 e.symm; have HAl := Lib.hid hAl; have HF6 := Lib.hid hF6; have HS6 := Lib.hid hS6; have Hc6A := Lib.hid c6A; have Hf6A := Lib.hid f6A; have HltA := Lib.hid ltA; clear hown hAl hF6 hS6 tA c6A f6A ltA HF HS Hsk; go_wp2_with (at_builtin; (refine wpList_append_row _ rfl (.tmp 55) (.tmp 57) 25 rfl 3 (.int .i64 0) 1 8 Tryz.underlying25 int_info rfl sv k _ rfl HAl.out ⟨wq.heap.size, 0, none⟩ 1 1 [.int .i64 (p : Nat)] rfl rfl (one_new qn) (one_ok _ _) (by omega) (by unfold maxLen; omega) (by omega) ?_; intro g4 c4 w4 hr4 hc4 hg4 ho4; have z6 := hg4.cell Hc6A.out ne2; have zf := grown_frozen (b := T) (o := 6) hg4 HltA.out Hf6A.out ne1; have Hr4 := Lib.hid hr4; have Hg4 := Lib.hid hg4; have Ho4 := Lib.hid ho4; clear hr4 hg4 ho4)); have hps := HF6.out.push (bl_alloc _ _) Hg4.out Ho4.out Hr4.out; have e1 : ((((shL ts).take k).map vN) ++ [Value.int .i64 (p : Nat)]) = ((shL ts).take (k + 1)).map vN := Htk.out.symm; rw [Hvl.out, e1] at hps; go_roundg (gk - 1)
   case measure => have := Hk.out; omega
   case rel => exact ⟨k + 1, _, by have := Hk.out; omega, by go_num, hps.1, HS6.out.trans hps.2⟩
  ·
   obtain rfl : n = k := by omega
   have hbw : Below (w.heap.size + 1) w0 wr := HB5.out.trans (hS.toBelow (by omega) (fun p hp => by omega) fun g hg => by cases hg); have htake : (shL ts).take n = shL ts := List.take_of_length_le (by simp [shL, Hl.out]); rw [htake] at hF; have hown := hF.own; have hvl : ((shL ts).map vN).length = n := by simp [shL, Hl.out]
   rw [hvl] at hown; obtain ⟨gs, cs, rfl, hcs, hrs⟩ : ∃ gs cs, sv = .slice (some ⟨gs, 0, none⟩) n cs ∧ n ≤ cs ∧ Row wr gs 3 1 cs ((shL ts).map vN) := by
    rcases hown.2 with ⟨_, h0⟩ | ⟨g, cap, h1, h2, h3⟩
    · omega
    · exact ⟨g, cap, h1, h2, h3⟩
   have hgs : w5.heap.size ≤ gs := by
    rcases hS.2 with e | e
    · cases e
    · exact e gs rfl
   obtain ⟨T1, hT1⟩ : ∃ T1, T1 = T0.set 6 (.slice (some ⟨gs, 0, none⟩) n cs) := ⟨_, rfl⟩
   have tc1 : TC wr T T1 := by rw [hT1]; exact hF.tc
   have mz1 : MZ wr mb 0 (fun _ => none) := Hmz5.out.block (hS.1.obj mb (by omega) fun o hx => by
    rcases hx with e | e
    · simp only at e; omega
    · cases e)
   have gp1 := hS.1.row Hgp5.out (by omega) fun o hx => by
    rcases hx with e | e
    · simp only at e; omega
    · cases e
   have hsz := hS.1.size; have hord1 : w.heap.size < mb ∧ gp = mb + 1 ∧ T = gp + 1 ∧ T < gs ∧ gs < wr.heap.size := ⟨by omega, by omega, by omega, by omega, hrs.lt⟩
   have e0 := keep_cell (hbw.mono (by rw [Hsz0.out]; exact Nat.le_refl _)) Hz0.out; have e1 := keep_cell (hbw.mono (by rw [Hsz0.out]; exact Nat.le_refl _)) Hz1.out; have e2 := keep_cell (hbw.mono (by rw [Hsz0.out]; exact Nat.le_refl _)) Hz2.out; have HbW := Lib.hid hbw; have Hrs := Lib.hid hrs; have HT1 := Lib.hid hT1; have Htc1 := Lib.hid tc1; have Hmz1 := Lib.hid mz1; have Hgp1 := Lib.hid gp1; have Hord1 := Lib.hid hord1; have He1 := Lib.hid e1; have He2 := Lib.hid e2; have He0 := Lib.hid e0; clear hbw hrs hT1 tc1 mz1 gp1 hord1 hF hS hown hvl hcs hgs hsz htake hk o1 o2 o3 o4 o5 e1 e2 HB5 Hord Hr5 Hgp5 Hmz5 HT5; obtain ⟨v1, hv1⟩ : ∃ v1 : World, v1 = wr := ⟨_, rfl⟩
   rw [← hv1] at HbW Hrs Htc1 Hmz1 Hgp1 Hord1 He1 He2 He0 e0 ⊢; clear hv1; have hm0 : 0 < m := by rw [Hm.out]; have := Hht.out.len; omega
   obtain ⟨ba, oa, rfl⟩ : ∃ ba oa, a1 = some ⟨ba, oa, none⟩ := by
    have : ∃ q, (es.map fun e => [e])[0]? = some q := ⟨_, List.getElem?_eq_getElem (by rw [List.length_map, ← Hm.out]; exact hm0)⟩
    obtain ⟨q, hq⟩ := this; obtain ⟨b, o, _, _, h1, _⟩ := HB.out 0 q hq; exact ⟨b, o, h1⟩
   go_wp2_with fail; have hT10 : T1.length = 11 := by rw [HT1.out, List.length_set]; exact HT0l.out
   have hT1z : T1.set 0 (.slice none 0 0) = T1 := by rw [HT1.out, HT0.out]; rfl
   have HT1l := Lib.hid hT10; have HT1z := Lib.hid hT1z; clear hT10 hT1z; go_loopg [65] m (fun r iv wj => ∃ (i : Nat) (kv : Value) (bo : Nat → Nat), i + r = m ∧ iv = .int .i64 (i : Nat) ∧ Fld T 0 85 T1 (knV 115 bo 0 i) kv wj ∧ StepX (fun a => a.block = T) v1 none wj kv.ownBlock ∧ BlksW v1 es bo i kv.ownBlock wj)
   case atStart => exact ⟨0, .slice none 0 0, fun _ => 0, by omega, rfl, ⟨by rw [HT1z.out]; exact Htc1.out, by simpa [knV] using own_nil v1 85 1, by simp [Value.ownBlock]⟩, StepX.refl _ _ _, ⟨fun j hj => by omega, fun j l hj => by omega⟩⟩
   case round =>
    obtain ⟨i, kv, bo, hi, rfl, hF, hS, hBl⟩ := hrel; by_cases him : i < m
    ·
     obtain ⟨o1, o3, o4, o5, o6⟩ := Hord1.out; have hB0 : RowKit.Below w.heap.size w v1 := Hb0.out.trans (HbW.out.mono (by omega)); have hbw : RowKit.Below w.heap.size w wr := hB0.trans (hS.toBelow (by omega) (fun p hp => by omega) fun g hg => by cases hg); have hie : i < es.length := by rw [← Hm.out]; exact him
     obtain ⟨x, y, ex, hxy, hyn, exg⟩ := ends_get Hht.out.right hie; obtain ⟨b', o', au, cu, hbe, hx, hrp, hcu, hcm⟩ := (HB.out.below hbw) i [es[i]] (by rw [List.getElem?_map, List.getElem?_eq_getElem hie]; rfl); cases hbe; obtain ⟨bu, ou, rfl, p0, p1⟩ := hrp.at 0 (by simp); simp only [List.length_singleton] at hx; have hw1 := hS.1.size; have hT := hF.tc.lt; have bA := bl_alloc wr (.cells #[.int .i64 (i : Nat), .slice none 0 0, .slice none 0 0, .slice none 0 0, .slice none 0 0] 118); have tA := TC.made wr #[.int .i64 (i : Nat), .slice none 0 0, .slice none 0 0, .slice none 0 0, .slice none 0 0] 118; have hrpA := hrp.below bA; have sA : (wr.alloc (.cells #[.int .i64 (i : Nat), .slice none 0 0, .slice none 0 0, .slice none 0 0, .slice none 0 0] 118)).heap.size = wr.heap.size + 1 := by simp
     generalize hwA : wr.alloc (.cells #[.int .i64 (i : Nat), .slice none 0 0, .slice none 0 0, .slice none 0 0, .slice none 0 0] 118) = wA at bA tA hrpA sA; obtain ⟨bk, hbk⟩ : ∃ bk, bk = wr.heap.size := ⟨_, rfl⟩
     rw [← hbk] at tA sA; have i1 : (i : Int) < (m : Int) := by omega
     have i0 : (0 : Int) ≤ (i : Int) := by omega
     obtain ⟨gq, rfl⟩ : ∃ gq, gq = gk := ⟨_, rfl⟩
     obtain ⟨wo, hwo⟩ : ∃ wo : World, wo = wr := ⟨_, rfl⟩
     rw [← hwo] at hF hS hBl hx hwA bA hbk hbw hw1 hT ⊢; clear hwo; have HF := Lib.hid hF; have HS := Lib.hid hS; have HBl := Lib.hid hBl; have Hi := Lib.hid hi; have HrpA := Lib.hid hrpA; have HbA := Lib.hid bA; have HtA := Lib.hid tA; have HsA := Lib.hid sA; have Hbk := Lib.hid hbk; have Hex := Lib.hid ex; have Hxy := Lib.hid hxy; have Hexg := Lib.hid exg; have Hw1 := Lib.hid hw1; have HT := Lib.hid hT; clear hF hS hBl hi hrpA bA tA sA ex hxy exg hw1 hT hB0 hbw hrp p0 p1 hcu hcm hyn o1 o3 o4 o5 o6 hbk; go_wp2_with fail; clear hwA; rw [← Hbk.out]; go_loopg [75] 1 (fun r iv wi => ∃ j : Nat, j + r = 1 ∧ iv = .int .i64 (j : Nat) ∧ (j = 0 → wi = wA) ∧ (0 < j → InnW wo i x y bk wi))
     case atStart => exact ⟨0, by omega, rfl, fun _ => rfl, fun h => absurd h (by omega)⟩
     case round =>
      obtain ⟨j, hj, rfl, hj0, hj1⟩ := hrel; by_cases hj2 : j < 1
      ·
       obtain rfl := hj0 (by omega); obtain ⟨_, _, ebu, p0, p1⟩ := HrpA.out.at j (by simpa using hj2); cases ebu; simp only [List.getElem_singleton, Hex.out] at p0 p1; have i2 : (j : Int) < 1 := by omega
       have i3 : (0 : Int) ≤ (j : Int) := by omega
       have bB := bl_alloc wr (.cells #[.int .i64 (x : Nat), .int .i64 (y : Nat)] 51); have qe0 : (wr.alloc (.cells #[.int .i64 (x : Nat), .int .i64 (y : Nat)] 51)).cell? ⟨wr.heap.size, 0, none⟩ = some (.int .i64 (x : Nat)) := by simp
       have qe1 : (wr.alloc (.cells #[.int .i64 (x : Nat), .int .i64 (y : Nat)] 51)).cell? ⟨wr.heap.size, 1, none⟩ = some (.int .i64 (y : Nat)) := by simp
       have qt := HtA.out.below bB; have sB : (wr.alloc (.cells #[.int .i64 (x : Nat), .int .i64 (y : Nat)] 51)).heap.size = wr.heap.size + 1 := by simp
       have HbB := Lib.hid bB; have Hqt := Lib.hid qt; have HsB := Lib.hid sB; have Hj := Lib.hid hj; clear bB qt sB hj hj0 hj1; go_wp2_with fail; generalize wr.alloc (.cells #[.int .i64 (x : Nat), .int .i64 (y : Nat)] 51) = wB at *
       obtain ⟨be, hbe⟩ : ∃ be, be = wr.heap.size := ⟨_, rfl⟩
       rw [← hbe] at qe0 qe1 ⊢; have qt := Hqt.out; have qf := qt.at_ 1 _ rfl; have hbl := qt.lt; have bS : RowKit.Below wo.heap.size wo wB := HbA.out.trans (HbB.out.mono (by have := HbA.out.size; omega)); have hne : bk ≠ be := by have := HsA.out; omega
       have Hbe := Lib.hid hbe; clear hbe; refine regionT (fun w' => w'.cell? ⟨bk, 1, none⟩ = some (.slice none 0 0) ∧ w'.cell? ⟨be, 0, none⟩ = some (.int .i64 (x : Nat)) ∧ w'.cell? ⟨be, 1, none⟩ = some (.int .i64 (y : Nat))) 12 (by kernel_rfl) ?_; have hS : wB.drew.cell? ⟨bk, 1, none⟩ = some (.slice none 0 0) ∧ wB.drew.cell? ⟨be, 0, none⟩ = some (.int .i64 (x : Nat)) ∧ wB.drew.cell? ⟨be, 1, none⟩ = some (.int .i64 (y : Nat)) := ⟨qf, qe0, qe1⟩
       refine tkT 0 ?_ rfl hS ?_ ?_ (by kernel_rfl) (fun _ _ _ h => h) (by rfl); rotate_left; (· intro wS hSw; (try dsimp only at hSw); go_simp; try with_reducible rfl); simp only [Act.put, zT]; refine tkT 1 ?_ rfl hS ?_ ?_ (by kernel_rfl) (fun _ _ _ h => h) (by rfl); rotate_left; (· intro wS hSw; (try dsimp only at hSw); go_simp; try with_reducible rfl); simp only [Act.put, zT]; refine tkT 2 ?_ rfl hS ?_ ?_ (by kernel_rfl) (fun _ _ _ h => h) (by rfl); rotate_left; (· intro wS hSw; (try dsimp only at hSw); go_simp; try with_reducible rfl); simp only [Act.put, zT]; refine tkT 3 ?_ rfl hS ?_ ?_ (by kernel_rfl) (fun _ _ _ h => h) (by rfl); rotate_left; (· intro wS hSw; (try dsimp only at hSw); go_simp; try with_reducible rfl); simp only [Act.put, zT]; refine tkT 4 ?_ rfl hS ?_ ?_ (by kernel_rfl) (fun _ _ _ h => h) (by rfl); rotate_left; (· intro wS hSw; (try dsimp only at hSw); go_simp; try with_reducible rfl); simp only [Act.put, zT]; refine tkT 5 ?_ rfl hS ?_ ?_ (by kernel_rfl) (fun _ _ _ h => h) (by rfl); rotate_left; (· intro wS hSw; (try dsimp only at hSw); go_simp; try with_reducible rfl); simp only [Act.put, zT]; refine tkT 6 ?_ rfl hS ?_ ?_ (by kernel_rfl) (fun _ _ _ h => h) (by rfl); rotate_left; (· intro wS hSw; (try dsimp only at hSw); go_simp; try with_reducible rfl); simp only [Act.put, zT]; refine tkT 7 ?_ rfl hS ?_ ?_ (by kernel_rfl) (fun _ _ _ h => h) (by rfl); rotate_left; (· intro wS hSw; (try dsimp only at hSw); go_simp; try with_reducible rfl); simp only [Act.put, zT]
       refine tkT 8 ?_ rfl hS ?_ ?_ (by kernel_rfl) (fun _ _ _ h => h) (by rfl); rotate_left; (· intro wS hSw; (try dsimp only at hSw); go_simp; try with_reducible rfl); simp only [Act.put, zT]; refine tkT 9 ?_ rfl hS ?_ ?_ (by kernel_rfl) (fun _ _ _ h => h) (by rfl); rotate_left; (· intro wS hSw; (try dsimp only at hSw); go_simp; try with_reducible rfl); simp only [Act.put, zT]; refine oneT (i := 10) rfl (by kernel_rfl) (fun K hK => ?_); go_simp; have bW : RowKit.Below wB.heap.size wB (wB.alloc (.cells #[.int .i64 (x : Nat), .int .i64 (y : Nat), .int .i64 0] 120)).drew := (bl_alloc _ _).drew; refine hK _ _ (fun _ => ⟨keep_cell bW qf, keep_cell bW qe0, keep_cell bW qe1⟩) ?_; clear hK K; refine oneT (i := 11) rfl (by kernel_rfl) (fun K hK => ?_); refine step_append_row rfl (.tmp 83) (.tmp 89) 116 rfl 120 (.agg #[.int .i64 0, .int .i64 0, .int .i64 0]) 3 24 Tryz.underlying116 link_info rfl (.slice none 0 0) 0 [] (by simp [Act.eval]) (own_nil _ _ _) ⟨wB.heap.size, 0, none⟩ 1 1 [.int .i64 (x : Nat), .int .i64 (y : Nat), .int .i64 0] (by simp [Act.eval]) rfl (newsA _ #[.int .i64 (x : Nat), .int .i64 (y : Nat), .int .i64 0] _) (by simp [Value.oneCell']) (by omega) (by unfold maxLen; omega) (by omega) ?_; intro g' cap' w2 hrow2 hcap2 hgr2 hor2; have r0 := grown_cell hgr2 (keep_cell bW qf) (by simp [Value.ownBlock]); have r1 := grown_cell hgr2 (keep_cell bW qe0) (by simp [Value.ownBlock]); have r2 := grown_cell hgr2 (keep_cell bW qe1) (by simp [Value.ownBlock]); have t2 := (qt.below bW).grown hgr2 (by simp [Value.ownBlock])
       have r3 := t2.fz 1; have g2 : wB.heap.size < g' := by
        rcases hor2 with e | e
        · simp [Value.ownBlock] at e
        · simp at e; omega
       refine hK _ _ (fun _ => ⟨r0, r1, r2⟩) ?_; clear hK K; refine oneT (i := 12) rfl (by kernel_rfl) (fun K hK => ?_); go_simp; refine hK _ _ (fun h => absurd h (by omega)) ?_; clear hK K; refine oneT (i := 13) rfl (by kernel_rfl) (fun K hK => ?_); go_simp; refine hK _ _ (fun h => absurd h (by omega)) ?_; clear hK K; refine oneT (i := 14) rfl (by kernel_rfl) (fun K hK => ?_); go_simp; refine hK _ _ (fun h => absurd h (by omega)) ?_; clear hK K; refine doneT (by kernel_rfl) ?_ _; have t3 := t2.set 1 (.slice (some ⟨g', 0, none⟩) 1 cap'); have row3 := hrow2.other (a := ⟨bk, 1, none⟩) (by simp only; omega) (.slice (some ⟨g', 0, none⟩) 1 cap'); have b3 : RowKit.Below wo.heap.size wo (w2.setCell ⟨bk, 1, none⟩ (.slice (some ⟨g', 0, none⟩) 1 cap')) := ((bS.trans (bW.mono (by have := bS.size; omega))).grown hgr2 (by have := bS.size; have := bW.size; omega) (by simp [Value.ownBlock])).setCell (by simp only; have := Hbk.out; omega) _; have qe0C := (World.cell?_setCell_far w2 ⟨bk, 1, none⟩ ⟨be, 0, none⟩ (.slice (some ⟨g', 0, none⟩) 1 cap') hne).trans r1; have qe1C := (World.cell?_setCell_far w2 ⟨bk, 1, none⟩ ⟨be, 1, none⟩ (.slice (some ⟨g', 0, none⟩) 1 cap') hne).trans r2; generalize hwC : w2.setCell ⟨bk, 1, none⟩ (.slice (some ⟨g', 0, none⟩) 1 cap') = wC at t3 row3 b3 qe0C qe1C; obtain ⟨gl, hgl⟩ : ∃ gl, gl = g' := ⟨_, rfl⟩
       obtain ⟨cl, hcl⟩ : ∃ cl, cl = cap' := ⟨_, rfl⟩
       have tC : TC wC bk [.int .i64 (i : Nat), .slice (some ⟨gl, 0, none⟩) 1 cl, .slice none 0 0, .slice none 0 0, .slice none 0 0] := by rw [hgl, hcl]; exact t3
       have rowC : Row wC gl 120 3 cl (lkCells (lk1 x y)) := by rw [hgl, hcl]; exact row3
       have hglb : bk < gl := by rw [hgl]; omega
       have HtC := Lib.hid tC; have HrowC := Lib.hid rowC; have HbC := Lib.hid b3; have Hglb := Lib.hid hglb; have HwC := Lib.hid hwC; clear t3 row3 b3 hgl hcl tC rowC hglb r0 r1 r2 r3 t2 g2 hrow2 hcap2 hgr2 hor2 bW hS qf qt qe0 qe1 bS hbl; go_wp2_with fail; have qt := HtC.out; have qf := qt.at_ 2 _ rfl; have hbl := qt.lt; have bS := HbC.out; have qe0 := qe0C; have qe1 := qe1C; refine regionT (fun w' => w'.cell? ⟨bk, 2, none⟩ = some (.slice none 0 0) ∧ w'.cell? ⟨be, 0, none⟩ = some (.int .i64 (x : Nat)) ∧ w'.cell? ⟨be, 1, none⟩ = some (.int .i64 (y : Nat))) 11 (by kernel_rfl) ?_; have hS : wC.drew.cell? ⟨bk, 2, none⟩ = some (.slice none 0 0) ∧ wC.drew.cell? ⟨be, 0, none⟩ = some (.int .i64 (x : Nat)) ∧ wC.drew.cell? ⟨be, 1, none⟩ = some (.int .i64 (y : Nat)) := ⟨qf, qe0, qe1⟩
       refine tkT 0 ?_ rfl hS ?_ ?_ (by kernel_rfl) (fun _ _ _ h => h) (by rfl); rotate_left; (· intro wS hSw; (try dsimp only at hSw); go_simp; try with_reducible rfl); simp only [Act.put, zT]; refine tkT 1 ?_ rfl hS ?_ ?_ (by kernel_rfl) (fun _ _ _ h => h) (by rfl); rotate_left; (· intro wS hSw; (try dsimp only at hSw); go_simp; try with_reducible rfl); simp only [Act.put, zT]; refine tkT 2 ?_ rfl hS ?_ ?_ (by kernel_rfl) (fun _ _ _ h => h) (by rfl); rotate_left; (· intro wS hSw; (try dsimp only at hSw); go_simp; try with_reducible rfl); simp only [Act.put, zT]; refine tkT 3 ?_ rfl hS ?_ ?_ (by kernel_rfl) (fun _ _ _ h => h) (by rfl); rotate_left; (· intro wS hSw; (try dsimp only at hSw); go_simp; try with_reducible rfl); simp only [Act.put, zT]; refine tkT 4 ?_ rfl hS ?_ ?_ (by kernel_rfl) (fun _ _ _ h => h) (by rfl); rotate_left; (· intro wS hSw; (try dsimp only at hSw); go_simp; try with_reducible rfl); simp only [Act.put, zT]; refine tkT 5 ?_ rfl hS ?_ ?_ (by kernel_rfl) (fun _ _ _ h => h) (by rfl); rotate_left; (· intro wS hSw; (try dsimp only at hSw); go_simp; try with_reducible rfl); simp only [Act.put, zT]; refine tkT 6 ?_ rfl hS ?_ ?_ (by kernel_rfl) (fun _ _ _ h => h) (by rfl); rotate_left; (· intro wS hSw; (try dsimp only at hSw); go_simp; try with_reducible rfl); simp only [Act.put, zT]; refine tkT 7 ?_ rfl hS ?_ ?_ (by kernel_rfl) (fun _ _ _ h => h) (by rfl); rotate_left; (· intro wS hSw; (try dsimp only at hSw); go_simp; try with_reducible rfl); simp only [Act.put, zT]
       refine tkT 8 ?_ rfl hS ?_ ?_ (by kernel_rfl) (fun _ _ _ h => h) (by rfl); rotate_left; (· intro wS hSw; (try dsimp only at hSw); go_simp; try with_reducible rfl); simp only [Act.put, zT]; refine oneT (i := 9) rfl (by kernel_rfl) (fun K hK => ?_); go_simp; have bW : RowKit.Below wC.heap.size wC (wC.alloc (.cells #[.int .i64 (x : Nat), .int .i64 (y : Nat)] 3)).drew := (bl_alloc _ _).drew; refine hK _ _ (fun _ => ⟨keep_cell bW qf, keep_cell bW qe0, keep_cell bW qe1⟩) ?_; clear hK K; refine oneT (i := 10) rfl (by kernel_rfl) (fun K hK => ?_); refine step_append_row rfl (.tmp 97) (.tmp 102) 25 rfl 3 (.int .i64 0) 1 8 Tryz.underlying25 int_info rfl (.slice none 0 0) 0 [] (by simp [Act.eval]) (own_nil _ _ _) ⟨wC.heap.size, 0, none⟩ 2 2 [.int .i64 (x : Nat), .int .i64 (y : Nat)] (by simp [Act.eval]) rfl (newsA _ #[.int .i64 (x : Nat), .int .i64 (y : Nat)] _) (by simp [Value.oneCell']) (by omega) (by unfold maxLen; omega) (by omega) ?_; intro g' cap' w2 hrow2 hcap2 hgr2 hor2; have r0 := grown_cell hgr2 (keep_cell bW qf) (by simp [Value.ownBlock]); have r1 := grown_cell hgr2 (keep_cell bW qe0) (by simp [Value.ownBlock]); have r2 := grown_cell hgr2 (keep_cell bW qe1) (by simp [Value.ownBlock]); have t2 := (qt.below bW).grown hgr2 (by simp [Value.ownBlock]); have r3 := t2.fz 2; have g2 : wC.heap.size < g' := by
        rcases hor2 with e | e
        · simp [Value.ownBlock] at e
        · simp at e; omega
       refine hK _ _ (fun _ => ⟨r0, r1, r2⟩) ?_; clear hK K; refine oneT (i := 11) rfl (by kernel_rfl) (fun K hK => ?_); go_simp; refine hK _ _ (fun h => absurd h (by omega)) ?_; clear hK K; refine oneT (i := 12) rfl (by kernel_rfl) (fun K hK => ?_); go_simp; refine hK _ _ (fun h => absurd h (by omega)) ?_; clear hK K; refine oneT (i := 13) rfl (by kernel_rfl) (fun K hK => ?_); go_simp; refine hK _ _ (fun h => absurd h (by omega)) ?_; clear hK K; refine doneT (by kernel_rfl) ?_ _; have t3 := t2.set 2 (.slice (some ⟨g', 0, none⟩) 2 cap'); have row3 := hrow2.other (a := ⟨bk, 2, none⟩) (by simp only; omega) (.slice (some ⟨g', 0, none⟩) 2 cap'); have b3 : RowKit.Below wo.heap.size wo (w2.setCell ⟨bk, 2, none⟩ (.slice (some ⟨g', 0, none⟩) 2 cap')) := ((bS.trans (bW.mono (by have := bS.size; omega))).grown hgr2 (by have := bS.size; have := bW.size; omega) (by simp [Value.ownBlock])).setCell (by simp only; have := Hbk.out; omega) _; have rowL := ((HrowC.out.below bW HrowC.out.lt).grown hgr2 (by simp [Value.ownBlock])).other (a := ⟨bk, 2, none⟩) (by have := Hglb.out; simp only; omega) (.slice (some ⟨g', 0, none⟩) 2 cap'); have hglg : gl < g' := by have := HrowC.out.lt; omega
       have Ht3 := Lib.hid t3; have Hrow3 := Lib.hid row3; have Hb3' := Lib.hid b3; have HrowL := Lib.hid rowL; have Hglg := Lib.hid hglg; have Hcap := Lib.hid hcap2; clear t3 row3 b3 rowL hglg hcap2 r0 r1 r2 r3 t2 g2 hrow2 hgr2 hor2 bW hS qf qt qe0 qe1 bS hbl qe0C qe1C; go_wp2_with fail; go_roundg (gk - 1)
       case measure => have := Hj.out; omega
       case rel => exact ⟨j + 1, by have := Hj.out; omega, by go_num, fun h => absurd h (by omega), fun _ => ⟨gl, cl, g', cap', Ht3.out, HrowL.out, Hrow3.out, Hglb.out, Hglg.out, Hcap.out, Hb3'.out⟩⟩
      ·
       obtain ⟨gl, cl, gv, cv, tD, rl, rv, g1, g2, hcv, bD⟩ := hj1 (by omega); have i2 : ¬ (j : Int) < 1 := by omega
       have hxyi : (x : Int) < (y : Int) := by have := Hxy.out; omega
       have hso := sort_rowU gv cv [(x : Int), (y : Int)] wr rv (by simp); rw [sort2 hxyi] at hso; have cc2 := tD.at_ 2 _ rfl; have Hso := Lib.hid hso; have HtD := Lib.hid tD; have Hrl := Lib.hid rl; have Hg1 := Lib.hid g1; have Hg2 := Lib.hid g2; have Hcv := Lib.hid hcv; have HbD := Lib.hid bD; have Hxyi := Lib.hid hxyi; clear hso tD rl rv g1 g2 hcv bD hxyi hj hj0 hj1; go_wp2_with fail; refine Hso.out.mono ?_; rintro e w7 ⟨rfl, r7, hg7⟩; have hcp := compact_row gv cv [(x : Int), (y : Int)] w7 r7 (by simp); rw [compact2 Hxyi.out] at hcp; have t7 := HtD.out.grown hg7 (by have := Hg1.out; have := Hg2.out; simp; omega); have c7 := t7.at_ 2 _ rfl; have rl7 := Hrl.out.grown hg7 (fun e => by have := Hg2.out; simp at e; omega); have b7 := HbD.out.grown hg7 (by have := HbD.out.size; omega) (fun k hk => by have := Hg1.out; have := Hg2.out; have := Hbk.out; cases hk; omega); have Hcp := Lib.hid hcp; have Ht7 := Lib.hid t7; have Hrl7 := Lib.hid rl7; have Hb7 := Lib.hid b7; clear hcp t7 rl7 b7 r7 hg7 Hso; go_wp2_with fail; refine Hcp.out.mono ?_; rintro e w8 ⟨rfl, r8, hg8⟩; have t8 := Ht7.out.grown hg8 (by have := Hg1.out; have := Hg2.out; simp; omega); have c8 := t8.at_ 2 _ rfl; have f8 := t8.fz 2; have rl8 := Hrl7.out.grown hg8 (fun e => by have := Hg2.out; simp at e; omega); have b8 := Hb7.out.grown hg8 (by have := Hb7.out.size; omega) (fun k hk => by have := Hg1.out; have := Hg2.out; have := Hbk.out; cases hk; omega); have t9 := t8.set 2 (.slice (some ⟨gv, 0, none⟩) 2 cv); have rl9 := rl8.other (a := ⟨bk, 2, none⟩) (by have := Hg1.out; simp only; omega) (.slice (some ⟨gv, 0, none⟩) 2 cv)
       have rv9 := r8.other (a := ⟨bk, 2, none⟩) (by have := Hg1.out; have := Hg2.out; simp only; omega) (.slice (some ⟨gv, 0, none⟩) 2 cv); have b9 := b8.setCell (p := ⟨bk, 2, none⟩) (by have := Hbk.out; simp only; omega) (.slice (some ⟨gv, 0, none⟩) 2 cv); have Ht9 := Lib.hid t9; have Hrl9 := Lib.hid rl9; have Hrv9 := Lib.hid rv9; have Hb9 := Lib.hid b9; clear t8 rl8 b8 r8 hg8 t9 rl9 rv9 b9 Hcp; go_upto_region 23 with (fail)
       generalize w8.setCell ⟨bk, 2, none⟩ (.slice (some ⟨gv, 0, none⟩) 2 cv) = w9 at *
       have b9 := Hb9.out; have f9 := HF.out.below b9; have hvl := knV_len 115 bo 0 i; have hown := f9.own; rw [hvl] at hown; have hAl := hown.alloc (.cells #[.iface 115 (.pointer (some ⟨bk, 0, none⟩))] 85); have c90 := f9.cell (by rw [HT1l.out]; omega); have tA9 := f9.tc.below (bl_alloc w9 (.cells #[.iface 115 (.pointer (some ⟨bk, 0, none⟩))] 85)); have cA9 := tA9.at_ 0 kv (by rw [List.getElem?_set_self (by rw [HT1l.out]; omega)]); have fA9 := tA9.fz 0; have lA9 := tA9.lt; have ne1 := f9.ne; have ne2 : some T ≠ kv.ownBlock := fun e => ne1 e.symm; have hin : i ≤ 1000 := by have := Hm.out; have := Hht.out.len; omega
       have qn := newsA w9 #[.iface 115 (.pointer (some ⟨bk, 0, none⟩))] 85; have HAl9 := Lib.hid hAl; have HF9 := Lib.hid f9; have HcA9 := Lib.hid cA9; have HfA9 := Lib.hid fA9; have HlA9 := Lib.hid lA9; have Hvl9 := Lib.hid hvl; have Hqn := Lib.hid qn; clear b9 f9 hvl hown hAl tA9 cA9 fA9 lA9 qn cc2 c7 c8 f8; go_wp2_with (at_builtin; (refine wpList_append_row _ rfl (.tmp 124) (.tmp 127) 86 rfl 85 .nilIface 1 16 Tryz.underlying86 knot_info rfl kv i _ rfl HAl9.out ⟨w9.heap.size, 0, none⟩ 1 1 [.iface 115 (.pointer (some ⟨bk, 0, none⟩))] rfl rfl Hqn.out (by simp [Value.oneCell']) (by omega) (by unfold maxLen; omega) (by omega) ?_; intro g4 c4 w4 hr4 hc4 hg4 ho4; have z6 := hg4.cell HcA9.out ne2; have zf := grown_frozen (b := T) (o := 0) hg4 HlA9.out HfA9.out ne1; have Hr4 := Lib.hid hr4; have Hg4 := Lib.hid hg4; have Ho4 := Lib.hid ho4; clear hr4 hg4 ho4)); have hps := HF9.out.push (bl_alloc _ _) Hg4.out Ho4.out Hr4.out; rw [Hvl9.out] at hps; have hSt : StepX (fun a => a.block = T) wo kv.ownBlock _ _ := (StepX.ofBelow Hb9.out _).trans hps.2; have hBn := HBl.out.keep (by have := Hord1.out; omega) hSt Hw1.out; have hkl : ∀ g, kv.ownBlock = some g → g < wo.heap.size := fun g hg => Own.lt HF.out.own hg; have hnew : BlkW w9 bk i x y (fun g => wo.heap.size ≤ g ∧ kv.ownBlock ≠ some g) := by
        have a1 := Hbk.out; have a2 := Hg1.out; have a3 := Hg2.out; have key : ∀ g, wo.heap.size ≤ g → wo.heap.size ≤ g ∧ kv.ownBlock ≠ some g := fun g hg => ⟨hg, fun e => by have := hkl g e; omega⟩
        exact ⟨⟨gl, cl, gv, cv, Ht9.out, Hrl9.out, Hrv9.out, key gl (by omega), key gv (by omega)⟩, key bk (by omega)⟩
       go_roundg (gq - 1)
       case measure => have := Hi.out; omega
       case rel =>
        refine ⟨i + 1, .slice (some ⟨g4, 0, none⟩) (i + 1) c4, fun j => if j = i then bk else bo j, by have := Hi.out; omega, by go_num, ?_, HS.out.trans hSt, ?_, ?_⟩
        ·
         have e1 : knV 115 (fun j => if j = i then bk else bo j) 0 (i + 1) = knV 115 bo 0 i ++ [.iface 115 (.pointer (some ⟨bk, 0, none⟩))] := by
          rw [knV_succ]; congr 1
          · exact knV_congr fun j hj => by rw [if_neg (by omega)]
          · simp
         rw [e1]; exact hps.1
        ·
         intro j hj; by_cases e : j = i
         ·
          subst e; simp only [if_true]; have hk2 := hnew.keep hps.2.1 (Q := fun g => v1.heap.size ≤ g ∧ some g4 ≠ some g) fun g hg hp => ⟨fun o hx => ?_, by have := Hw1.out; omega, fun e => ?_⟩
          ·
           rw [Hexg.out]; exact hk2
          ·
           rcases hx with e | e
           · have := HT.out; simp only at e; omega
           · exact hp.2 e.symm
          ·
           have e2 : g4 = g := by injection e
           rcases Ho4.out with h | h
           · exact hp.2 (e2 ▸ h)
           · simp at h; omega
         ·
          simp only [if_neg e]; exact hBn.each j (by omega)
        ·
         intro j l hj hl hjl; have hlt : ∀ j, j < i → bo j < wo.heap.size := fun j hj => (HBl.out.each j hj).lt; have hb2 := Hbk.out; by_cases e : j = i <;> by_cases e2 : l = i
         · omega
         ·
          simp only [if_pos e, if_neg e2] at hjl; have := hlt l (by omega); omega
         ·
          simp only [if_neg e, if_pos e2] at hjl; have := hlt j (by omega); omega
         ·
          simp only [if_neg e, if_neg e2] at hjl; exact HBl.out.inj j l (by omega) (by omega) hjl
    ·
     obtain rfl : m = i := by omega
     obtain ⟨o1, o3, o4, o5, o6⟩ := Hord1.out; have hbw3 : RowKit.Below (w.heap.size + 1) w0 wr := HbW.out.trans (hS.toBelow (by omega) (fun p hp => by omega) fun g hg => by cases hg); have hown := hF.own; rw [knV_len] at hown; obtain ⟨gk0, ck, rfl, hck⟩ : ∃ gk0 ck, kv = .slice (some ⟨gk0, 0, none⟩) m ck ∧ m ≤ ck := by
      rcases hown.2 with ⟨_, h0⟩ | ⟨g, cap, h1, h2, h3⟩
      · omega
      · exact ⟨g, cap, h1, h2⟩
     have hgk : v1.heap.size ≤ gk0 := by
      rcases hS.2 with e | e
      · cases e
      · exact e gk0 rfl
     have nX : ∀ g, g ≠ T → ∀ o, ¬ ((⟨g, o, none⟩ : Addr).block = T ∨ some (⟨g, o, none⟩ : Addr).block = none) := fun g hg o hx => by
      rcases hx with e | e
      · exact hg e
      · cases e
     have mz3 : MZ wr mb 0 (fun _ => none) := Hmz1.out.block (hS.1.obj mb (by omega) (nX mb (by omega))); have gp3 := hS.1.row Hgp1.out (by omega) (nX gp (by omega)); have gs3 := hS.1.row Hrs.out (by omega) (nX gs (by omega)); have e30 := keep_cell (hbw3.mono (by rw [Hsz0.out]; exact Nat.le_refl _)) Hz0.out; have e31 := keep_cell (hbw3.mono (by rw [Hsz0.out]; exact Nat.le_refl _)) Hz1.out; have e32 := keep_cell (hbw3.mono (by rw [Hsz0.out]; exact Nat.le_refl _)) Hz2.out; have hs13 := hS.1.size; have hord3 : w.heap.size < mb ∧ gp = mb + 1 ∧ T = gp + 1 ∧ T < gs ∧ gs < v1.heap.size ∧ v1.heap.size ≤ gk0 ∧ v1.heap.size ≤ wr.heap.size ∧ gk0 < wr.heap.size := ⟨o1, o3, o4, o5, o6, hgk, hs13, Own.lt hown rfl⟩
     have Hbw3 := Lib.hid hbw3; have HF3 := Lib.hid hF; have Hmz3 := Lib.hid mz3; have Hgp3 := Lib.hid gp3; have Hgs3 := Lib.hid gs3; have He30 := Lib.hid e30; have He31 := Lib.hid e31; have He32 := Lib.hid e32; have HBl3 := Lib.hid hBl; have Hord3 := Lib.hid hord3; clear hbw3 hF mz3 gp3 gs3 hBl hord3 hown hck hgk hs13 hS hi o1 o3 o4 o5 o6 nX e30 e31 e32 Hrs Hmz1 Hgp1 HbW Htc1 He0 He1 He2 e0; obtain ⟨v3, hv3⟩ : ∃ v3 : World, v3 = wr := ⟨_, rfl⟩
     rw [← hv3] at Hbw3 HF3 Hmz3 Hgp3 Hgs3 He30 He31 He32 HBl3 Hord3 ⊢; clear hv3; have e31 := He31.out; go_wp2_with fail; go_loopg [135] nc (fun r iv wj => ∃ (j : Nat) (kv : Value) (bc : Nat → Nat) (c : Nat), j + r = nc ∧ iv = .int .i64 (j : Nat) ∧ Fld T 0 85 T1 (knV 115 bo 0 m ++ knV 121 bc m j) kv wj ∧ StepX (fun a => a.block = T ∨ a.block = mb) v3 (some gk0) wj kv.ownBlock ∧ MZ wj mb c (cutF cuts m j) ∧ c ≤ j ∧ CutsW v3 cuts m bc j kv.ownBlock wj)
     case atStart => exact ⟨0, .slice (some ⟨gk0, 0, none⟩) m ck, fun _ => 0, 0, by omega, rfl, by simpa [knV] using HF3.out, StepX.refl _ _ _, by rw [cutF_zero]; exact Hmz3.out, by omega, fun i hi => by omega⟩
     case round =>
      obtain ⟨j, kv, bc, c, hj, rfl, hF, hS, hM, hcj, hCw⟩ := hrel; by_cases hjn : j < nc
      ·
       obtain ⟨o1, o2, o3, o4, o5, o6, o7, o8⟩ := Hord3.out; have hX3 : ∀ p : Addr, (p.block = T ∨ p.block = mb) → w.heap.size + 1 ≤ p.block ∧ p.block < v3.heap.size := fun p hp => by omega
       have hbw : RowKit.Below (w.heap.size + 1) w0 wr := Hbw3.out.trans (hS.toBelow (by omega) (fun p hp => (hX3 p hp).1) fun g hg => by cases hg; omega); have hbW : RowKit.Below w.heap.size w wr := Hb0.out.trans (hbw.mono (by omega)); have hjc : j < cuts.length := by rw [← Hnc.out]; exact hjn
       obtain ⟨b2, o2', rfl, hx⟩ := HC.out.below hbW j (vN cuts[j]) (by rw [List.getElem?_map, List.getElem?_eq_getElem hjc]; rfl); have hcv : cuts[j]? = some cuts[j] := List.getElem?_eq_getElem hjc; have hcn : cuts[j] < n := Hhc.out.lt _ (List.getElem_mem _); obtain ⟨v, hv⟩ : ∃ v, v = cuts[j] := ⟨_, rfl⟩
       rw [← hv] at hx hcv hcn; have e0 := keep_cell (hbw.mono (by rw [Hsz0.out]; exact Nat.le_refl _)) Hz0.out; have hwsz : w.heap.size < wr.heap.size := World.block_lt_of_cell? wr _ e0; have hmn : m ≤ 1000 := by rw [Hm.out]; have := Hht.out.len; omega
       have hncn : nc ≤ n := by
        rw [Hnc.out]; have := nodup_len_le Hhc.out.nd (m := List.range n) fun x hx => List.mem_range.2 (Hhc.out.lt x hx); simpa using this
       have hw1 : IntKind.i64.wrap ((m : Int) + (j : Int)) = (m : Int) + (j : Int) := IntWalk.i64_in _ (by omega); have i1 : (j : Int) < (nc : Int) := by omega
       have i0 : (0 : Int) ≤ (j : Int) := by omega
       have hx2 : wr.cell? ⟨b2, o2' + j, none⟩ = some (.int .i64 (v : Nat)) := hx; have t8 := hF.tc.at_ 8 (.map (some mb)) (by rw [HT1.out, HT0.out]; rfl); have t0 := hF.cell (by rw [HT1l.out]; omega); have hTl := hF.tc.lt; have hmbl := hM.lt; have hcu := cutF_succ Hhc.out.nd (m := m) hcv; have hnew : ∀ g, kv.ownBlock = some g → v1.heap.size ≤ g := fun g hg => by
        rcases hS.2 with e | e
        · rw [hg] at e; cases e; exact o6
        · have := e g hg; omega
       have HF := Lib.hid hF; have HS := Lib.hid hS; have HM := Lib.hid hM; have HCw := Lib.hid hCw; have Hj := Lib.hid hj; have Hcu := Lib.hid hcu; have Hcv := Lib.hid hcv; have Hnew := Lib.hid hnew; have HX3 := Lib.hid hX3; clear hF hS hM hCw hj hcu hcv hnew hX3 hbw hbW hx hv o1 o2 o3 o4 o5 o6 o7 o8; go_wp2_with fail; refine regionT (fun w' => w'.cell? ⟨T, 8, none⟩ = some (.map (some mb)) ∧ w'.cell? ⟨w.heap.size, 0, none⟩ = some (.slice (some ⟨ba, oa, none⟩) m c1)) 10 (by kernel_rfl) ?_; have hS : wr.drew.cell? ⟨T, 8, none⟩ = some (.map (some mb)) ∧ wr.drew.cell? ⟨w.heap.size, 0, none⟩ = some (.slice (some ⟨ba, oa, none⟩) m c1) := ⟨t8, e0⟩
       refine tkT 0 ?_ rfl hS ?_ ?_ (by kernel_rfl) (fun _ _ _ h => h) (by rfl); rotate_left; (· intro wS hSw; (try dsimp only at hSw); go_simp; try with_reducible rfl); simp only [Act.put, zT]; refine tkT 1 ?_ rfl hS ?_ ?_ (by kernel_rfl) (fun _ _ _ h => h) (by rfl); rotate_left; (· intro wS hSw; (try dsimp only at hSw); go_simp; try with_reducible rfl); simp only [Act.put, zT]; refine tkT 2 ?_ rfl hS ?_ ?_ (by kernel_rfl) (fun _ _ _ h => h) (by rfl); rotate_left; (· intro wS hSw; (try dsimp only at hSw); go_simp; try with_reducible rfl); simp only [Act.put, zT]; refine tkT 3 ?_ rfl hS ?_ ?_ (by kernel_rfl) (fun _ _ _ h => h) (by rfl); rotate_left; (· intro wS hSw; (try dsimp only at hSw); go_simp; try with_reducible rfl); simp only [Act.put, zT]; refine tkT 4 ?_ rfl hS ?_ ?_ (by kernel_rfl) (fun _ _ _ h => h) (by rfl); rotate_left; (· intro wS hSw; (try dsimp only at hSw); go_simp; try with_reducible rfl); simp only [Act.put, zT]; refine tkT 5 ?_ rfl hS ?_ ?_ (by kernel_rfl) (fun _ _ _ h => h) (by rfl); rotate_left; (· intro wS hSw; (try dsimp only at hSw); go_simp; try with_reducible rfl); simp only [Act.put, zT]; refine tkT 6 ?_ rfl hS ?_ ?_ (by kernel_rfl) (fun _ _ _ h => h) (by rfl); rotate_left; (· intro wS hSw; (try dsimp only at hSw); go_simp; try with_reducible rfl); simp only [Act.put, zT]; refine tkT 7 ?_ rfl hS ?_ ?_ (by kernel_rfl) (fun _ _ _ h => h) (by rfl); rotate_left; (· intro wS hSw; (try dsimp only at hSw); go_simp; try with_reducible rfl); simp only [Act.put, zT]
       refine tkT 8 ?_ rfl hS ?_ ?_ (by kernel_rfl) (fun _ _ _ h => h) (by rfl); rotate_left; (· intro wS hSw; (try dsimp only at hSw); go_simp; try with_reducible rfl); simp only [Act.put, zT]; refine tkT 9 ?_ rfl hS ?_ ?_ (by kernel_rfl) (fun _ _ _ h => h) (by rfl); rotate_left; (· intro wS hSw; (try dsimp only at hSw); go_simp; try with_reducible rfl); simp only [Act.put, zT]; refine oneT (i := 10) rfl (by kernel_rfl) (fun K hK => ?_); refine step_put_MZ rfl _ _ _ rfl (show MZ wr.drew mb c (cutF cuts m j) from HM.out) (k := (v : Nat)) (v := (m : Int) + (j : Int)) (by simp [Act.eval]) (by simp [Act.eval]) (by simp [Act.eval]) (wfZ_of (by omega)) (wfZ_of (by omega)) (by omega) ?_; intro w6 hm6 hg6; refine hK _ _ (fun h => absurd h (by omega)) ?_; clear hK K hS; simp only [Act.put]; refine doneT (by kernel_rfl) ?_ _; obtain ⟨o1, o2, o3, o4, o5, o6, o7, o8⟩ := Hord3.out; have hneo : ∀ g, kv.ownBlock = some g → some mb ≠ some g := fun g hg e => by have := Hnew.out g hg; cases e; omega
       have F6 : Fld T 0 85 T1 _ kv w6 := Fld.grown ⟨HF.out.tc.drew, HF.out.own.drew, HF.out.ne⟩ hg6 (by simp; omega) hneo; have S6 : StepX (fun a => a.block = T ∨ a.block = mb) wr kv.ownBlock w6 kv.ownBlock := ⟨(BelX.refl _ _ wr).drew.grown hg6 (by simp) fun k hk => .inr fun o s => by cases hk; exact .inl (.inr rfl), .inl rfl⟩
       have C6 := HCw.out.keep (fun p hp => (HX3.out p hp).2) S6; have e06 := grown_cell hg6 (show wr.drew.cell? ⟨w.heap.size, 0, none⟩ = _ from e0) (by simp; omega); have t06 := F6.cell (by rw [HT1l.out]; omega); have hvl : (knV 115 bo 0 m ++ knV 121 bc m j).length = m + j := by simp [knV_len]
       have hsz6 : wr.heap.size ≤ w6.heap.size := by have := hg6.size; simpa using this
       have hne1 := F6.ne; have HF6 := Lib.hid F6; have HS6 := Lib.hid S6; have HC6 := Lib.hid C6; have Hm6 := Lib.hid hm6; have Hvl := Lib.hid hvl; have Hneo := Lib.hid hneo; clear F6 S6 C6 hm6 hg6 hvl hneo t8 t0 e0 o1 o2 o3 o4 o5 o6 o7 o8 HM HCw; go_wp2_with fail; have hcast : (m : Int) + (j : Int) = ((m + j : Nat) : Int) := by omega
       refine regionT (fun w' => w'.cell? ⟨T, 0, none⟩ = some kv ∧ w'.cell? ⟨w.heap.size, 0, none⟩ = some (.slice (some ⟨ba, oa, none⟩) m c1)) 16 (by kernel_rfl) ?_; have hS : w6.drew.cell? ⟨T, 0, none⟩ = some kv ∧ w6.drew.cell? ⟨w.heap.size, 0, none⟩ = some (.slice (some ⟨ba, oa, none⟩) m c1) := ⟨t06, e06⟩
       clear hcast; refine tkT 0 ?_ rfl hS ?_ ?_ (by kernel_rfl) (fun _ _ _ h => h) (by rfl); rotate_left; (· intro wS hSw; (try dsimp only at hSw); go_simp; try with_reducible rfl); simp only [Act.put, zT]; refine tkT 1 ?_ rfl hS ?_ ?_ (by kernel_rfl) (fun _ _ _ h => h) (by rfl); rotate_left; (· intro wS hSw; (try dsimp only at hSw); go_simp; try with_reducible rfl); simp only [Act.put, zT]; refine tkT 2 ?_ rfl hS ?_ ?_ (by kernel_rfl) (fun _ _ _ h => h) (by rfl); rotate_left; (· intro wS hSw; (try dsimp only at hSw); go_simp; try with_reducible rfl); simp only [Act.put, zT]; refine tkT 3 ?_ rfl hS ?_ ?_ (by kernel_rfl) (fun _ _ _ h => h) (by rfl); rotate_left; (· intro wS hSw; (try dsimp only at hSw); go_simp; try with_reducible rfl); simp only [Act.put, zT]; refine tkT 4 ?_ rfl hS ?_ ?_ (by kernel_rfl) (fun _ _ _ h => h) (by rfl); rotate_left; (· intro wS hSw; (try dsimp only at hSw); go_simp; try with_reducible rfl); simp only [Act.put, zT]; refine tkT 5 ?_ rfl hS ?_ ?_ (by kernel_rfl) (fun _ _ _ h => h) (by rfl); rotate_left; (· intro wS hSw; (try dsimp only at hSw); go_simp; try with_reducible rfl); simp only [Act.put, zT]; refine tkT 6 ?_ rfl hS ?_ ?_ (by kernel_rfl) (fun _ _ _ h => h) (by rfl); rotate_left; (· intro wS hSw; (try dsimp only at hSw); go_simp; try with_reducible rfl); simp only [Act.put, zT]; refine tkT 7 ?_ rfl hS ?_ ?_ (by kernel_rfl) (fun _ _ _ h => h) (by rfl); rotate_left; (· intro wS hSw; (try dsimp only at hSw); go_simp; try with_reducible rfl); simp only [Act.put, zT]
       refine tkT 8 ?_ rfl hS ?_ ?_ (by kernel_rfl) (fun _ _ _ h => h) (by rfl); rotate_left; (· intro wS hSw; (try dsimp only at hSw); go_simp; try with_reducible rfl); simp only [Act.put, zT]; refine tkT 9 ?_ rfl hS ?_ ?_ (by kernel_rfl) (fun _ _ _ h => h) (by rfl); rotate_left; (· intro wS hSw; (try dsimp only at hSw); go_simp; try with_reducible rfl); simp only [Act.put, zT]; refine tkT 10 ?_ rfl hS ?_ ?_ (by kernel_rfl) (fun _ _ _ h => h) (by rfl); rotate_left; (· intro wS hSw; (try dsimp only at hSw); go_simp; try with_reducible rfl); simp only [Act.put, zT]; refine tkT 11 ?_ rfl hS ?_ ?_ (by kernel_rfl) (fun _ _ _ h => h) (by rfl); rotate_left; (· intro wS hSw; (try dsimp only at hSw); go_simp; try with_reducible rfl); simp only [Act.put, zT]; refine oneT (i := 12) rfl (by kernel_rfl) (fun K hK => ?_); go_simp; have bW1 : RowKit.Below w6.heap.size w6 (w6.alloc (.cells #[.int .i64 ((m : Int) + (j : Int)), .int .i64 (v : Nat)] 123)).drew := (bl_alloc _ _).drew; refine hK _ _ (fun _ => ⟨keep_cell bW1 t06, keep_cell bW1 e06⟩) ?_; clear hK K hS; have tz := (TC.made w6 #[.int .i64 ((m : Int) + (j : Int)), .int .i64 (v : Nat)] 123).drew; have hS : (w6.alloc (.cells #[.int .i64 ((m : Int) + (j : Int)), .int .i64 (v : Nat)] 123)).drew.cell? ⟨T, 0, none⟩ = some kv ∧ (w6.alloc (.cells #[.int .i64 ((m : Int) + (j : Int)), .int .i64 (v : Nat)] 123)).drew.cell? ⟨w.heap.size, 0, none⟩ = some (.slice (some ⟨ba, oa, none⟩) m c1) := ⟨keep_cell bW1 t06, keep_cell bW1 e06⟩
       have hszz : (w6.alloc (.cells #[.int .i64 ((m : Int) + (j : Int)), .int .i64 (v : Nat)] 123)).drew.heap.size = w6.heap.size + 1 := by simp
       show anyT _ _ _ _ _ _ _ _ _ (w6.alloc (.cells #[.int .i64 ((m : Int) + (j : Int)), .int .i64 (v : Nat)] 123)).drew; generalize (w6.alloc (.cells #[.int .i64 ((m : Int) + (j : Int)), .int .i64 (v : Nat)] 123)).drew = wz at *
       have Fz := HF6.out.below bW1; have ownz := Fz.own; rw [Hvl.out] at ownz; refine tkT 13 ?_ rfl hS ?_ ?_ (by kernel_rfl) (fun _ _ _ h => h) (by rfl); rotate_left; (· intro wS hSw; (try dsimp only at hSw); go_simp; try with_reducible rfl); simp only [Act.put, zT]; refine oneT (i := 14) rfl (by kernel_rfl) (fun K hK => ?_); go_simp; have bW2 : RowKit.Below wz.heap.size wz (wz.alloc (.cells #[.iface 121 (.pointer (some ⟨w6.heap.size, 0, none⟩))] 85)) := bl_alloc _ _; refine hK _ _ (fun _ => ⟨keep_cell bW2 hS.1, keep_cell bW2 hS.2⟩) ?_; clear hK K; have tAz := Fz.tc.below bW2; have fAz := tAz.fz 0; have lAz := tAz.lt; refine oneT (i := 15) rfl (by kernel_rfl) (fun K hK => ?_); refine step_append_row rfl (.tmp 154) (.tmp 164) 86 rfl 85 .nilIface 1 16 Tryz.underlying86 knot_info rfl kv (m + j) _ (by simp [Act.eval]) (ownz.alloc _) ⟨wz.heap.size, 0, none⟩ 1 1 [.iface 121 (.pointer (some ⟨w6.heap.size, 0, none⟩))] (by simp [Act.eval]) rfl (newsA wz #[.iface 121 (.pointer (some ⟨w6.heap.size, 0, none⟩))] _) (by simp [Value.oneCell']) (by omega) (by unfold maxLen; omega) (by omega) ?_; intro g4 c4 w7 hr7 hc7 hg7 ho7; have hneW : kv.ownBlock ≠ some w.heap.size := fun e => by have := Hnew.out _ e; have := Hord3.out; omega
       have r0 := grown_cell hg7 (keep_cell bW2 hS.1) hne1; have r1 := grown_cell hg7 (keep_cell bW2 hS.2) hneW; have rf := grown_frozen hg7 lAz fAz hne1; refine hK _ _ (fun _ => ⟨r0, r1⟩) ?_; clear hK K; refine oneT (i := 16) rfl (by kernel_rfl) (fun K hK => ?_); go_simp; refine hK _ _ (fun h => absurd h (by omega)) ?_; clear hK K; refine oneT (i := 17) rfl (by kernel_rfl) (fun K hK => ?_); go_simp; refine hK _ _ (fun h => absurd h (by omega)) ?_; clear hK K; refine oneT (i := 18) rfl (by kernel_rfl) (fun K hK => ?_); go_simp; refine hK _ _ (fun h => absurd h (by omega)) ?_; clear hK K; refine doneT (by kernel_rfl) ?_ _; have hps := Fz.push bW2 hg7 ho7 hr7; rw [Hvl.out] at hps; have hkl : ∀ g, kv.ownBlock = some g → g < wr.heap.size := fun g hg => Own.lt HF.out.own hg; have Hps := Lib.hid hps; have Htz := Lib.hid tz; have Hbw1 := Lib.hid bW1; have Hszz := Lib.hid hszz; have Hkl := Lib.hid hkl; have Hho7 := Lib.hid ho7; clear hps tz bW1 hszz hkl ho7 hr7 hg7 r0 r1 rf tAz fAz lAz bW2 hS Fz ownz hneW; go_wp2_with fail; have hcast : (m : Int) + (j : Int) = ((m + j : Nat) : Int) := by omega
       have hcnt : (if (cutF cuts m j (v : Nat)).isSome then c else c + 1) ≤ j + 1 := by split <;> omega
       have hw67 : StepX (fun a => a.block = T ∨ a.block = mb) w6 kv.ownBlock _ _ := (StepX.ofBelow Hbw1.out _).trans ⟨Hps.out.2.1.mono (fun p hp => hp.elim (fun e => .inl (.inl e)) .inr) (Nat.le_refl _), Hps.out.2.2⟩
       have hmz := (Hm6.out.below Hbw1.out).block (Hps.out.2.1.obj mb (Hm6.out.below Hbw1.out).lt fun o hx => by
        rcases hx with e | e
        · have := Hord3.out; simp only at e; omega
        · exact Hneo.out mb e.symm rfl)
       go_roundg (gk - 1)
       case measure => have := Hj.out; omega
       case rel =>
        refine ⟨j + 1, .slice (some ⟨g4, 0, none⟩) (m + j + 1) c4, fun q => if q = m + j then w6.heap.size else bc q, _, by have := Hj.out; omega, by go_num, ?_, (HS.out.trans HS6.out).trans hw67, ?_, hcnt, ?_⟩
        ·
         have e1 : knV 121 (fun q => if q = m + j then w6.heap.size else bc q) m (j + 1) = knV 121 bc m j ++ [.iface 121 (.pointer (some ⟨w6.heap.size, 0, none⟩))] := by
          rw [knV_succ]; congr 1
          · exact knV_congr fun i hi => by rw [if_neg (by omega)]
          · simp
         rw [e1, ← List.append_assoc]; exact Hps.out.1
        ·
         rw [← Hcu.out, ← hcast]; exact hmz
        ·
         intro i hi; have hv3 := HS.out.1.size; by_cases e : i = j
         ·
          subst e; simp only [if_true]; have hg : cuts.getD i 0 = v := by rw [List.getD_eq_getElem?_getD, Hcv.out]; rfl
          refine ⟨?_, by omega, fun e2 => ?_⟩
          ·
           have := Htz.out.bel Hps.out.2.1 Htz.out.lt fun o hx => by
            rcases hx with e | e
            · simp only at e; omega
            · have := Hkl.out _ e.symm; simp only at this; omega
           rw [hg, ← hcast]; exact this
          ·
           have e3 : g4 = w6.heap.size := by injection e2
           have hz := Hszz.out; rcases Hho7.out with h | h
           · have := Hkl.out _ h; omega
           · simp at h; omega
         ·
          simp only [if_neg (show ¬ m + i = m + j by omega)]; exact (HC6.out.keep (fun p hp => (HX3.out p hp).2) hw67) i (by omega)
      ·
       obtain rfl : nc = j := by omega
       obtain ⟨o1, o2, o3, o4, o5, o6, o7, o8⟩ := Hord3.out; have hX3 : ∀ p : Addr, (p.block = T ∨ p.block = mb) → w.heap.size + 1 ≤ p.block ∧ p.block < v1.heap.size := fun p hp => by omega
       have hbw4 : RowKit.Below (w.heap.size + 1) w0 wr := Hbw3.out.trans (hS.toBelow (by omega) (fun p hp => (hX3 p hp).1) fun g hg => by cases hg; omega); have hvl : (knV 115 bo 0 m ++ knV 121 bc m nc).length = m + nc := by simp [knV_len]
       have hown := hF.own; rw [hvl] at hown; obtain ⟨gk1, ck1, rfl, hck, hrk⟩ : ∃ gk1 ck1, kv = .slice (some ⟨gk1, 0, none⟩) (m + nc) ck1 ∧ m + nc ≤ ck1 ∧ Row wr gk1 85 1 ck1 (knV 115 bo 0 m ++ knV 121 bc m nc) := by
        rcases hown.2 with ⟨_, h0⟩ | ⟨g, cap, h1, h2, h3⟩
        · omega
        · exact ⟨g, cap, h1, h2, h3⟩
       have hgk : v1.heap.size ≤ gk1 := by
        rcases hS.2 with e | e
        · cases e; omega
        · have := e gk1 rfl; omega
       have nX : ∀ g, g ≠ T → g ≠ mb → g ≠ gk0 → ∀ o, ¬ (((⟨g, o, none⟩ : Addr).block = T ∨ (⟨g, o, none⟩ : Addr).block = mb) ∨ some (⟨g, o, none⟩ : Addr).block = some gk0) := fun g h1 h2 h3 o hx => by
        rcases hx with (e | e) | e
        · exact h1 e
        · exact h2 e
        · exact h3 (by injection e)
       have gp4 := hS.1.row Hgp3.out (by omega) (nX gp (by omega) (by omega) (by omega)); have gs4 := hS.1.row Hgs3.out (by omega) (nX gs (by omega) (by omega) (by omega)); have bl4 := HBl3.out.keepX (fun p hp => (hX3 p hp).2) hS o7; have e40 := keep_cell (hbw4.mono (by rw [Hsz0.out]; exact Nat.le_refl _)) Hz0.out; have e42 := keep_cell (hbw4.mono (by rw [Hsz0.out]; exact Nat.le_refl _)) Hz2.out; have hs34 := hS.1.size; have hord4 : w.heap.size < mb ∧ gp = mb + 1 ∧ T = gp + 1 ∧ T < gs ∧ gs < v1.heap.size ∧ v1.heap.size ≤ gk1 ∧ v1.heap.size ≤ v3.heap.size ∧ v3.heap.size ≤ wr.heap.size ∧ gk1 < wr.heap.size := ⟨o1, o2, o3, o4, o5, hgk, o7, hs34, hrk.lt⟩
       obtain ⟨T2, hT2⟩ : ∃ T2, T2 = T1.set 0 (.slice (some ⟨gk1, 0, none⟩) (m + nc) ck1) := ⟨_, rfl⟩
       have tc4 : TC wr T T2 := by rw [hT2]; exact hF.tc
       have t40 := hF.cell (by rw [HT1l.out]; omega); have hmn : m ≤ 200 := by rw [Hm.out]; have := Hht.out.len; omega
       have hncn : nc ≤ n := by
        rw [Hnc.out]; have := nodup_len_le Hhc.out.nd (m := List.range n) fun x hx => List.mem_range.2 (Hhc.out.lt x hx); simpa using this
       have Hbw4 := Lib.hid hbw4; have Hrk := Lib.hid hrk; have Hmz4 := Lib.hid hM; have Hgp4 := Lib.hid gp4; have Hgs4 := Lib.hid gs4; have Hbl4 := Lib.hid bl4; have He40 := Lib.hid e40; have He42 := Lib.hid e42; have Hord4 := Lib.hid hord4; have HT2 := Lib.hid hT2; have Htc4 := Lib.hid tc4; have Hcw4 := Lib.hid hCw; clear hbw4 hrk hM gp4 gs4 bl4 e40 e42 hord4 hT2 tc4 hCw hF hS hown hvl hck hgk hs34 hj hcj o1 o2 o3 o4 o5 o6 o7 o8 nX hX3 HF3 Hmz3 Hgp3 Hgs3 He30 He31 He32 HBl3 Hbw3 e31; obtain ⟨v4, hv4⟩ : ∃ v4 : World, v4 = wr := ⟨_, rfl⟩
       rw [← hv4] at Hbw4 Hrk Hmz4 Hgp4 Hgs4 Hbl4 He40 He42 Hord4 Htc4 Hcw4 t40 ⊢; clear hv4; have hm1 := fun w => run_make_row' (P := Tryz.prog) 59 25 (.slice none 0 0) 24 Tryz.underlying59 ints_info3 rfl .i64 .i64 (m + nc) (by omega) (by omega) w; have hm2 := fun w => run_make_row' (P := Tryz.prog) 25 3 (.int .i64 0) 8 Tryz.underlying25 int_info rfl .i64 .i64 (m + nc) (by omega) (by omega) w; go_wp2_with fail; obtain ⟨N, hN⟩ : ∃ N, N = m + nc := ⟨_, rfl⟩
       have HN := Lib.hid hN; clear hN; go_cut [193] from 174 to 193 (fun _ wx => MadeW v4 T T2 N wx)
       case first =>
        have hT2l : T2.length = 11 := by rw [HT2.out, List.length_set]; exact HT1l.out
        rw [← HN.out] at hm1 hm2; have hNi : (m : Int) + (nc : Int) = (N : Int) := by have := HN.out; omega
        refine regionT (fun _ => True) 24 (by kernel_rfl) ?_; have hS : True := trivial; refine tkT 0 ?_ rfl hS ?_ ?_ (by kernel_rfl) (fun _ _ _ h => h) (by rfl); rotate_left; (· intro wS hSw; (try dsimp only at hSw); go_simp; try with_reducible rfl); simp only [Act.put, zT]; refine tkT 1 ?_ rfl hS ?_ ?_ (by kernel_rfl) (fun _ _ _ h => h) (by rfl); rotate_left; (· intro wS hSw; (try dsimp only at hSw); go_simp; try with_reducible rfl); simp only [Act.put, zT]; refine tkT 2 ?_ rfl hS ?_ ?_ (by kernel_rfl) (fun _ _ _ h => h) (by rfl); rotate_left; (· intro wS hSw; (try dsimp only at hSw); go_simp; try with_reducible rfl); simp only [Act.put, zT]; refine tkT 3 ?_ rfl hS ?_ ?_ (by kernel_rfl) (fun _ _ _ h => h) (by rfl); rotate_left; (· intro wS hSw; (try dsimp only at hSw); go_simp; try with_reducible rfl); simp only [Act.put, zT]; refine tkT 4 ?_ rfl hS ?_ ?_ (by kernel_rfl) (fun _ _ _ h => h) (by rfl); rotate_left; (· intro wS hSw; (try dsimp only at hSw); go_simp; try with_reducible rfl); simp only [Act.put, zT]; refine tkT 6 ?_ rfl hS ?_ ?_ (by kernel_rfl) (fun _ _ _ h => h) (by rfl); rotate_left; (· intro wS hSw; (try dsimp only at hSw); go_simp; try with_reducible rfl); simp only [Act.put, zT]; refine tkT 8 ?_ rfl hS ?_ ?_ (by kernel_rfl) (fun _ _ _ h => h) (by rfl); rotate_left; (· intro wS hSw; (try dsimp only at hSw); go_simp; try with_reducible rfl); simp only [Act.put, zT]; refine tkT 10 ?_ rfl hS ?_ ?_ (by kernel_rfl) (fun _ _ _ h => h) (by rfl); rotate_left; (· intro wS hSw; (try dsimp only at hSw); go_simp; try with_reducible rfl); simp only [Act.put, zT]
        refine anyT_cast (L' := lstM (fun _ => false) 0) (by kernel_rfl) (putsL_self _ (List.range' 174 20)).symm (fourM (zM := zMk) (tyM := tMk) (slT := sMk) (v4 := v4) (T2 := T2) (T := T) (N := N) (st := 90) (fun _ => trivial) (by simp) (by kernel_rfl) hT2l Htc4.out.lt (by have := HN.out; unfold maxLen; omega) ?_ ?_ ?_ ?_ ?_ (fun k hk w => field_run T w k hk) (fun k hk w old g hc hf => store_run T N g k w old hk hc hf) ?_ _ ?_ _ (BelX.refl _ _ _).drew Htc4.out.drew)
        ·
         exact fun k hk => match k, hk with
          | 0, _ => ⟨_, rfl, rfl, rfl, rfl⟩
          | 1, _ => ⟨_, rfl, rfl, rfl, rfl⟩
          | 2, _ => ⟨_, rfl, rfl, rfl, rfl⟩
          | 3, _ => ⟨_, rfl, rfl, rfl, rfl⟩
        ·
         exact fun k hk => match k, hk with
          | 0, _ => ⟨_, rfl, rfl, rfl, rfl⟩
          | 1, _ => ⟨_, rfl, rfl, rfl, rfl⟩
          | 2, _ => ⟨_, rfl, rfl, rfl, rfl⟩
          | 3, _ => ⟨_, rfl, rfl, rfl, rfl⟩
        ·
         exact fun k hk => match k, hk with
          | 0, _ => ⟨_, rfl, rfl, rfl, rfl⟩
          | 1, _ => ⟨_, rfl, rfl, rfl, rfl⟩
          | 2, _ => ⟨_, rfl, rfl, rfl, rfl⟩
          | 3, _ => ⟨_, rfl, rfl, rfl, rfl⟩
        ·
         exact fun k hk => match k, hk with
          | 0, _ => ⟨_, rfl, rfl, rfl, rfl⟩
          | 1, _ => ⟨_, rfl, rfl, rfl, rfl⟩
          | 2, _ => ⟨_, rfl, rfl, rfl, rfl⟩
          | 3, _ => ⟨_, rfl, rfl, rfl, rfl⟩
        ·
         exact fun k hk => match k, hk with
          | 0, _ => hm1
          | 1, _ => hm2
          | 2, _ => hm2
          | 3, _ => hm2
        ·
         intro v g w' hwl; have hmw := madeW_of hwl; have Hmw := Lib.hid hmw; clear hmw hwl; simp only [putsL, List.range', List.foldl_cons, List.foldl_nil, Act.put, List.setIfInBounds_toArray, List.set_cons_zero, List.set_cons_succ]; go_wp2_with fail; go_meet
         exact Hmw.out
        ·
         exact fun k hk => match k, hk with
          | 0, _ => ⟨rfl, rfl⟩
          | 1, _ => ⟨rfl, rfl⟩
          | 2, _ => ⟨rfl, rfl⟩
          | 3, _ => ⟨rfl, rfl⟩
       case rest =>
       obtain ⟨gb, gu, gd, gw, tc5, own5, ⟨ru5, rd5, rw5⟩, hne5, hge5, bx5⟩ := hcut; obtain ⟨v5, hv5⟩ : ∃ v5 : World, v5 = wc := ⟨_, rfl⟩
       rw [← hv5] at tc5 own5 ru5 rd5 rw5 bx5 ⊢; clear hv5; obtain ⟨o1, o2, o3, o4, o5, o6, o7, o8, o9⟩ := Hord4.out; have nT : ∀ g, g ≠ T → ∀ o, ¬ (⟨g, o, none⟩ : Addr).block = T := fun g hg o e => hg e; have st5 : StepX (fun a => a.block = T) v4 (some gk1) v5 (some gk1) := ⟨bx5.mono (fun p hp => .inl hp) (Nat.le_refl _), .inl rfl⟩
       have rk5 := bx5.row Hrk.out (by omega) (nT gk1 (by omega)); have gp5 := bx5.row Hgp4.out (by omega) (nT gp (by omega)); have gs5 := bx5.row Hgs4.out (by omega) (nT gs (by omega)); have mz5 := Hmz4.out.block (bx5.obj mb (by omega) (nT mb (by omega))); have bl5 := Hbl4.out.keepX (fun p hp => by omega) st5 (by omega); have cw5 := Hcw4.out.keep (fun p hp => by omega) st5; have e50 := bx5.keep (by omega) (nT w.heap.size (by omega) 0) He40.out; have e52 := bx5.keep (by omega) (nT w.heap.size (by omega) 2) He42.out; have hbw5 : RowKit.Below (w.heap.size + 1) w0 v5 := Hbw4.out.trans (bx5.toBelow (by omega) fun p hp => by omega); have hs45 := bx5.size; have hgbl := own5.outer.lt
       have t51 := tc5.at_ 1 (.slice (some ⟨gb, 0, none⟩) N N) (by
        have : T2.length = 11 := by rw [HT2.out, List.length_set]; exact HT1l.out
        simp [List.getElem?_set, this])
       obtain ⟨L, hLL⟩ : ∃ L, L = linksN es cuts es.length := ⟨_, rfl⟩
       have hL2 : linksT es cuts es.length = L.map fun p => ((p.1 : Int), (p.2 : Int)) := by rw [hLL]; exact linksT_eq _ _ _
       have hnLL : nL = L.length := by rw [HnL.out, hL2, List.length_map]
       have htt := tree_links Hht.out h2 Hhc.out; rw [← hLL, ← Hm.out, ← Hnc.out] at htt; have hr3 := HL.out; rw [hL2] at hr3; have Hbx45 := Lib.hid bx5; have Htc5 := Lib.hid tc5; have Hru5 := Lib.hid ru5; have Hrd5 := Lib.hid rd5; have Hrw5 := Lib.hid rw5; have Hne5 := Lib.hid hne5; have Hge5 := Lib.hid hge5; have Hrk5 := Lib.hid rk5; have Hgp5 := Lib.hid gp5; have Hgs5 := Lib.hid gs5; have Hmz5 := Lib.hid mz5; have Hbl5 := Lib.hid bl5; have Hcw5 := Lib.hid cw5; have Hbw5 := Lib.hid hbw5; have Hown5 := Lib.hid own5; have HLL := Lib.hid hLL; have HnLL := Lib.hid hnLL; have Htt := Lib.hid htt; have Hr3 := Lib.hid hr3; have He50 := Lib.hid e50; have He52 := Lib.hid e52; have Ht51 := Lib.hid t51; have Hs45 := Lib.hid hs45; have Hgbl := Lib.hid hgbl; clear tc5 ru5 rd5 rw5 hne5 hge5 rk5 gp5 gs5 mz5 bl5 cw5 hbw5 own5 hLL hL2 hnLL htt hr3 bx5 st5 nT o1 o2 o3 o4 o5 o6 o7 o8 o9 hs45 hgbl t51 e50 hm1 hm2; go_wp2_with fail; go_loopg [197] nL (fun r iv wj => ∃ (j : Nat) (vals : List Value), j + r = nL ∧ iv = .int .i64 (j : Nat) ∧ BelX v5.heap.size (fun a => a.block = gb) v5 wj ∧ OwnRows wj gb 25 3 N vals (rowsB m N (L.take j)) ∧ ∀ (z : Nat) u g, vals[z]? = some u → u.ownBlock = some g → v5.heap.size ≤ g)
       case atStart => exact ⟨0, List.replicate N (.slice none 0 0), by omega, rfl, BelX.refl _ _ _, by rw [List.take_zero, rowsB_nil]; exact Hown5.out, fun z u g hu hg => by
        obtain ⟨_, hu⟩ := List.getElem?_eq_some_iff.1 hu
        simp at hu; subst hu; simp [Value.ownBlock] at hg⟩
       case round =>
        obtain ⟨j, vals, hj, rfl, hbx, hrows, hyo⟩ := hrel; by_cases hjn : j < nL
        ·
         obtain ⟨o1, o2, o3, o4, o5, o6, o7, o8, o9⟩ := Hord4.out; obtain ⟨g1, g2, g3, g4⟩ := Hge5.out; have hs45 := Hs45.out; have hbw : RowKit.Below w.heap.size w wr := Hb0.out.trans ((Hbw5.out.mono (by omega)).trans (hbx.toBelow (by omega) fun p hp => by omega)); have hjL : j < L.length := by rw [← HnLL.out]; exact hjn
         obtain ⟨b3, o3', rfl, hx0, hx1⟩ := (Hr3.out.below hbw).at j (by rw [List.length_map]; exact hjL); simp only [List.getElem_map] at hx0 hx1; obtain ⟨x, y, hxy⟩ : ∃ x y, L[j] = (x, y) := ⟨_, _, rfl⟩
         rw [hxy] at hx0 hx1; simp only at hx0 hx1; obtain ⟨hxm, hyc⟩ := Htt.out.lt _ (List.getElem_mem hjL); rw [hxy] at hxm hyc; simp only at hxm hyc; have htk : L.take (j + 1) = L.take j ++ [(x, y)] := by rw [List.take_succ_eq_append_getElem hjL, hxy]
         have hNn := HN.out; have hsn := rowsB_snoc (N := N) (L.take j) hxm (by omega) (show m + y < N by omega); rw [← htk] at hsn; obtain ⟨p, hp⟩ : ∃ p, p = m + y := ⟨_, rfl⟩
         rw [← hp] at hsn; have hw1 : IntKind.i64.wrap ((m : Int) + (y : Int)) = (p : Int) := by rw [IntWalk.i64_in _ (by omega)]; omega
         have i1 : (j : Int) < (nL : Int) := by omega
         have i0 : (0 : Int) ≤ (j : Int) := by omega
         have i2 : (x : Int) < (N : Int) := by omega
         have i3 : (p : Int) < (N : Int) := by omega
         have i4 : (0 : Int) ≤ (x : Int) := by omega
         have i5 : (0 : Int) ≤ (p : Int) := by omega
         have hxp : x ≠ p := by omega
         have hpN : p < N := by omega
         have hxN : x < N := by omega
         have t1 := hbx.keep (by have := Htc5.out.lt; omega) (show ¬ (⟨T, 1, none⟩ : Addr).block = gb by simp only; omega) Ht51.out; have e0 := hbx.keep (by have := World.block_lt_of_cell? v5 _ He50.out; exact this) (show ¬ (⟨w.heap.size, 0, none⟩ : Addr).block = gb by simp only; omega) He50.out; have hlj : (L.take j).length ≤ 2000 := by
          rw [List.length_take]; have := Htt.out.len; omega
         have bB := bl_alloc wr (.cells #[.int .i64 (x : Nat), .int .i64 (y : Nat)] 51); have Hrows := Lib.hid hrows; have Hbx := Lib.hid hbx; have Hyo := Lib.hid hyo; have Hj := Lib.hid hj; have Hsn := Lib.hid hsn; have Hlj := Lib.hid hlj; have HbB := Lib.hid bB; have Hp := Lib.hid hp; clear hrows hbx hyo hj hsn hlj bB hp hbw hxy htk hNn o1 o2 o3 o4 o5 o6 o7 o8 o9 g1 g2 g3 g4 hs45; go_wp2_with fail; have q0 : (wr.alloc (.cells #[.int .i64 (x : Nat), .int .i64 (y : Nat)] 51)).cell? ⟨wr.heap.size, 0, none⟩ = some (.int .i64 (x : Nat)) := by simp
         have q1 : (wr.alloc (.cells #[.int .i64 (x : Nat), .int .i64 (y : Nat)] 51)).cell? ⟨wr.heap.size, 1, none⟩ = some (.int .i64 (y : Nat)) := by simp
         have e0B := keep_cell HbB.out e0; have t1B := keep_cell HbB.out t1; have rB := Hrows.out.below HbB.out; have xB := Hbx.out.below HbB.out Hbx.out.size; generalize wr.alloc (.cells #[.int .i64 (x : Nat), .int .i64 (y : Nat)] 51) = wB at *
         have HrB := Lib.hid rB; have HxB := Lib.hid xB; have Ht1B := Lib.hid t1B; clear rB xB t1B e0 t1; go_quiet (fail)
         have rD := HrB.out.drewN nq; have xD := HxB.out.drewN nq; have tD : (wB.drewN nq).cell? ⟨T, 1, none⟩ = some (.slice (some ⟨gb, 0, none⟩) N N) := Ht1B.out; generalize wB.drewN nq = wd at *
         clear HrB HxB Ht1B q0 q1 e0B; have yD := Hyo.out; have rwD : (rowsB m N (L.take j))[x]? = some ((bsT m (L.take j) x).map vN) := rowsB_get hxN; have lnD : (rowsB m N (L.take j)).length = N := rowsB_len _ _ _; have llD : ((bsT m (L.take j) x).map vN).length ≤ 2000 := by rw [List.length_map]; have := bsT_len m (L.take j) x; have := Hlj.out; omega
         go_wp2_with fail; have vlD := rD.len; obtain ⟨u, hu⟩ : ∃ u, (vals)[x]? = some u := ⟨_, List.getElem?_eq_getElem (by rw [vlD, lnD]; exact hxN)⟩
         have hcu : wd.cell? ⟨gb, x, none⟩ = some u := by rw [rD.outer.cell? x (by rw [vlD, lnD]; exact hxN), hu]
         have hown := rD.own x u _ hu rwD; have hTg : u.ownBlock ≠ some T := fun e => by have := yD _ _ _ hu e; have := Htc5.out.lt; omega
         have hug := rD.ne_outer hu; have hlb := rD.outer.lt; have hfz := rD.outer.frozen x; have hyu : ∀ g, u.ownBlock = some g → v5.heap.size ≤ g := fun g hg => yD _ _ _ hu hg; have HrD := Lib.hid rD; have HxD := Lib.hid xD; have HuD := Lib.hid hu; have HrwD := Lib.hid rwD; have HyD := Lib.hid yD; have HyuD := Lib.hid hyu; clear rD xD hu rwD yD vlD lnD hyu; refine regionT (fun w' => w'.cell? ⟨T, 1, none⟩ = some (.slice (some ⟨gb, 0, none⟩) N N) ∧ w'.cell? ⟨gb, x, none⟩ = some u) 15 (by kernel_rfl) ?_; have hS : wd.drew.cell? ⟨T, 1, none⟩ = some (.slice (some ⟨gb, 0, none⟩) N N) ∧ wd.drew.cell? ⟨gb, x, none⟩ = some u := ⟨tD, hcu⟩
         refine tkT 0 ?_ rfl hS ?_ ?_ (by kernel_rfl) (fun _ _ _ h => h) (by rfl); rotate_left; (· intro wS hSw; (try dsimp only at hSw); go_simp; try with_reducible rfl); simp only [Act.put, zT]; refine tkT 1 ?_ rfl hS ?_ ?_ (by kernel_rfl) (fun _ _ _ h => h) (by rfl); rotate_left; (· intro wS hSw; (try dsimp only at hSw); go_simp; try with_reducible rfl); simp only [Act.put, zT]; refine tkT 2 ?_ rfl hS ?_ ?_ (by kernel_rfl) (fun _ _ _ h => h) (by rfl); rotate_left; (· intro wS hSw; (try dsimp only at hSw); go_simp; try with_reducible rfl); simp only [Act.put, zT]; refine tkT 3 ?_ rfl hS ?_ ?_ (by kernel_rfl) (fun _ _ _ h => h) (by rfl); rotate_left; (· intro wS hSw; (try dsimp only at hSw); go_simp; try with_reducible rfl); simp only [Act.put, zT]; refine tkT 4 ?_ rfl hS ?_ ?_ (by kernel_rfl) (fun _ _ _ h => h) (by rfl); rotate_left; (· intro wS hSw; (try dsimp only at hSw); go_simp; try with_reducible rfl); simp only [Act.put, zT]; refine tkT 5 ?_ rfl hS ?_ ?_ (by kernel_rfl) (fun _ _ _ h => h) (by rfl); rotate_left; (· intro wS hSw; (try dsimp only at hSw); go_simp; try with_reducible rfl); simp only [Act.put, zT]; refine tkT 6 ?_ rfl hS ?_ ?_ (by kernel_rfl) (fun _ _ _ h => h) (by rfl); rotate_left; (· intro wS hSw; (try dsimp only at hSw); go_simp; try with_reducible rfl); simp only [Act.put, zT]; refine tkT 7 ?_ rfl hS ?_ ?_ (by kernel_rfl) (fun _ _ _ h => h) (by rfl); rotate_left; (· intro wS hSw; (try dsimp only at hSw); go_simp; try with_reducible rfl); simp only [Act.put, zT]
         refine tkT 8 ?_ rfl hS ?_ ?_ (by kernel_rfl) (fun _ _ _ h => h) (by rfl); rotate_left; (· intro wS hSw; (try dsimp only at hSw); go_simp; try with_reducible rfl); simp only [Act.put, zT]; refine tkT 9 ?_ rfl hS ?_ ?_ (by kernel_rfl) (fun _ _ _ h => h) (by rfl); rotate_left; (· intro wS hSw; (try dsimp only at hSw); go_simp; try with_reducible rfl); simp only [Act.put, zT]; refine tkT 10 ?_ rfl hS ?_ ?_ (by kernel_rfl) (fun _ _ _ h => h) (by rfl); rotate_left; (· intro wS hSw; (try dsimp only at hSw); go_simp; try with_reducible rfl); simp only [Act.put, zT]; refine tkT 11 ?_ rfl hS ?_ ?_ (by kernel_rfl) (fun _ _ _ h => h) (by rfl); rotate_left; (· intro wS hSw; (try dsimp only at hSw); go_simp; try with_reducible rfl); simp only [Act.put, zT]; refine tkT 12 ?_ rfl hS ?_ ?_ (by kernel_rfl) (fun _ _ _ h => h) (by rfl); rotate_left; (· intro wS hSw; (try dsimp only at hSw); go_simp; try with_reducible rfl); simp only [Act.put, zT]; refine oneT (i := 13) rfl (by kernel_rfl) (fun K hK => ?_); go_simp; have bW : RowKit.Below wd.heap.size wd (wd.alloc (.cells #[.int .i64 (p : Nat)] 3)).drew := (bl_alloc _ _).drew; refine hK _ _ (fun _ => ⟨keep_cell bW tD, keep_cell bW hcu⟩) ?_; clear hK K; refine oneT (i := 14) rfl (by kernel_rfl) (fun K hK => ?_); refine step_append_row rfl (.tmp 220) (.tmp 222) 25 rfl 3 (.int .i64 0) 1 8 Tryz.underlying25 int_info rfl u _ _ (by simp [Act.eval]) (hown.drew.alloc _) ⟨wd.heap.size, 0, none⟩ 1 1 [.int .i64 (p : Nat)] (by simp [Act.eval]) rfl (newsA _ #[.int .i64 (p : Nat)] _) (one_ok _ _) (by omega) (by unfold maxLen; omega) (by omega) ?_
         intro g' cap' w2 hrow2 hcap2 hgr2 hor2; have r0 := grown_cell hgr2 (keep_cell bW tD) hTg; have r1 := grown_cell hgr2 (keep_cell bW hcu) hug; have r3 := grown_frozen hgr2 (by simp; omega) ((bW.frozen (p := ⟨gb, x, none⟩) hlb).trans hfz) hug; refine hK _ _ (fun _ => ⟨r0, r1⟩) ?_; clear hK K; refine oneT (i := 15) rfl (by kernel_rfl) (fun K hK => ?_); go_simp; refine hK _ _ (fun h => absurd h (by omega)) ?_; clear hK K; refine oneT (i := 16) rfl (by kernel_rfl) (fun K hK => ?_); go_simp; refine hK _ _ (fun h => absurd h (by omega)) ?_; clear hK K; refine doneT (by kernel_rfl) ?_ _; have hst := (HrD.out.below bW).stored HuD.out HrwD.out hrow2 hgr2 hor2; have bxn := ((HxD.out.below bW HxD.out.size).grown hgr2 (by have := HxD.out.size; have := bW.size; omega) (fun k hk => .inl (HyuD.out k hk))).setCell (b := gb) (o := x) (.inr rfl) (.slice (some ⟨g', 0, none⟩) ((bsT m (L.take j) x).length + 1) cap'); have hlen1 : (((bsT m (L.take j) x).map vN) ++ [Value.int .i64 (p : Nat)]).length = (bsT m (L.take j) x).length + 1 := by simp
         rw [hlen1] at hst; have hgT : gb ≠ T := by have := Hge5.out; have := Htc4.out.lt; omega
         have g'n : v5.heap.size ≤ g' := by
          rcases hor2 with h | h
          · exact HyuD.out _ h
          · have := HxD.out.size; simp at h; omega
         have yE : ∀ (z : Nat) u g, (vals.set x (.slice (some ⟨g', 0, none⟩) ((bsT m (L.take j) x).length + 1) cap'))[z]? = some u → u.ownBlock = some g → v5.heap.size ≤ g := fun z u g hz hg => by
          rw [List.getElem?_set] at hz; split at hz
          ·
           split at hz
           ·
            cases hz; simp [Value.ownBlock] at hg; omega
           · cases hz
          · exact HyD.out z u g hz hg
         have tE := (World.cell?_setCell_far w2 ⟨gb, x, none⟩ ⟨T, 1, none⟩ (.slice (some ⟨g', 0, none⟩) ((bsT m (L.take j) x).length + 1) cap') hgT).trans r0; generalize w2.setCell ⟨gb, x, none⟩ (.slice (some ⟨g', 0, none⟩) ((bsT m (L.take j) x).length + 1) cap') = wE at *
         generalize vals.set x (.slice (some ⟨g', 0, none⟩) ((bsT m (L.take j) x).length + 1) cap') = vals2 at *
         have rE := hst; have xE := bxn; have rwE : ((rowsB m N (L.take j)).set x ((bsT m (L.take j) x).map vN ++ [Value.int .i64 (p : Nat)]))[p]? = some ((bsT m (L.take j) p).map vN) := by rw [List.getElem?_set_ne hxp]; exact rowsB_get hpN
         have lnE : ((rowsB m N (L.take j)).set x ((bsT m (L.take j) x).map vN ++ [Value.int .i64 (p : Nat)])).length = N := by rw [List.length_set]; exact rowsB_len _ _ _
         have llE : ((bsT m (L.take j) p).map vN).length ≤ 2000 := by rw [List.length_map]; have := bsT_len m (L.take j) p; have := Hlj.out; omega
         clear hst bxn r0 r1 r3 hrow2 hcap2 hgr2 hor2 bW hS hcu hown hTg hug hlb hfz llD hlen1 g'n tD HrD HxD HuD HrwD HyD HyuD; go_wp2_with fail; have vlE := rE.len; obtain ⟨u, hu⟩ : ∃ u, (vals2)[p]? = some u := ⟨_, List.getElem?_eq_getElem (by rw [vlE, lnE]; exact hpN)⟩
         have hcu : wE.cell? ⟨gb, p, none⟩ = some u := by rw [rE.outer.cell? p (by rw [vlE, lnE]; exact hpN), hu]
         have hown := rE.own p u _ hu rwE; have hTg : u.ownBlock ≠ some T := fun e => by have := yE _ _ _ hu e; have := Htc5.out.lt; omega
         have hug := rE.ne_outer hu; have hlb := rE.outer.lt; have hfz := rE.outer.frozen p; have hyu : ∀ g, u.ownBlock = some g → v5.heap.size ≤ g := fun g hg => yE _ _ _ hu hg; have HrE := Lib.hid rE; have HxE := Lib.hid xE; have HuE := Lib.hid hu; have HrwE := Lib.hid rwE; have HyE := Lib.hid yE; have HyuE := Lib.hid hyu; clear rE xE hu rwE yE vlE lnE hyu; refine regionT (fun w' => w'.cell? ⟨T, 1, none⟩ = some (.slice (some ⟨gb, 0, none⟩) N N) ∧ w'.cell? ⟨gb, p, none⟩ = some u) 15 (by kernel_rfl) ?_; have hS : wE.drew.cell? ⟨T, 1, none⟩ = some (.slice (some ⟨gb, 0, none⟩) N N) ∧ wE.drew.cell? ⟨gb, p, none⟩ = some u := ⟨tE, hcu⟩
         refine tkT 0 ?_ rfl hS ?_ ?_ (by kernel_rfl) (fun _ _ _ h => h) (by rfl); rotate_left; (· intro wS hSw; (try dsimp only at hSw); go_simp; try with_reducible rfl); simp only [Act.put, zT]; refine tkT 1 ?_ rfl hS ?_ ?_ (by kernel_rfl) (fun _ _ _ h => h) (by rfl); rotate_left; (· intro wS hSw; (try dsimp only at hSw); go_simp; try with_reducible rfl); simp only [Act.put, zT]; refine tkT 2 ?_ rfl hS ?_ ?_ (by kernel_rfl) (fun _ _ _ h => h) (by rfl); rotate_left; (· intro wS hSw; (try dsimp only at hSw); go_simp; try with_reducible rfl); simp only [Act.put, zT]; refine tkT 3 ?_ rfl hS ?_ ?_ (by kernel_rfl) (fun _ _ _ h => h) (by rfl); rotate_left; (· intro wS hSw; (try dsimp only at hSw); go_simp; try with_reducible rfl); simp only [Act.put, zT]; refine tkT 4 ?_ rfl hS ?_ ?_ (by kernel_rfl) (fun _ _ _ h => h) (by rfl); rotate_left; (· intro wS hSw; (try dsimp only at hSw); go_simp; try with_reducible rfl); simp only [Act.put, zT]; refine tkT 5 ?_ rfl hS ?_ ?_ (by kernel_rfl) (fun _ _ _ h => h) (by rfl); rotate_left; (· intro wS hSw; (try dsimp only at hSw); go_simp; try with_reducible rfl); simp only [Act.put, zT]; refine tkT 6 ?_ rfl hS ?_ ?_ (by kernel_rfl) (fun _ _ _ h => h) (by rfl); rotate_left; (· intro wS hSw; (try dsimp only at hSw); go_simp; try with_reducible rfl); simp only [Act.put, zT]; refine tkT 7 ?_ rfl hS ?_ ?_ (by kernel_rfl) (fun _ _ _ h => h) (by rfl); rotate_left; (· intro wS hSw; (try dsimp only at hSw); go_simp; try with_reducible rfl); simp only [Act.put, zT]
         refine tkT 8 ?_ rfl hS ?_ ?_ (by kernel_rfl) (fun _ _ _ h => h) (by rfl); rotate_left; (· intro wS hSw; (try dsimp only at hSw); go_simp; try with_reducible rfl); simp only [Act.put, zT]; refine tkT 9 ?_ rfl hS ?_ ?_ (by kernel_rfl) (fun _ _ _ h => h) (by rfl); rotate_left; (· intro wS hSw; (try dsimp only at hSw); go_simp; try with_reducible rfl); simp only [Act.put, zT]; refine tkT 10 ?_ rfl hS ?_ ?_ (by kernel_rfl) (fun _ _ _ h => h) (by rfl); rotate_left; (· intro wS hSw; (try dsimp only at hSw); go_simp; try with_reducible rfl); simp only [Act.put, zT]; refine tkT 11 ?_ rfl hS ?_ ?_ (by kernel_rfl) (fun _ _ _ h => h) (by rfl); rotate_left; (· intro wS hSw; (try dsimp only at hSw); go_simp; try with_reducible rfl); simp only [Act.put, zT]; refine tkT 12 ?_ rfl hS ?_ ?_ (by kernel_rfl) (fun _ _ _ h => h) (by rfl); rotate_left; (· intro wS hSw; (try dsimp only at hSw); go_simp; try with_reducible rfl); simp only [Act.put, zT]; refine oneT (i := 13) rfl (by kernel_rfl) (fun K hK => ?_); go_simp; have bW : RowKit.Below wE.heap.size wE (wE.alloc (.cells #[.int .i64 (x : Nat)] 3)).drew := (bl_alloc _ _).drew; refine hK _ _ (fun _ => ⟨keep_cell bW tE, keep_cell bW hcu⟩) ?_; clear hK K; refine oneT (i := 14) rfl (by kernel_rfl) (fun K hK => ?_); refine step_append_row rfl (.tmp 236) (.tmp 238) 25 rfl 3 (.int .i64 0) 1 8 Tryz.underlying25 int_info rfl u _ _ (by simp [Act.eval]) (hown.drew.alloc _) ⟨wE.heap.size, 0, none⟩ 1 1 [.int .i64 (x : Nat)] (by simp [Act.eval]) rfl (newsA _ #[.int .i64 (x : Nat)] _) (one_ok _ _) (by omega) (by unfold maxLen; omega) (by omega) ?_
         intro g' cap' w2 hrow2 hcap2 hgr2 hor2; have r0 := grown_cell hgr2 (keep_cell bW tE) hTg; have r1 := grown_cell hgr2 (keep_cell bW hcu) hug; have r3 := grown_frozen hgr2 (by simp; omega) ((bW.frozen (p := ⟨gb, p, none⟩) hlb).trans hfz) hug; refine hK _ _ (fun _ => ⟨r0, r1⟩) ?_; clear hK K; refine oneT (i := 15) rfl (by kernel_rfl) (fun K hK => ?_); go_simp; refine hK _ _ (fun h => absurd h (by omega)) ?_; clear hK K; refine oneT (i := 16) rfl (by kernel_rfl) (fun K hK => ?_); go_simp; refine hK _ _ (fun h => absurd h (by omega)) ?_; clear hK K; refine doneT (by kernel_rfl) ?_ _; have hst := (HrE.out.below bW).stored HuE.out HrwE.out hrow2 hgr2 hor2; have bxn := ((HxE.out.below bW HxE.out.size).grown hgr2 (by have := HxE.out.size; have := bW.size; omega) (fun k hk => .inl (HyuE.out k hk))).setCell (b := gb) (o := p) (.inr rfl) (.slice (some ⟨g', 0, none⟩) ((bsT m (L.take j) p).length + 1) cap'); have hlen2 : (((bsT m (L.take j) p).map vN) ++ [Value.int .i64 (x : Nat)]).length = (bsT m (L.take j) p).length + 1 := by simp
         rw [hlen2] at hst; have g'n : v5.heap.size ≤ g' := by
          rcases hor2 with h | h
          · exact HyuE.out _ h
          · have := HxE.out.size; simp at h; omega
         have yF : ∀ (z : Nat) u g, (vals2.set p (.slice (some ⟨g', 0, none⟩) ((bsT m (L.take j) p).length + 1) cap'))[z]? = some u → u.ownBlock = some g → v5.heap.size ≤ g := fun z u g hz hg => by
          rw [List.getElem?_set] at hz; split at hz
          ·
           split at hz
           ·
            cases hz; simp [Value.ownBlock] at hg; omega
           · cases hz
          · exact HyE.out z u g hz hg
         have hnl : nL ≤ 2000 := by have := HnLL.out; have := Htt.out.len; omega
         have Hst := Lib.hid hst; have Hbxn := Lib.hid bxn; have HyF := Lib.hid yF; clear hst bxn r0 r1 r3 hrow2 hcap2 hgr2 hor2 bW hS hcu hown hTg hug hlb hfz llE hlen2 g'n tE HrE HxE HuE HrwE HyE HyuE yF; go_wp2_with fail; go_roundg (gk - 1)
         case measure => have := Hj.out; omega
         case rel => exact ⟨j + 1, _, by have := Hj.out; omega, by go_num, Hbxn.out, by rw [Hsn.out]; exact Hst.out, HyF.out⟩
        ·
         obtain rfl : nL = j := by omega
         obtain ⟨o1, o2, o3, o4, o5, o6, o7, o8, o9⟩ := Hord4.out; obtain ⟨g1, g2, g3, g4⟩ := Hge5.out; have hs45 := Hs45.out; have hNn := HN.out; have hTl := Htc5.out.lt; rw [List.take_of_length_le (by rw [HnLL.out]; exact Nat.le_refl _)] at hrows; have hbw6 : RowKit.Below (w.heap.size + 1) w0 wr := Hbw5.out.trans (hbx.toBelow (by omega) fun p hp => by omega); have tc6 := Htc5.out.bel hbx hTl (fun o e => by simp only at e; omega); have z60 := keep_cell (hbw6.mono (by rw [Hsz0.out]; exact Nat.le_refl _)) Hz0.out; have z61 := keep_cell (hbw6.mono (by rw [Hsz0.out]; exact Nat.le_refl _)) Hz1.out; have z62 := keep_cell (hbw6.mono (by rw [Hsz0.out]; exact Nat.le_refl _)) Hz2.out; have hce := bcentre_walk m nc (some ⟨ba, oa, none⟩) a2 a3 c1 c2 c3 L wr Htt.out (by omega) (Hr3.out.below (Hb0.out.trans (hbw6.mono (by omega)))); rw [← HnLL.out] at hce; have hhg := fun w root hroot t1 t2 t3 t4 hbes hu hd hne => hang_walk m nc N L T gb gu gd root w HN.out.symm Htt.out (by omega) hroot t1 t2 t3 t4 hbes hu hd hne; obtain ⟨v6, hv6⟩ : ∃ v6 : World, v6 = wr := ⟨_, rfl⟩
         rw [← hv6] at hbx hrows hbw6 tc6 z60 z61 z62 hce ⊢; clear hv6; have Hbx6 := Lib.hid hbx; have Hrows6 := Lib.hid hrows; have Hbw6 := Lib.hid hbw6; have Htc6 := Lib.hid tc6; have Hce := Lib.hid hce; have Hyo6 := Lib.hid hyo; have Hhg := Lib.hid hhg; clear hbx hrows hbw6 tc6 hce hyo hhg hj o1 o2 o3 o4 o5 o6 o7 o8 o9 g1 g2 g3 g4 hs45 hNn hTl; go_wp2_with fail; refine Hce.out.mono ?_; rintro e w7 ⟨root, hcen, rfl, hb7⟩; have tc7 := Htc6.out.below hb7; have f72 := tc7.fz 2
         have y72 := tc7.at_ 2 (.int .i64 0) (by
          have : T2.length = 11 := by rw [HT2.out, List.length_set]; exact HT1l.out
          rw [HT2.out, HT1.out, HT0.out]; rfl)
         have z70 := keep_cell hb7 z60; have hrl := Htt.out.end_lt hcen.1; have tc8 := tc7.set 2 (.int .i64 (root : Nat)); have Htc8 := Lib.hid tc8; have Hcen := Lib.hid hcen; have Hb7 := Lib.hid hb7; clear tc7 tc8 hcen hb7; have hfin : Calls Tryz.prog 59 #[.pointer (some ⟨T, 0, none⟩)] (w7.setCell ⟨T, 2, none⟩ (.int .i64 (root : Nat))) (fun e w' => e = .returned (.tuple #[]) ∧ RetGr w n es cuts ts (.returned (.pointer (some ⟨T, 0, none⟩))) w') := by
          obtain ⟨o1, o2, o3, o4, o5, o6, o7, o8, o9⟩ := Hord4.out; obtain ⟨g1, g2, g3, g4⟩ := Hge5.out; obtain ⟨n1, n2, n3, n4, n5, n6⟩ := Hne5.out; have hs45 := Hs45.out; have hTl := Htc5.out.lt; have lu := Hru5.out.lt; have ld := Hrd5.out.lt; have lw := Hrw5.out.lt; have lb := Hgbl.out; have hT2l : T2.length = 11 := by rw [HT2.out, List.length_set]; exact HT1l.out
          have hs56 := Hbx6.out.size; have hs67 := Hb7.out.size; have bx7 := (Hbx6.out.mono (Y := fun a => a.block = gb ∨ a.block = T) (fun p hp => .inl hp) (Nat.le_refl _)).below Hb7.out (by omega); have bx8 := bx7.setCell (b := T) (o := 2) (.inr (.inr rfl)) (.int .i64 (root : Nat)); have hr7 := Hrows6.out.below Hb7.out; have hr8 : OwnRows (w7.setCell ⟨T, 2, none⟩ (.int .i64 (root : Nat))) gb 25 3 N vals (rowsB m N L) := hr7.keep fun g hg _ => Below.heap_setCell _ _ _ _ (by simp only; omega); have hs8 : (w7.setCell ⟨T, 2, none⟩ (.int .i64 (root : Nat))).heap.size = w7.heap.size := by simp
          generalize w7.setCell ⟨T, 2, none⟩ (.int .i64 (root : Nat)) = w8 at *
          have tc8 := Htc8.out; have nbT : ∀ g, g ≠ gb → g ≠ T → ∀ o, ¬ ((⟨g, o, none⟩ : Addr).block = gb ∨ (⟨g, o, none⟩ : Addr).block = T) := fun g h1 h2 o hx => hx.elim h1 h2; have ru8 := bx8.row Hru5.out lu (nbT gu (by omega) (by omega)); have rd8 := bx8.row Hrd5.out ld (nbT gd (by omega) (by omega)); have hbes : ∀ k, k < N → ∃ au cu, w8.cell? ⟨gb, k, none⟩ = some (.slice au (bsT m L k).length cu) ∧ CellsAt w8 au ((bsT m L k).map vN) ∧ ∀ b o, au = some ⟨b, o, none⟩ → b < w8.heap.size ∧ b ≠ gu ∧ b ≠ gd ∧ v5.heap.size ≤ b := fun k hk => by
           obtain ⟨au, cu, u, q1, q2, q3, q4⟩ := hr8.cells (rowsB_get (m := m) (L := L) hk); rw [List.length_map] at q1; refine ⟨au, cu, q1, q2, fun b o e => ?_⟩; have e1 := q4 b o e; have e2 := Hyo6.out k u b q3 e1; have e3 := hr8.lt q3 e1; exact ⟨e3, by omega, by omega, e2⟩
          refine (Hhg.out w8 root (by rw [HN.out]; exact hrl) (tc8.at_ 1 _ (by simp [List.getElem?_set, hT2l])) (tc8.at_ 2 _ (by simp [List.getElem?_set, hT2l])) (tc8.at_ 3 _ (by simp [List.getElem?_set, hT2l])) (tc8.at_ 4 _ (by simp [List.getElem?_set, hT2l])) (fun k hk => ?_) ru8 (by exact rd8) ⟨by omega, by omega, n1, n2, n4⟩).mono ?_
          ·
           obtain ⟨au, cu, q1, q2, q3⟩ := hbes k hk; exact ⟨au, cu, q1, q2, fun b o e => ⟨(q3 b o e).1, (q3 b o e).2.1, (q3 b o e).2.2.1⟩⟩
          ·
           rintro e w9 ⟨rfl, up, dep, hung, ru9, rd9, bx9⟩; have em := Hm.out; have enc := Hnc.out; have eN := HN.out; have nU : ∀ g, g ≠ gu → g ≠ gd → ∀ o, ¬ inB gu gd ⟨g, o, none⟩ := fun g h1 h2 o hx => hx.elim h1 h2; have tc9 := tc8.bel bx9 tc8.lt (nU T (by omega) (by omega)); have bx59 : BelX v5.heap.size (fun a => (a.block = gb ∨ a.block = T) ∨ inB gu gd a) v5 w9 := (bx8.mono (fun p hp => .inl hp) (Nat.le_refl _)).trans (bx9.mono (fun p hp => .inr hp) (by omega)); have nA : ∀ g, g ≠ gb → g ≠ T → g ≠ gu → g ≠ gd → ∀ o, ¬ (((⟨g, o, none⟩ : Addr).block = gb ∨ (⟨g, o, none⟩ : Addr).block = T) ∨ inB gu gd ⟨g, o, none⟩) := fun g h1 h2 h3 h4 o hx => hx.elim (fun h => h.elim h1 h2) (fun h => h.elim h3 h4); have rw9 := bx59.row Hrw5.out lw (nA gw (by omega) (by omega) (by omega) (by omega)); have gp9 := bx59.row Hgp5.out (by omega) (nA gp (by omega) (by omega) (by omega) (by omega)); have gs9 := bx59.row Hgs5.out (by omega) (nA gs (by omega) (by omega) (by omega) (by omega)); have rk9 := bx59.row Hrk5.out (by omega) (nA gk1 (by omega) (by omega) (by omega) (by omega)); have mz9 := Hmz5.out.block (bx59.obj mb (by omega) (nA mb (by omega) (by omega) (by omega) (by omega))); have blt : ∀ k, k < m → v1.heap.size ≤ bo k ∧ bo k < v4.heap.size ∧ gk1 ≠ bo k := fun k hk => by
            obtain ⟨h1, h2⟩ := (Hbl4.out.each k hk).p; exact ⟨h1, (Hbl4.out.each k hk).lt, fun e => h2 (by rw [← e]; rfl)⟩
           have clt : ∀ i, i < nc → v3.heap.size ≤ bc (m + i) ∧ bc (m + i) < v4.heap.size ∧ gk1 ≠ bc (m + i) := fun i hi => by
            obtain ⟨h1, h2, h3⟩ := Hcw4.out i hi; exact ⟨h2, h1.lt, fun e => h3 (by rw [← e]; rfl)⟩
           have bx49 : BelX v4.heap.size (fun a => (a.block = gb ∨ a.block = T) ∨ inB gu gd a) v4 w9 := (Hbx45.out.mono (fun p hp => .inl (.inr hp)) (Nat.le_refl _)).trans (bx59.mono (fun p hp => hp) (by omega)); have bl9 : ∀ k, k < m → BlkW w9 (bo k) k (es.getD k (0, 0)).1.toNat (es.getD k (0, 0)).2.toNat (fun g => v1.heap.size ≤ g ∧ g < v4.heap.size) := fun k hk =>
            (Hbl4.out.each k hk).keep bx49 fun g hg hp => ⟨nA g (by omega) (by have := hp.1; omega) (by omega) (by omega), hp.1, hg⟩
           have cw9 : ∀ i, i < nc → TC w9 (bc (m + i)) [.int .i64 (m + i : Nat), .int .i64 (cuts.getD i 0 : Nat)] := fun i hi => by
            obtain ⟨h1, h2, h3⟩ := Hcw4.out i hi; exact h1.bel bx49 h1.lt (nA _ (by have := h1.lt; omega) (by omega) (by have := h1.lt; omega) (by have := h1.lt; omega))
           have bes9 : ∀ k, k < N → ∃ au cu, w9.cell? ⟨gb, k, none⟩ = some (.slice au (bsT m L k).length cu) ∧ CellsAt w9 au ((bsT m L k).map vN) ∧ ∀ b o, au = some ⟨b, o, none⟩ → v5.heap.size ≤ b := fun k hk => by
            obtain ⟨au, cu, q1, q2, q3⟩ := hbes k hk; exact ⟨au, cu, bx9.keep (World.block_lt_of_cell? w8 _ q1) (nU gb (by omega) (by omega) k) q1, bx9.at_ q2 fun b o e => ⟨(q3 b o e).1, nU b (q3 b o e).2.1 (q3 b o e).2.2.1⟩, fun b o e => (q3 b o e).2.2.2⟩
           obtain ⟨TF, hTF⟩ : ∃ TF, TF = (((((T2.set 1 (.slice (some ⟨gb, 0, none⟩) N N)).set 3 (.slice (some ⟨gu, 0, none⟩) N N)).set 4 (.slice (some ⟨gd, 0, none⟩) N N)).set 5 (.slice (some ⟨gw, 0, none⟩) N N)).set 2 (.int .i64 (root : Nat))) := ⟨_, rfl⟩
           rw [← hTF] at tc9; rw [HT2.out, HT1.out, HT0.out] at hTF; change TF = [.slice (some ⟨gk1, 0, none⟩) (m + nc) ck1, .slice (some ⟨gb, 0, none⟩) N N, .int .i64 (root : Nat), .slice (some ⟨gu, 0, none⟩) N N, .slice (some ⟨gd, 0, none⟩) N N, .slice (some ⟨gw, 0, none⟩) N N, .slice (some ⟨gs, 0, none⟩) n cs, .int .i64 U.length, .map (some mb), .slice (some ⟨gp, 0, none⟩) n n, .slice none 0 0] at hTF; rw [hTF] at tc9
           have hbel : RowKit.Below w.heap.size w w9 := (Hb0.out.trans (Hbw5.out.mono (by omega))).trans (bx59.toBelow (by omega) fun p hp => by
            rcases hp with (h | h) | h | h <;> omega)
           have hret := grown_ends (w := w) em enc eN HUe.out HLL.out Hl.out hung Hcen.out tc9 rk9 (s1 := v1.heap.size) (s4 := v4.heap.size) (s5 := v5.heap.size) bes9 ru9 rd9 rw9 gs9 gp9 mz9 bl9 cw9 (fun k l hk hl => Hbl4.out.inj k l hk hl) hbel ⟨by omega, by omega, by omega, by omega, by omega, by omega, by omega, by omega, by omega, by omega, by omega, by omega, by omega, by omega, by omega⟩ ⟨Ne.symm n3, Ne.symm n5, Ne.symm n6⟩ (fun k hk => (blt k hk).2.2) (fun i hi => by have := clt i hi; omega) o1; exact ⟨rfl, hret⟩
         have Hfin := Lib.hid hfin; clear hfin; by_cases hrm : root < m
         ·
          have hd : decide (root < m) = true := decide_eq_true hrm; rw [if_pos hrm]; clear hrm; go_wp2_with fail; refine Hfin.out.mono ?_; rintro e w9 ⟨rfl, hret⟩; have Hret := Lib.hid hret; clear hret; go_wp2_with fail; go_ret; exact Hret.out
         ·
          have hd : decide (root < m) = false := decide_eq_false hrm; rw [if_neg hrm]; have hadd : IntKind.i64.wrap (((root - m : Nat) : Int) + (m : Int)) = (root : Int) := by rw [IntWalk.i64_in _ (by omega)]; omega
          clear hrm; go_wp2_with fail; refine Hfin.out.mono ?_; rintro e w9 ⟨rfl, hret⟩; have Hret := Lib.hid hret; clear hret; go_wp2_with fail; go_ret; exact Hret.out
end Go.Proofs.YtagjdkkfmfombaaGreat
