/- Facts that the claim rests on, part 10. -/
import Derived.Test.YtagjdkkfmfombaaGreatKB08
namespace Go.Proofs.YtagjdkkfmfombaaGreat
open Go Go.RowKit Go.Maps
def baseT (m c q : Nat) : Nat := if q = 0 then 0 else if q = 1 then m else m + c
theorem base_fl {m c q : Nat} (hq : q < 2) : flT m q 0 = baseT m c q := by
 rcases (by omega : q = 0 ∨ q = 1) with rfl | rfl <;> simp [flT, baseT]
theorem base_next {m c q : Nat} (hq : q < 2) : flT m q (ndT m c q) = baseT m c (q + 1) := by
 rcases (by omega : q = 0 ∨ q = 1) with rfl | rfl <;> simp [flT, baseT, ndT]
theorem fl_succ (m q j : Nat) : flT m q j + 1 = flT m q (j + 1) := by unfold flT; split <;> omega
theorem un_res {m j kd v : Nat} (h : unT m j = (kd, v)) : decide (j < m) = ((kd : Int) == 0) ∧ (if j < m then j else j - m) = v := by
 unfold unT at h
 by_cases e : j < m
 ·
  rw [if_pos e] at h
  simp only [Prod.mk.injEq] at h
  obtain ⟨rfl, rfl⟩ := h
  simp [e]
 ·
  rw [if_neg e] at h
  simp only [Prod.mk.injEq] at h
  obtain ⟨rfl, rfl⟩ := h
  simp [e]
theorem not_gone {bs : Nat → List Nat} {n k j : Nat} {P pre : List Nat} (h : cntC bs (peels bs n k) P pre j = 2) : peel bs n (peels bs n k) j = false := by
 have hd : 2 ≤ degG bs (peels bs n k) j := by
  unfold cntC at h
  split at h <;> omega
 have h1 : peels bs n k j = false := by
  cases hg : peels bs n k j with
  | false => rfl
  | true => have := gone_deg k j hg; omega
 unfold peel endB
 rw [h1, decide_eq_false (by omega : ¬ degG bs (peels bs n k) j ≤ 1)]
 simp
set_option maxRecDepth 100000 in
set_option maxHeartbeats 8000000 in
theorem bcentre_walk (m c : Nat) (a1 a2 a3 : Option Addr) (c1 c2 c3 : Nat) (L : List (Nat × Nat)) (w : World) (ht : TreeT m c L) (hs : m + c ≤ 1000) (hr : RdP w a3 (L.map fun p => ((p.1 : Int), (p.2 : Int)))) :
  Calls Tryz.prog 58 #[.agg #[.slice a1 m c1, .slice a2 c c2, .slice a3 L.length c3]] w (fun e w' => ∃ j, TreeT.isCentre m c L j ∧ e = .returned (.tuple #[.bool (decide (j < m)), .int .i64 ((if j < m then j else j - m : Nat) : Int)]) ∧ Below w.heap.size w w') := by
 have hA := bl_alloc w (.cells #[.slice a1 m c1, .slice a2 c c2, .slice a3 L.length c3] 78)
 have hrA := hr.below hA
 have y0 : (w.alloc (.cells #[.slice a1 m c1, .slice a2 c c2, .slice a3 L.length c3] 78)).cell? ⟨w.heap.size, 0, none⟩ = some (.slice a1 m c1) := by simp
 have y1 : (w.alloc (.cells #[.slice a1 m c1, .slice a2 c c2, .slice a3 L.length c3] 78)).cell? ⟨w.heap.size, 1, none⟩ = some (.slice a2 c c2) := by simp
 have y2 : (w.alloc (.cells #[.slice a1 m c1, .slice a2 c c2, .slice a3 L.length c3] 78)).cell? ⟨w.heap.size, 2, none⟩ = some (.slice a3 L.length c3) := by simp
 have hlt0 : w.heap.size < (w.alloc (.cells #[.slice a1 m c1, .slice a2 c c2, .slice a3 L.length c3] 78)).heap.size := by simp
 have Ht := Lib.hid ht
 have hlen := ht.len
 have hm := ht.pos
 clear ht
 go_enter Tryz.func58, Tryz.ntmps58
 go_upto_region 1 with (fail)
 generalize w.alloc (.cells #[.slice a1 m c1, .slice a2 c c2, .slice a3 L.length c3] 78) = wA at *
 go_wp2_with fail
 refine (linked_walk m c a1 a2 a3 c1 c2 c3 L wA Ht.out.lt hm hlen hs Ht.out.hang hrA).mono ?_
 rintro e wB ⟨G, vals, rfl, hT, hg0, hg1, hB⟩
 have z0 := keep_cell hB y0
 have z1 := keep_cell hB y1
 have HT := Lib.hid hT; have HAB := Lib.hid (bl_trans hA hB)
 clear y0 y1 y2 hr hrA hA hB hT
 go_upto_region 4 with (fail)
 have hbB := bl_alloc wB (.cells #[.slice (some ⟨G 0, 0, none⟩) m m, .slice (some ⟨G 1, 0, none⟩) c c] 165)
 have z0b := keep_cell hbB z0
 have z1b := keep_cell hbB z1
 have hL2 : LstT m c wB.heap.size G L (wB.alloc (.cells #[.slice (some ⟨G 0, 0, none⟩) m m, .slice (some ⟨G 1, 0, none⟩) c c] 165)) := by
  refine ⟨fun k hk => ?_, fun k hk v hv => ?_⟩
  ·
   have := two_cell wB (.slice (some ⟨G 0, 0, none⟩) m m) (.slice (some ⟨G 1, 0, none⟩) c c) 165 k hk; rw [this]; rcases (by omega : k = 0 ∨ k = 1) with rfl | rfl <;> rfl
  ·
   obtain ⟨au, cu, h1, h2⟩ := HT.out.rows k hk v hv; exact ⟨au, cu, keep_cell hbB h1, h2.below hbB⟩
 have hB2 := bl_trans HAB.out hbB
 have hsB : wB.heap.size < (wB.alloc (.cells #[.slice (some ⟨G 0, 0, none⟩) m m, .slice (some ⟨G 1, 0, none⟩) c c] 165)).heap.size := by simp
 have HL2 := Lib.hid hL2; have HB2 := Lib.hid hB2
 clear hL2 hB2 hbB z0 z1 HT HAB hg0 hg1
 generalize wB.alloc (.cells #[.slice (some ⟨G 0, 0, none⟩) m m, .slice (some ⟨G 1, 0, none⟩) c c] 165) = w2 at *
 have hm1 := fun w => run_make_row' (P := Tryz.prog) 25 3 (.int .i64 0) 8 Tryz.underlying25 int_info rfl .i64 .i64 m (by omega) (by omega) w
 have hm2 := fun w => run_make_row' (P := Tryz.prog) 25 3 (.int .i64 0) 8 Tryz.underlying25 int_info rfl .i64 .i64 c (by omega) (by omega) w
 have hlt2 := World.block_lt_of_cell? w2 _ z0b
 go_cut [6] from 26 to 34 (fun p wx => CntS w2 m c p wx)
 case first =>
  have hml : m ≤ maxLen := by unfold maxLen; omega
  have hcl : c ≤ maxLen := by unfold maxLen; omega
  go_region
  ·
   go_wp2_with fail; go_meet
   exact cntS_start (row3a w2 m _ _ _ hml) (row3b w2 c _ _ _ hcl) (cel3c w2 _ _ _ _ _) ⟨by omega, by omega, by omega, by omega, by omega, by omega⟩ (bel3 w2 _ _ _)
  ·
   go_wp2_with fail; go_meet
   exact cntS_start (row3a w2 m _ _ _ hml) (row3c w2 c _ _ _ hcl) (cel3b w2 _ _ _ _ _) ⟨by omega, by omega, by omega, by omega, by omega, by omega⟩ (bel3 w2 _ _ _)
  ·
   go_wp2_with fail; go_meet
   exact cntS_start (row3b w2 m _ _ _ hml) (row3a w2 c _ _ _ hcl) (cel3c w2 _ _ _ _ _) ⟨by omega, by omega, by omega, by omega, by omega, by omega⟩ (bel3 w2 _ _ _)
  ·
   go_wp2_with fail; go_meet
   exact cntS_start (row3c w2 m _ _ _ hml) (row3a w2 c _ _ _ hcl) (cel3b w2 _ _ _ _ _) ⟨by omega, by omega, by omega, by omega, by omega, by omega⟩ (bel3 w2 _ _ _)
  ·
   go_wp2_with fail; go_meet
   exact cntS_start (row3b w2 m _ _ _ hml) (row3c w2 c _ _ _ hcl) (cel3a w2 _ _ _ _ _) ⟨by omega, by omega, by omega, by omega, by omega, by omega⟩ (bel3 w2 _ _ _)
  ·
   go_wp2_with fail; go_meet
   exact cntS_start (row3c w2 m _ _ _ hml) (row3b w2 c _ _ _ hcl) (cel3a w2 _ _ _ _ _) ⟨by omega, by omega, by omega, by omega, by omega, by omega⟩ (bel3 w2 _ _ _)
 case rest =>
 obtain ⟨M, P, rfl, hC, hMM, hMP, hb3⟩ := hcut
 obtain ⟨w3, rfl⟩ : ∃ w3 : World, w3 = wc := ⟨_, rfl⟩
 have hMl := hC.lt.1
 have hPl := hC.lt.2
 have hC3 := hC.below (bl_alloc w3 (.cells #[] 171))
 have hB3 := bl_trans hb3 (bl_alloc w3 (.cells #[] 171))
 have hrn : Row (w3.alloc (.cells #[] 171)) w3.heap.size 171 2 0 (pairCells (nodesF m [])) := by
  have := row_new w3 #[] 171 2 0 rfl (by unfold maxLen; omega)
  simpa [nodesF, nodeP, pairCells] using this
 have HC3 := Lib.hid hC3; have HB3 := Lib.hid hB3; have Hrn := Lib.hid hrn; have HPl := Lib.hid hPl; have HMP := Lib.hid hMP
 have hs3 := hb3.size
 clear hC3 hB3 hrn hC hb3 hm1 hm2 hPl hMP
 go_upto_region 7 with (fail)
 go_loopg [7, 36] 2 (fun r sv iv wj => ∃ (q g cp : Nat) (S : List Nat), q + r = 2 ∧ iv = .int .i64 (q : Nat) ∧ sv = .slice (some ⟨g, 0, none⟩) S.length cp ∧ S = lvF (bsT m L) (baseT m c q) ∧ Row wj g 171 2 cp (pairCells (nodesF m S)) ∧ S.length ≤ cp ∧ w3.heap.size ≤ g ∧ CntI m c M P (upF (bsT m L) (baseT m c q)) wj ∧ Below w2.heap.size w2 wj)
 case atStart => exact ⟨0, w3.heap.size, 0, [], by omega, rfl, rfl, by simp [lvF, baseT], Hrn.out, Nat.le_refl _, Nat.le_refl _, HC3.out.congr fun j _ => by simp [upF, baseT], HB3.out⟩
 case round =>
  clear Hrn HC3 HB3
  obtain ⟨q, g, cp, S, hq, rfl, rfl, hS, hrg, hcp, hg, hC, hB⟩ := hrel
  have Hq := Lib.hid hq
  by_cases hq2 : q < 2
  ·
   clear hq; obtain ⟨n, hn⟩ : ∃ n, n = ndT m c q := ⟨_, rfl⟩
   have hn1000 : n ≤ 1000 := by rw [hn]; unfold ndT; split <;> omega
   have bx := (HL2.out.below hB).box q hq2; have bq := hC.bx hq2; rw [← hn] at bx bq; have i1 : (q : Int) < 2 := by omega
   have Hn := Lib.hid hn; have HS := Lib.hid hS; have Hrg := Lib.hid hrg; have HC := Lib.hid hC; have HB := Lib.hid hB; clear hn hS hrg hC hB; go_upto_region 10 with (fail)
   obtain ⟨gko, hgko⟩ : ∃ g, g = gk := ⟨_, rfl⟩
   go_loopg [7, 43] n (fun r sv iv wj => ∃ (j g cp : Nat) (S : List Nat), j + r = n ∧ iv = .int .i64 (j : Nat) ∧ sv = .slice (some ⟨g, 0, none⟩) S.length cp ∧ S = lvF (bsT m L) (flT m q j) ∧ Row wj g 171 2 cp (pairCells (nodesF m S)) ∧ S.length ≤ cp ∧ w3.heap.size ≤ g ∧ CntI m c M P (upF (bsT m L) (flT m q j)) wj ∧ Below w2.heap.size w2 wj)
   case atStart => exact ⟨0, g, cp, S, by omega, rfl, rfl, by rw [base_fl (c := c) hq2]; exact HS.out, Hrg.out, hcp, hg, by rw [base_fl (c := c) hq2]; exact HC.out, HB.out⟩
   case round =>
    clear HS Hrg HC HB hcp hg bx bq; obtain ⟨j, g, cp, S, hj, rfl, rfl, hS, hrg, hcp, hg, hC, hB⟩ := hrel; have Hj := Lib.hid hj; by_cases hjn : j < n
    ·
     clear hj; have hjd : j < ndT m c q := by rw [← Hn.out]; exact hjn
     obtain ⟨au, cu, hcu, -⟩ := (HL2.out.below hB).row q hq2 j hjd; have bq := hC.bx hq2; rw [← Hn.out] at bq; obtain ⟨hcc, hcf⟩ := hC.cell hq2 hjd; obtain ⟨ln, hln⟩ : ∃ ln, ln = (rowT L q j).length := ⟨_, rfl⟩
     have hln1 : ln ≤ 1000 := by have := rowT_len L q j; omega
     have hup := upF_next (bsT m L) (flT m q j); have hlv := lvF_next (bsT m L) (flT m q j); rw [bs_len hq2 hjd, ← hln, fl_succ] at hup hlv; rw [← hln] at hcu; have hC1 := hC.set hq2 hjd (ln : Nat); rw [hup] at hC1; have hPq := HPl.out q hq2; have hrg1 : Row (wr.setCell ⟨P q, j, none⟩ (.int .i64 (ln : Nat))) g 171 2 cp (pairCells (nodesF m S)) := hrg.other (a := ⟨P q, j, none⟩) (by simp only; omega) _; have hB1 := hB.setCell (p := ⟨P q, j, none⟩) (HMP.out q hq2) (.int .i64 (ln : Nat)); have hB1s := hB.size; have hPq3 := HMP.out q hq2; have hSl : S.length ≤ 1000 := by
      have h1 := lvF_le (bsT m L) (flT m q j); have h2 := fl_lt hq2 hjd; rw [hS]; omega
     have i2 : (j : Int) < (n : Int) := by omega
     have HS := Lib.hid hS; have Hrg1 := Lib.hid hrg1; have HC1 := Lib.hid hC1; have HB1 := Lib.hid hB1; have Hlv := Lib.hid hlv; have Hln := Lib.hid hln; have Hjd := Lib.hid hjd; clear hS hrg1 hC1 hB1 hlv hln hrg hC hB hup hjd; go_upto_region 13 with (fail)
     clear hcc hcf hcu bq; generalize wr.setCell ⟨P q, j, none⟩ (.int .i64 (ln : Nat)) = ws at *
     by_cases h2 : ln < 2
     ·
      have e2 : (ln : Int) ≤ 1 := by omega
      have hlv2 : lvF (bsT m L) (flT m q (j + 1)) = S ++ [flT m q j] := by rw [Hlv.out, if_pos h2, ← HS.out]
      have Hlv2 := Lib.hid hlv2; have hrx := Hrg1.out.alloc (.cells #[.int .i64 (q : Nat), .int .i64 (j : Nat)] 171); have hCx := HC1.out.below (bl_alloc ws (.cells #[.int .i64 (q : Nat), .int .i64 (j : Nat)] 171)); have hBx := bl_trans HB1.out (bl_alloc ws (.cells #[.int .i64 (q : Nat), .int .i64 (j : Nat)] 171)); have hgs := Hrg1.out.lt; have hMs := HC1.out.lt.1; have Hrx := Lib.hid hrx; have HCx := Lib.hid hCx; have HBx := Lib.hid hBx; have hnl : (pairCells (nodesF m S)).length = S.length * 2 := by rw [pairCells_length, nodesF_len]
      clear hrx hCx hBx Hrg1 HC1 HB1 hlv2 h2; go_wp2_with (at_builtin; go_loud (refine wpList_append_row _ rfl (.tmp 58) (.tmp 62) 169 rfl 171 (.agg #[.int .i64 0, .int .i64 0]) 2 16 Tryz.underlying169 node_info rfl (.slice (some ⟨g, 0, none⟩) S.length cp) S.length _ rfl (Hrx.out.own hnl hcp) ⟨ws.heap.size, 0, none⟩ 1 1 [.int .i64 (q : Nat), .int .i64 (j : Nat)] rfl rfl (news_lit ws _ [_, _]) (by intro u hu; simp at hu; rcases hu with rfl | rfl <;> rfl) (by omega) (by unfold maxLen; omega) (by omega) ?_; intro g3 c3 w4 hr3 hc3 hg3 hor3)); have hg3' : w3.heap.size ≤ g3 := by
       rcases hor3 with h | h
       · cases h; exact hg
       · simp at h; omega
      have hC4 := HCx.out.grown hg3 (by simp [Value.ownBlock]; omega) (fun k hk => by simp [Value.ownBlock]; have := HPl.out k hk; omega); have hB4 := HBx.out.grown hg3 (by have := HBx.out.size; exact this) (fun j hj => by cases hj; show w2.heap.size ≤ g; omega); have hr4 : Row w4 g3 171 2 c3 (pairCells (nodesF m (S ++ [flT m q j]))) := by rw [nodesF_snoc S hq2 Hjd.out, pcells_append]; exact hr3
      have HC4 := Lib.hid hC4; have HB4 := Lib.hid hB4; have Hr4 := Lib.hid hr4; clear hC4 hB4 hr4 hr3 hg3 hor3; go_wp2_with fail; go_roundg (gk - 1)
      case measure => have := Hj.out; omega
      case rel => exact ⟨j + 1, g3, c3, S ++ [flT m q j], by have := Hj.out; omega, by go_num, by simp, Hlv2.out.symm, Hr4.out, by simpa using hc3, hg3', HC4.out, HB4.out⟩
     ·
      have e2 : ¬ (ln : Int) ≤ 1 := by omega
      have hlv2 : lvF (bsT m L) (flT m q (j + 1)) = S := by rw [Hlv.out, if_neg h2, List.append_nil, ← HS.out]
      have Hlv2 := Lib.hid hlv2; clear hlv2 h2; go_wp2_with fail; go_roundg (gk - 1)
      case measure => have := Hj.out; omega
      case rel => exact ⟨j + 1, g, cp, S, by have := Hj.out; omega, by go_num, rfl, Hlv2.out.symm, Hrg1.out, hcp, hg, HC1.out, HB1.out⟩
    ·
     have hjn2 : j = ndT m c q := by have := Hn.out; omega
     rw [hjn2, base_next hq2] at hS hC; have HS := Lib.hid hS; have Hrg := Lib.hid hrg; have HC := Lib.hid hC; have HB := Lib.hid hB; clear hS hrg hC hB hj hjn2; go_wp2_with fail; go_roundg (gko - 1)
     case measure => have := Hq.out; omega
     case rel => exact ⟨q + 1, g, cp, S, by have := Hq.out; omega, by go_num, rfl, HS.out, Hrg.out, hcp, hg, HC.out, HB.out⟩
  ·
   have hqn : q = 2 := by omega
   subst hqn; have hb2 : baseT m c 2 = m + c := by simp [baseT]
   rw [hb2] at hS hC; have hlv : LvI (bsT m L) (m + c) (peels (bsT m L) (m + c) 0) S := by rw [hS]; exact LvI.start Ht.out.treeG
   have hC0 : CntI m c M P (fun j => (degG (bsT m L) (peels (bsT m L) (m + c) 0) j : Int)) wr := hC.congr fun j hj => by
    have h0 := deg_none (bsT m L) j; unfold upF; rw [if_pos hj]; show ((bsT m L j).length : Int) = ((degG (bsT m L) (fun _ => false) j : Nat) : Int)
    rw [h0]
   have hlf : leftN (m + c) (peels (bsT m L) (m + c) 0) = m + c := leftN_none _; have hbl : ∀ i, (bsT m L i).length ≤ m + c := fun i => by
    have := nodup_len_le (Ht.out.treeG.nd i) (m := List.range (m + c)) fun x hx => List.mem_range.2 (Ht.out.treeG.lt _ _ hx); simpa using this
   have z0r := keep_cell hB z0b; have z1r := keep_cell hB z1b; have Hlv := Lib.hid hlv; have HC0 := Lib.hid hC0; have Hlf := Lib.hid hlf; have Hrg := Lib.hid hrg; have HB := Lib.hid hB; have Hbl := Lib.hid hbl; clear hS hC hb2 hlv hC0 hlf hrg hB hq Hq hbl; go_upto_region 18 with (fail)
   go_loopg [7, 11] (m + c) (fun r sv zv wj => ∃ (k g cp : Nat) (S : List Nat), k + r = m + c ∧ zv = .int .i64 (leftN (m + c) (peels (bsT m L) (m + c) k) : Nat) ∧ sv = .slice (some ⟨g, 0, none⟩) S.length cp ∧ leftN (m + c) (peels (bsT m L) (m + c) k) + k ≤ m + c ∧ LvI (bsT m L) (m + c) (peels (bsT m L) (m + c) k) S ∧ Row wj g 171 2 cp (pairCells (nodesF m S)) ∧ S.length ≤ cp ∧ w3.heap.size ≤ g ∧ CntI m c M P (fun j => (degG (bsT m L) (peels (bsT m L) (m + c) k) j : Int)) wj ∧ Below w2.heap.size w2 wj)
   case atStart => exact ⟨0, g, cp, S, by omega, by rw [Hlf.out, Int.natCast_add], rfl, by rw [Hlf.out]; omega, Hlv.out, Hrg.out, hcp, hg, HC0.out, HB.out⟩
   case round =>
    clear Hlv HC0 Hlf Hrg HB hcp hg z0r z1r; obtain ⟨k, g, cp, S, hk, rfl, rfl, hlk, hlv, hrg, hcp, hg, hC, hB⟩ := hrel; obtain ⟨GG, hGG⟩ : ∃ GG, GG = peels (bsT m L) (m + c) k := ⟨_, rfl⟩
    have hnx : peels (bsT m L) (m + c) (k + 1) = peel (bsT m L) (m + c) GG := by rw [hGG]; rfl
    rw [← hGG] at hlk hlv hC ⊢; obtain ⟨ln, hln⟩ : ∃ ln, ln = leftN (m + c) GG := ⟨_, rfl⟩
    rw [← hln] at hlk ⊢; have Hk := Lib.hid hk; have Hlk := Lib.hid hlk; have Hlv := Lib.hid hlv; have Hnx := Lib.hid hnx; have HGG := Lib.hid hGG; have Hln := Lib.hid hln; have hlnn : ln ≤ m + c := by omega
    have hkn : k ≤ m + c := by omega
    clear hk hlk hlv hnx hGG; by_cases h2 : 2 < ln
    ·
     have e2 : decide ((2 : Int) < (ln : Int)) = true := by simp; omega
     have h22 : 2 < leftN (m + c) GG := by rw [← hln]; exact h2
     have hpos := Hlv.out.pos Ht.out.treeG (by omega); have hLn := Hlv.out.le; have hleft := Hlv.out.left h22; rw [← hln] at hleft; obtain ⟨lm, hlm⟩ : ∃ lm, lm = leftN (m + c) (peel (bsT m L) (m + c) GG) := ⟨_, rfl⟩
     rw [← hlm] at hleft; obtain ⟨wo, rfl⟩ : ∃ wo : World, wo = wr := ⟨_, rfl⟩
     have hgo := hrg.lt; have hwo : w3.heap.size ≤ wo.heap.size := by omega
     have hb1 := bl_alloc wo (.cells #[] 171); have hrg1 := hrg.below hb1 hgo; have hC1 := hC.below hb1; have hB1 := bl_trans hB hb1; have hrn : Row (wo.alloc (.cells #[] 171)) wo.heap.size 171 2 0 (pairCells (nodesF m [])) := by
      have := row_new wo #[] 171 2 0 rfl (by unfold maxLen; omega); simpa [nodesF, nodeP, pairCells] using this
     have hmo : MoI (m + c) (peel (bsT m L) (m + c) GG) (cntC (bsT m L) GG (S.take 0) []) [] := by
      rw [List.take_zero, cntC_start]; exact MoI.start h22
     have hC10 : CntI m c M P (cntC (bsT m L) GG (S.take 0) []) (wo.alloc (.cells #[] 171)) := by rw [List.take_zero, cntC_start]; exact hC1
     have H22 := Lib.hid h22; have Hlm := Lib.hid hlm; have Hpos := Lib.hid hpos; have Hleft := Lib.hid hleft; have Hrg1 := Lib.hid hrg1; have HC10 := Lib.hid hC10; have HB1 := Lib.hid hB1; have Hrn := Lib.hid hrn; have Hmo := Lib.hid hmo; obtain ⟨gko, hgko⟩ : ∃ g, g = gk := ⟨_, rfl⟩
     have Hgko := Lib.hid hgko; clear hln h2 h22 hlm hpos hb1 hrg hrg1 hC hC1 hB hB1 hrn hmo hC10 hleft hgko; go_upto_region 22 with (fail)
     go_loopg [12, 82] S.length (fun r sv iv wj => ∃ (a g2 cp2 : Nat) (T : List Nat), a + r = S.length ∧ iv = .int .i64 (a : Nat) ∧ sv = .slice (some ⟨g2, 0, none⟩) T.length cp2 ∧ Row wj g2 171 2 cp2 (pairCells (nodesF m T)) ∧ T.length ≤ cp2 ∧ w3.heap.size ≤ g2 ∧ g2 ≠ g ∧ MoI (m + c) (peel (bsT m L) (m + c) GG) (cntC (bsT m L) GG (S.take a) []) T ∧ Row wj g 171 2 cp (pairCells (nodesF m S)) ∧ CntI m c M P (cntC (bsT m L) GG (S.take a) []) wj ∧ Below w2.heap.size w2 wj)
     case atStart => exact ⟨0, wo.heap.size, 0, [], by omega, rfl, rfl, Hrn.out, Nat.le_refl _, hwo, by omega, Hmo.out, Hrg1.out, HC10.out, HB1.out⟩
     case round =>
      clear Hrn Hmo Hrg1 HC10 HB1; obtain ⟨a, g2, cp2, T, ha, rfl, rfl, hr2, hcp2, hg2, hgg, hmo, hrg, hC, hB⟩ := hrel; have Ha := Lib.hid ha; by_cases hal : a < S.length
      ·
       clear ha; obtain ⟨x, hx⟩ : ∃ x, S[a]? = some x := ⟨_, List.getElem?_eq_getElem hal⟩
       have hxn : x < m + c := Hlv.out.lt (List.mem_of_getElem? hx); obtain ⟨kd, v, hkv⟩ : ∃ kd v, unT m x = (kd, v) := ⟨_, _, rfl⟩
       obtain ⟨hd2, hv2⟩ := un_lt hxn; have hfx := fl_un m x; rw [hkv] at hd2 hv2 hfx; simp only at hd2 hv2 hfx; have hxc := hrg.cell? (a * 2) (by rw [pairCells_length, nodesF_len]; omega); have hyc := hrg.cell? (a * 2 + 1) (by rw [pairCells_length, nodesF_len]; omega); obtain ⟨g1', g2'⟩ := pairCells_get (nodesF m S) a (by rw [nodesF_len]; exact hal); have hSx : S[a] = x := by rw [List.getElem?_eq_getElem hal] at hx; exact Option.some.inj hx
       rw [g1'] at hxc; rw [g2'] at hyc; simp only [nodesF, nodeP, List.getElem_map, hSx, hkv] at hxc hyc; have htk : S.take (a + 1) = S.take a ++ [x] := by rw [List.take_add_one, hx]; rfl
       obtain ⟨A, hA⟩ : ∃ A, A = S.take a := ⟨_, rfl⟩
       have hAl : A.length ≤ m + c := by rw [hA, List.length_take]; omega
       rw [← hA] at hmo hC htk; have bx := (HL2.out.below hB).box kd hd2; obtain ⟨au, cu, hcu0, hau⟩ := HL2.out.row kd hd2 v hv2; have hcu := keep_cell hB hcu0; have hbb := bl_alloc wr (.cells #[.int .i64 kd, .int .i64 v] 171); have d0 : (wr.alloc (.cells #[.int .i64 kd, .int .i64 v] 171)).cell? ⟨wr.heap.size, 0, none⟩ = some (.int .i64 kd) := by simp
       have d1 : (wr.alloc (.cells #[.int .i64 kd, .int .i64 v] 171)).cell? ⟨wr.heap.size, 1, none⟩ = some (.int .i64 v) := by simp
       have bx2 := keep_cell hbb bx; have hcu2 := keep_cell hbb hcu; have i1 : (a : Int) < (S.length : Int) := by omega
       have i2 : (kd : Int) < 2 := by omega
       have i3 : (v : Int) < (ndT m c kd : Nat) := by omega
       have htk2 : S.take (a + 1) = S.take a ++ [x] := by rw [List.take_add_one, hx]; rfl
       have Htk2 := Lib.hid htk2; have HA := Lib.hid hA; have Hmo := Lib.hid hmo; have Hr2 := Lib.hid hr2; have Hrg := Lib.hid hrg; have HC := Lib.hid hC; have HB := Lib.hid hB; have Hau := Lib.hid hau; have Hbb := Lib.hid hbb; have Hfx := Lib.hid hfx; clear htk htk2 hA hmo hr2 hrg hC hB hau hbb hx hkv hSx bx hcu hcu0 g1' g2' hfx; obtain ⟨gk4, hgk4⟩ : ∃ g, g = gk := ⟨_, rfl⟩
       have Hgk4 := Lib.hid hgk4; clear hgk4; go_upto_region 24 with (fail)
       generalize wr.alloc (.cells #[.int .i64 kd, .int .i64 v] 171) = wb at *
       go_quiet (fail)
       go_wp2_with fail; obtain ⟨wp, rfl⟩ : ∃ wp : World, wp = wr := ⟨_, rfl⟩
       have hgp := Hrg.out.lt; have hg2p := Hr2.out.lt; have hwb := World.block_lt_of_cell? wb _ d0; have hrgb := (Hrg.out.below Hbb.out hgp).drewN nq; have hr2b := (Hr2.out.below Hbb.out hg2p).drewN nq; have hCb := (HC.out.below Hbb.out).drewN nq; have hBb := below_drewN (bl_trans HB.out Hbb.out) nq; have hmo0 : MoI (m + c) (peel (bsT m L) (m + c) GG) (cntC (bsT m L) GG A ((bsT m L x).take 0)) T := by rw [List.take_zero]; exact Hmo.out
       have hCb0 : CntI m c M P (cntC (bsT m L) GG A ((bsT m L x).take 0)) (wb.drewN nq) := by rw [List.take_zero]; exact hCb
       have Hrgb := Lib.hid hrgb; have Hr2b := Lib.hid hr2b; have HCb0 := Lib.hid hCb0; have HBb := Lib.hid hBb; have Hmo0 := Lib.hid hmo0; have hw3p : w3.heap.size ≤ wp.heap.size := by omega
       clear hrgb hr2b hCb hBb hmo0 hCb0 hxc hyc bx2 hcu2 d1 Hmo Hr2 Hrg HC HB; have d0q : (wb.drewN nq).cell? ⟨wp.heap.size, 0, none⟩ = some (.int .i64 kd) := d0; clear d0; go_loopg [12, 95] (rowT L kd v).length (fun r sv iv wj => ∃ (b g2 cp2 : Nat) (T : List Nat), b + r = (rowT L kd v).length ∧ iv = .int .i64 (b : Nat) ∧ sv = .slice (some ⟨g2, 0, none⟩) T.length cp2 ∧ Row wj g2 171 2 cp2 (pairCells (nodesF m T)) ∧ T.length ≤ cp2 ∧ w3.heap.size ≤ g2 ∧ g2 ≠ g ∧ g2 ≠ wp.heap.size ∧ MoI (m + c) (peel (bsT m L) (m + c) GG) (cntC (bsT m L) GG A ((bsT m L x).take b)) T ∧ Row wj g 171 2 cp (pairCells (nodesF m S)) ∧ CntI m c M P (cntC (bsT m L) GG A ((bsT m L x).take b)) wj ∧ wj.cell? ⟨wp.heap.size, 0, none⟩ = some (.int .i64 kd) ∧ Below w2.heap.size w2 wj)
       case atStart => exact ⟨0, g2, cp2, T, by omega, rfl, rfl, Hr2b.out, hcp2, hg2, hgg, by omega, Hmo0.out, Hrgb.out, HCb0.out, d0q, HBb.out⟩
       case round =>
        clear Hrgb Hr2b HCb0 HBb Hmo0 d0q hg2 hgg hcp2 i1; obtain ⟨b, g2, cp2, T, hb, rfl, rfl, hr2, hcp2, hg2, hgg, hgp2, hmo, hrg, hC, d0, hB⟩ := hrel; have Hb := Lib.hid hb; have hblx := bs_len (L := L) hd2 hv2; rw [Hfx.out] at hblx; by_cases hbb : b < (rowT L kd v).length
        ·
         clear hb; obtain ⟨y, hy⟩ : ∃ y, (rowT L kd v)[b]? = some y := ⟨_, List.getElem?_eq_getElem hbb⟩
         obtain ⟨q, hq⟩ : ∃ q, q = 1 - kd := ⟨_, rfl⟩
         have hyq := (rowT_lt (m := m) (c := c) Ht.out.lt hd2 (List.mem_of_getElem? hy)).1; rw [← hq] at hyq; have hq2 : q < 2 := by omega
         obtain ⟨j, hj⟩ : ∃ j, j = flT m q y := ⟨_, rfl⟩
         have hbj : (bsT m L x)[b]? = some j := by
          rw [← Hfx.out, bs_row hd2 hv2, List.getElem?_map, hy, hj, hq]; rfl
         have hjm : j ∈ bsT m L x := List.mem_of_getElem? hbj; have hjn : j < m + c := Ht.out.treeG.lt _ _ hjm; have hjt : j ∉ (bsT m L x).take b := fun hm => by
          have hnd := Ht.out.treeG.nd x; rw [← List.take_append_drop b (bsT m L x), List.nodup_append] at hnd; refine hnd.2.2 j hm j ?_ rfl; rw [List.mem_iff_getElem?]; exact ⟨0, by rw [List.getElem?_drop]; exact hbj⟩
         obtain ⟨bb, ob, hab, cX⟩ := (Hau.out.below hB) b (vN y) (by rw [List.getElem?_map, hy]; rfl); subst hab; replace cX : wr.cell? ⟨bb, ob + b, none⟩ = some (.int .i64 (y : Nat)) := cX; have hbk : (bsT m L x).take (b + 1) = (bsT m L x).take b ++ [j] := by rw [List.take_add_one, hbj]; rfl
         obtain ⟨cj, hcj⟩ : ∃ c, c = cntC (bsT m L) GG A ((bsT m L x).take b) j := ⟨_, rfl⟩
         have hcb : -2000 ≤ cj ∧ cj ≤ 1000 := by
          have h1 : degG (bsT m L) GG j ≤ (bsT m L j).length := List.length_filter_le _ _; have h2 := Hbl.out j; have h3 : hitC (bsT m L) A j ≤ A.length := List.length_filter_le _ _; rw [hcj]; unfold cntC; split <;> omega
         have hng : cj = 2 → peel (bsT m L) (m + c) GG j = false := fun h => by
          rw [HGG.out]; exact not_gone (P := A) (pre := (bsT m L x).take b) (by rw [← HGG.out, ← hcj]; exact h)
         have hdec := cntC_dec (bs := bsT m L) (G := GG) (P := A) hjt; rw [← hbk, ← hcj] at hdec; obtain ⟨hcc, hcf⟩ := hC.cell hq2 hyq; rw [← hj, ← hcj] at hcc; have bq := hC.bx hq2; have hC1 := hC.set hq2 hyq (cj - 1); rw [← hj, hdec] at hC1; have hcc1 := (hC1.cell hq2 hyq).1; rw [← hj, ← hdec] at hcc1; have hcc2 : (wr.setCell ⟨P q, y, none⟩ (.int .i64 (cj - 1))).cell? ⟨P q, y, none⟩ = some (.int .i64 (cj - 1)) := by
          rw [hcc1]; simp [updC]
         have bq1 := hC1.bx hq2; have hPq := HPl.out q hq2; have hPM := HMP.out q hq2; have hrg1 : Row (wr.setCell ⟨P q, y, none⟩ (.int .i64 (cj - 1))) g 171 2 cp (pairCells (nodesF m S)) := hrg.other (a := ⟨P q, y, none⟩) (by simp only; omega) _; have hr21 : Row (wr.setCell ⟨P q, y, none⟩ (.int .i64 (cj - 1))) g2 171 2 cp2 (pairCells (nodesF m T)) := hr2.other (a := ⟨P q, y, none⟩) (by simp only; omega) _; have hB1 := hB.setCell (p := ⟨P q, y, none⟩) hPM (.int .i64 (cj - 1)); have hB1s := hB.size; have d01 : (wr.setCell ⟨P q, y, none⟩ (.int .i64 (cj - 1))).cell? ⟨wp.heap.size, 0, none⟩ = some (.int .i64 kd) := (World.cell?_setCell_far _ _ _ _ (by simp; omega)).trans d0; have e1 : (1 : Int) - (kd : Int) = (q : Int) := by omega
         have i4 : (b : Int) < ((rowT L kd v).length : Int) := by omega
         have i5 : (y : Int) < (ndT m c q : Nat) := by omega
         have i6 : (q : Int) < 2 := by omega
         have hrl1 := rowT_len L kd v; have hTl := hmo.le; have hcb1 := hcb.1; have hcb2 := hcb.2; have Hmo := Lib.hid hmo; have Hdec := Lib.hid hdec; have Hcj := Lib.hid hcj; have Hng := Lib.hid hng; have Hrg1 := Lib.hid hrg1; have Hr21 := Lib.hid hr21; have HC1 := Lib.hid hC1; have HB1 := Lib.hid hB1; have Hj := Lib.hid hj; have Hjn := Lib.hid hjn; have Hyq := Lib.hid hyq; clear hcj hdec hmo hng hrg1 hr21 hC1 hB1 hj hjn hyq hq hbj hjm hjt hbk hy hcc1 hrg hr2 hC hB hcb hblx; go_upto_region 28 with (fail)
         clear hcc hcf bq cX d0; generalize wr.setCell ⟨P q, y, none⟩ (.int .i64 (cj - 1)) = ws at *
         by_cases h1 : cj - 1 = 1
         ·
          have e4 : (cj - 1 == 1) = true := by simpa using h1
          have hmo1 := Hmo.out.yes Hjn.out (Hng.out (by omega)) (by rw [← Hcj.out]; exact h1); rw [← Hcj.out, Hdec.out] at hmo1; have hrx := Hr21.out.alloc (.cells #[.int .i64 (q : Nat), .int .i64 (y : Nat)] 171); have hgx := Hrg1.out.alloc (.cells #[.int .i64 (q : Nat), .int .i64 (y : Nat)] 171); have hCx := HC1.out.below (bl_alloc ws (.cells #[.int .i64 (q : Nat), .int .i64 (y : Nat)] 171)); have hBx := bl_trans HB1.out (bl_alloc ws (.cells #[.int .i64 (q : Nat), .int .i64 (y : Nat)] 171)); have d0x := keep_cell (bl_alloc ws (.cells #[.int .i64 (q : Nat), .int .i64 (y : Nat)] 171)) d01; have hgs := Hr21.out.lt; have hggs := Hrg1.out.lt; have hMs := HC1.out.lt.1; have hwps := World.block_lt_of_cell? ws _ d01; have Hrx := Lib.hid hrx; have Hgx := Lib.hid hgx; have HCx := Lib.hid hCx; have HBx := Lib.hid hBx; have Hd0x := Lib.hid d0x; have Hmo1 := Lib.hid hmo1; have hnl : (pairCells (nodesF m T)).length = T.length * 2 := by rw [pairCells_length, nodesF_len]
          clear hrx hgx hCx hBx Hrg1 Hr21 HC1 HB1 d0x hmo1 h1; go_wp2_with (at_builtin; go_loud (refine wpList_append_row _ rfl (.tmp 118) (.tmp 124) 169 rfl 171 (.agg #[.int .i64 0, .int .i64 0]) 2 16 Tryz.underlying169 node_info rfl (.slice (some ⟨g2, 0, none⟩) T.length cp2) T.length _ rfl (Hrx.out.own hnl hcp2) ⟨ws.heap.size, 0, none⟩ 1 1 [.int .i64 (q : Nat), .int .i64 (y : Nat)] rfl rfl (news_lit ws _ [_, _]) (by intro u hu; simp at hu; rcases hu with rfl | rfl <;> rfl) (by omega) (by unfold maxLen; omega) (by omega) ?_; intro g3 c3 w4 hr3 hc3 hg3 hor3)); have hg3' : w3.heap.size ≤ g3 ∧ g3 ≠ g ∧ g3 ≠ wp.heap.size := by
           rcases hor3 with h | h
           · cases h; exact ⟨hg2, hgg, hgp2⟩
           · simp at h; omega
          have hC4 := HCx.out.grown hg3 (by simp [Value.ownBlock]; omega) (fun k hk => by simp [Value.ownBlock]; have := HPl.out k hk; omega); have hB4 := HBx.out.grown hg3 (by have := HBx.out.size; exact this) (fun j hj => by cases hj; show w2.heap.size ≤ g2; omega); have hgr4 := Hgx.out.grown hg3 (by simp [Value.ownBlock]; omega); have d04 := grown_cell hg3 Hd0x.out (by simp [Value.ownBlock]; omega); have hr4 : Row w4 g3 171 2 c3 (pairCells (nodesF m (T ++ [j]))) := by rw [Hj.out, nodesF_snoc T hq2 Hyq.out, pcells_append]; exact hr3
          have HC4 := Lib.hid hC4; have HB4 := Lib.hid hB4; have Hr4 := Lib.hid hr4; have Hgr4 := Lib.hid hgr4; clear hC4 hB4 hr4 hr3 hg3 hor3 hgr4; go_wp2_with fail; go_roundg (gk - 1)
          case measure => have := Hb.out; omega
          case rel => exact ⟨b + 1, g3, c3, T ++ [j], by have := Hb.out; omega, by go_num, by simp, Hr4.out, by simpa using hc3, hg3'.1, hg3'.2.1, hg3'.2.2, Hmo1.out, Hgr4.out, HC4.out, d04, HB4.out⟩
         ·
          have e4 : (cj - 1 == 1) = false := by simpa using h1
          have hmo1 := Hmo.out.no (j := j) (.inr (by rw [← Hcj.out]; exact h1)); rw [← Hcj.out, Hdec.out] at hmo1; have Hmo1 := Lib.hid hmo1; clear hmo1 h1; go_wp2_with fail; go_roundg (gk - 1)
          case measure => have := Hb.out; omega
          case rel => exact ⟨b + 1, g2, cp2, T, by have := Hb.out; omega, by go_num, rfl, Hr21.out, hcp2, hg2, hgg, hgp2, Hmo1.out, Hrg1.out, HC1.out, d01, HB1.out⟩
        ·
         have hbn : b = (bsT m L x).length := by rw [hblx]; omega
         rw [hbn, List.take_length, cntC_next, HA.out, ← Htk2.out] at hmo hC; have Hmo := Lib.hid hmo; have Hrg := Lib.hid hrg; have Hr2 := Lib.hid hr2; have HC := Lib.hid hC; have HB := Lib.hid hB; clear hb Hb hmo hrg hr2 hC hB hbn hblx d0; go_wp2_with fail; go_roundg (gk4 - 1)
         case measure => have := Ha.out; have := Hgk4.out; omega
         case rel => exact ⟨a + 1, g2, cp2, T, by have := Ha.out; have := Hgk4.out; omega, by go_num, rfl, Hr2.out, hcp2, hg2, hgg, Hmo.out, Hrg.out, HC.out, HB.out⟩
      ·
       have han : a = S.length := by omega
       subst han; rw [List.take_length, cntC_end Hlv.out Ht.out.treeG H22.out] at hC hmo; have hlv2 := hmo.lv; have Hlv2 := Lib.hid hlv2; have HC := Lib.hid hC; have HB := Lib.hid hB; have Hr2 := Lib.hid hr2; have hz : (ln : Int) - (S.length : Int) = (lm : Int) := by have := Hleft.out; omega
       clear ha Ha hmo hlv2 hC hB hr2 hrg; go_wp2_with fail; go_roundg (gko - 1)
       case measure => have := Hk.out; have := Hlk.out; have := Hgko.out; have := Hpos.out; omega
       case rel => exact ⟨k + 1, g2, cp2, T, by have := Hk.out; have := Hlk.out; have := Hgko.out; have := Hpos.out; omega, by rw [Hnx.out, ← Hlm.out] <;> go_num, rfl, by rw [Hnx.out, ← Hlm.out]; have := Hlk.out; have := Hleft.out; have := Hpos.out; omega, by rw [Hnx.out]; exact Hlv2.out, Hr2.out, hcp2, hg2, by rw [Hnx.out]; exact HC.out, HB.out⟩
    ·
     have e2 : decide ((2 : Int) < (ln : Int)) = false := by simp; omega
     have h22 : ¬ 2 < leftN (m + c) (peels (bsT m L) (m + c) k) := by rw [← HGG.out, ← hln]; exact h2
     have hlv := Hlv.out; rw [HGG.out] at hlv; have hSm : ∀ j, j ∈ S ↔ TreeT.endT m c L j := fun j => Ht.out.end_mem hlv h22 hkn; have hSp := hlv.pos Ht.out.treeG (Ht.out.end_pos h22 hkn); have hSl := hlv.le; obtain ⟨x, hx⟩ : ∃ x, S[0]? = some x := ⟨_, List.getElem?_eq_getElem hSp⟩
     obtain ⟨kd, v, hkv⟩ : ∃ kd v, unT m x = (kd, v) := ⟨_, _, rfl⟩
     have cell : ∀ (i y a b : Nat), S[i]? = some y → unT m y = (a, b) → ∀ w', Row w' g 171 2 cp (pairCells (nodesF m S)) → w'.cell? ⟨g, i * 2, none⟩ = some (.int .i64 (a : Nat)) ∧ w'.cell? ⟨g, i * 2 + 1, none⟩ = some (.int .i64 (b : Nat)) := fun i y a b hy hab w' hr => by
      have hi := (List.getElem?_eq_some_iff.1 hy).1; have hSy : S[i] = y := (List.getElem?_eq_some_iff.1 hy).2; have h1 := hr.cell? (i * 2) (by rw [pairCells_length, nodesF_len]; omega); have h2 := hr.cell? (i * 2 + 1) (by rw [pairCells_length, nodesF_len]; omega); obtain ⟨g1', g2'⟩ := pairCells_get (nodesF m S) i (by rw [nodesF_len]; exact hi); rw [g1'] at h1; rw [g2'] at h2; simp only [nodesF, nodeP, List.getElem_map, hSy, hab] at h1 h2; exact ⟨h1, h2⟩
     obtain ⟨cx, cy⟩ := cell 0 x kd v hx hkv wr hrg; simp only [Nat.zero_mul, Nat.zero_add] at cx cy; have i1 : (0 : Int) < (S.length : Int) := by omega
     have hgl := hrg.lt; have hbb := bl_alloc wr (.cells #[.int .i64 kd, .int .i64 v] 171); have hrgb := hrg.below hbb hgl; have hBb := bl_trans hB hbb; have hix := indexB_walk g cp (nodesF m S) _ hrgb (by rw [nodesF_len]; omega); rw [nodesF_len] at hix; obtain ⟨z, hz⟩ : ∃ z, z = idxP (fun p => p.1 == 0) (nodesF m S) := ⟨_, rfl⟩
     rw [← hz] at hix; obtain ⟨j, hj, hcen, hzl⟩ := Ht.out.end_first hSm hz (List.length_pos_iff.1 hSp); have d0 : (wr.alloc (.cells #[.int .i64 kd, .int .i64 v] 171)).cell? ⟨wr.heap.size, 0, none⟩ = some (.int .i64 kd) := by simp
     have d1 : (wr.alloc (.cells #[.int .i64 kd, .int .i64 v] 171)).cell? ⟨wr.heap.size, 1, none⟩ = some (.int .i64 v) := by simp
     have df : ∀ i, (wr.alloc (.cells #[.int .i64 kd, .int .i64 v] 171)).frozen? ⟨wr.heap.size, i, none⟩ = false := fun i => by simp
     have hwl : wr.heap.size < (wr.alloc (.cells #[.int .i64 kd, .int .i64 v] 171)).heap.size := by simp
     have hwz := hB.size; have hw20 := HB2.out.size; have Hix := Lib.hid hix; have Hcen := Lib.hid hcen; have Hrgb := Lib.hid hrgb; have HBb := Lib.hid hBb; have Hj := Lib.hid hj; have Hcell := Lib.hid cell; have Hkv := Lib.hid hkv; have Hx := Lib.hid hx; have Hzl := Lib.hid hzl; have Hdf := Lib.hid df; clear hix hcen hrgb hBb hj cell hkv hx hzl hz hSm hSp hbb hrg hC hB hlv h22 h2 hln df; go_upto_region 34 with (fail)
     generalize wr.alloc (.cells #[.int .i64 kd, .int .i64 v] 171) = wb at *
     go_wp2_with fail; refine Hix.out.mono ?_; rintro e w9 ⟨rfl, hb9⟩; have d09 := keep_cell hb9 d0; have d19 := keep_cell hb9 d1; have hrg9 := Hrgb.out.below hb9 (by omega); have hB9 := bl_trans HBb.out hb9; have df9 : ∀ i, w9.frozen? ⟨wr.heap.size, i, none⟩ = false := fun i => (hb9.frozen (p := ⟨wr.heap.size, i, none⟩) hwl).trans (Hdf.out i); have HA2 := bl_trans HB2.out hB9; have Hrg9 := Lib.hid hrg9; have HAr := Lib.hid HA2; have Hb9 := Lib.hid hb9; clear hrg9 hB9 HA2 cx cy d0 d1 hb9; by_cases h0 : 0 ≤ z
     ·
      have hj := Hj.out; rw [if_pos h0] at hj; obtain ⟨i, hi⟩ : ∃ i : Nat, z = (i : Int) := ⟨z.toNat, by omega⟩
      subst hi; rw [Int.toNat_natCast] at hj; obtain ⟨ka, va, hab⟩ : ∃ ka va, unT m j = (ka, va) := ⟨_, _, rfl⟩
      obtain ⟨ci0, ci1⟩ := Hcell.out i j ka va hj hab w9 Hrg9.out; obtain ⟨r1, r2⟩ := un_res hab; have i2 : (i : Int) < (S.length : Int) := by have := Hzl.out h0; omega
      have hff0 := df9 0; have hff1 := df9 1; have Hr1 := Lib.hid r1; have Hr2' := Lib.hid r2; have Hdf9 := Lib.hid df9; clear hj hab r1 r2 df9; go_upto_region 37 with (fail)
      go_quiet (fail)
      go_wp2_with fail; go_ret2; refine ⟨j, Hcen.out, ?_, ?_⟩
      · rw [Hr1.out, Hr2'.out]; rfl
      · exact below_drewN ((HAr.out.setCell (p := ⟨wr.heap.size, 0, none⟩) (by show w.heap.size ≤ wr.heap.size; omega) _).setCell (p := ⟨wr.heap.size, 1, none⟩) (by show w.heap.size ≤ wr.heap.size; omega) _) nq
     ·
      have hj := Hj.out; rw [if_neg h0, Hx.out] at hj; cases hj; obtain ⟨r1, r2⟩ := un_res Hkv.out; have Hr1 := Lib.hid r1; have Hr2' := Lib.hid r2; have Hdf9 := Lib.hid df9; clear r1 r2 df9; go_upto_region 37 with (fail)
      go_quiet (fail)
      go_wp2_with fail; go_ret2; refine ⟨x, Hcen.out, ?_, ?_⟩
      · rw [Hr1.out, Hr2'.out]; rfl
      · exact below_drewN HAr.out nq
end Go.Proofs.YtagjdkkfmfombaaGreat
namespace Go.Proofs.YtagjdkkfmfombaaGreat
structure Hung (K : Nat) (bs : Nat → List Nat) (root : Nat) (up : Nat → Int) (dep : Nat → Nat) : Prop where
 rt : root < K
 upr : up root = -1
 dpr : dep root = 0
 par : ∀ k, k < K → k ≠ root → ∃ p : Nat, p < K ∧ up k = p ∧ p ∈ bs k ∧ dep k = dep p + 1
def updI (f : Nat → Int) (j : Nat) (v : Int) : Nat → Int := fun x => if x = j then v else f x
def updN (f : Nat → Nat) (j : Nat) (v : Nat) : Nat → Nat := fun x => if x = j then v else f x
def lkT (m a b : Nat) : Nat × Nat := if a < m then (a, b - m) else (b, a - m)
structure HgI (K : Nat) (bs : Nat → List Nat) (root : Nat) (up : Nat → Int) (dep : Nat → Nat) (S : List Nat) (i j : Nat) : Prop where
 nd : S.Nodup
 lt : ∀ x ∈ S, x < K
 head : S[0]? = some root
 upr : up root = -1
 dpr : dep root = 0
 le : i ≤ S.length
 par : ∀ r ∈ S, r ≠ root → ∃ p : Nat, up r = p ∧ p ∈ bs r ∧ dep r = dep p + 1 ∧ (p ∈ S.take i ∨ (S[i]? = some p ∧ r ∈ (bs p).take j))
 done : ∀ p ∈ S.take i, ∀ x ∈ bs p, x ∈ S
 cur : ∀ p, S[i]? = some p → ∀ x ∈ (bs p).take j, x ∈ S
 dp : ∀ (a : Nat) r, S[a]? = some r → dep r ≤ a
namespace HgI
variable {m c : Nat} {L : List (Nat × Nat)} {root i j : Nat} {up : Nat → Int} {dep : Nat → Nat} {S : List Nat}
theorem start {K : Nat} {bs : Nat → List Nat} (hr : root < K) (hu : up root = -1) (hd : dep root = 0) : HgI K bs root up dep [root] 0 0 :=
 ⟨by simp, fun x hx => by simp at hx; subst hx; exact hr, rfl, hu, hd, by simp, fun r hr hne => by simp at hr; exact absurd hr hne, fun p hp => by simp at hp, fun p _ x hx => by simp at hx, fun a r ha => by
  obtain rfl : r = root := by have := List.mem_of_getElem? ha; simpa using this
  omega⟩
theorem rootS {K : Nat} {bs : Nat → List Nat} (h : HgI K bs root up dep S i j) : root ∈ S := List.mem_of_getElem? h.head
theorem len {K : Nat} {bs : Nat → List Nat} (h : HgI K bs root up dep S i j) : S.length ≤ K := by
 have := nodup_len_le h.nd (m := List.range K) fun x hx => List.mem_range.2 (h.lt x hx)
 simpa using this
theorem par2 {K : Nat} {bs : Nat → List Nat} (h : HgI K bs root up dep S i j) {r : Nat} (hr : r ∈ S) (hne : r ≠ root) : ∃ p : Nat, p ∈ S ∧ up r = p ∧ p ∈ bs r ∧ dep r = dep p + 1 := by
 obtain ⟨p, h1, h2, h3, h4⟩ := h.par r hr hne
 refine ⟨p, ?_, h1, h2, h3⟩
 rcases h4 with h4 | h4
 · exact List.mem_of_mem_take h4
 · exact List.mem_of_getElem? h4.1
theorem lk_mem (ht : TreeT m c L) {a b : Nat} (h : a ∈ bsT m L b) : lkT m a b ∈ L := by
 have hL : ∀ p ∈ L, p.1 < m := fun p hp => (ht.lt p hp).1
 obtain ⟨p, hp, ⟨rfl, rfl⟩ | ⟨rfl, rfl⟩⟩ := (mem_bsT hL).1 h
 ·
  unfold lkT
  rw [if_neg (by omega), show m + p.2 - m = p.2 by omega]; exact hp
 ·
  unfold lkT
  rw [if_pos (hL p hp), show m + p.2 - m = p.2 by omega]; exact hp
theorem lk_inj (ht : TreeT m c L) {a b a' b' : Nat} (h : a ∈ bsT m L b) (h' : a' ∈ bsT m L b') (e : lkT m a b = lkT m a' b') : (a = a' ∧ b = b') ∨ (a = b' ∧ b = a') := by
 have k1 := ht.kinds h
 have k2 := ht.kinds h'
 unfold lkT at e
 by_cases h1 : a < m <;> by_cases h2 : a' < m
 ·
  rw [if_pos h1, if_pos h2] at e
  simp only [Prod.mk.injEq] at e
  omega
 ·
  rw [if_pos h1, if_neg h2] at e
  simp only [Prod.mk.injEq] at e
  omega
 ·
  rw [if_neg h1, if_pos h2] at e
  simp only [Prod.mk.injEq] at e
  omega
 ·
  rw [if_neg h1, if_neg h2] at e
  simp only [Prod.mk.injEq] at e
  omega
theorem fresh (h : HgI (m + c) (bsT m L) root up dep S i j) (ht : TreeT m c L) {k x : Nat} (hk : S[i]? = some k) (hx : (bsT m L k)[j]? = some x) (hux : (x : Int) ≠ up k) : x ∉ S := fun hxS => by
 have hkS : k ∈ S := List.mem_of_getElem? hk
 have hxk : x ∈ bsT m L k := List.mem_of_getElem? hx
 have hnj : x ∉ (bsT m L k).take j := fun hm => by
  obtain ⟨a, ha, hax⟩ := List.mem_take_iff_getElem.1 hm
  have e1 := idx_get (ht.treeG.nd k) hx
  have e2 := idx_get (ht.treeG.nd k) (i := a) (v := x) (by rw [List.getElem?_eq_getElem (by omega), hax])
  omega
 have hupx : x ≠ root → up x ≠ (k : Int) := fun hne e => by
  obtain ⟨p, h1, h2, h3, h4⟩ := h.par x hxS hne
  have hpk : p = k := by omega
  subst hpk
  rcases h4 with h4 | h4
  ·
   obtain ⟨a, ha, hak⟩ := List.mem_take_iff_getElem.1 h4
   have e1 := idx_get h.nd hk
   have e2 := idx_get h.nd (i := a) (v := p) (by rw [List.getElem?_eq_getElem (by omega), hak])
   omega
  · exact hnj h4.2
 let G : Nat → Bool := fun a => !decide (a ∈ S)
 have hG : ∀ a, G a = false ↔ a ∈ S := fun a => by simp [G]
 have hcount : leftN (m + c) G = S.length := by
  unfold leftN
  refine nodup_same (List.nodup_range.sublist List.filter_sublist) h.nd fun a => ?_
  rw [List.mem_filter, List.mem_range]
  constructor
  · rintro ⟨-, h2⟩; exact (hG a).1 (by simpa using h2)
  · intro h2; exact ⟨h.lt a h2, by rw [(hG a).2 h2]; rfl⟩
 have hlive : ∀ {a b : Nat}, a ∈ bsT m L b → a ∈ S → b ∈ S → lkT m a b ∈ L.filter (liveL m G) := fun {a b} hab ha hb => by
  refine List.mem_filter.2 ⟨lk_mem ht hab, ?_⟩
  have hkd := ht.kinds hab
  unfold liveL lkT
  by_cases e : a < m
  ·
   rw [if_pos e]; simp only [(hG a).2 ha]; rw [show m + (b - m) = b by omega, (hG b).2 hb]; rfl
  ·
   rw [if_neg e]; simp only [(hG b).2 hb]; rw [show m + (a - m) = a by omega, (hG a).2 ha]; rfl
 have hex : ∀ r, ∃ p : Nat, r ∈ S → r ≠ root → p ∈ S ∧ up r = p ∧ p ∈ bsT m L r ∧ dep r = dep p + 1 := fun r => by
  by_cases e : r ∈ S ∧ r ≠ root
  ·
   obtain ⟨p, hp⟩ := h.par2 e.1 e.2; exact ⟨p, fun _ _ => hp⟩
  · exact ⟨0, fun h1 h2 => absurd ⟨h1, h2⟩ e⟩
 obtain ⟨pr, hpr⟩ := Classical.axiomOfChoice hex
 have hf := inj_len (l := S) (m := L.filter (liveL m G)) (fun r => if r = root then lkT m x k else lkT m (pr r) r) h.nd (fun r hr r' hr' e => ?_) (fun r hr => ?_)
 ·
  have := ht.fewer (G := G) (by rw [hcount]; exact List.length_pos_iff.2 (List.ne_nil_of_mem hkS))
  omega
 ·
  
  have key : ∀ r, r ∈ S → r ≠ root → lkT m x k ≠ lkT m (pr r) r := fun r hr hne e => by
   obtain ⟨p1, p2, p3, p4⟩ := hpr r hr hne; rcases lk_inj ht hxk p3 e with ⟨e1, e2⟩ | ⟨e1, e2⟩
   ·
    subst e2; exact hux (by rw [e1, p2])
   ·
    subst e1; exact hupx hne (by rw [p2, e2])
  by_cases h1 : r = root <;> by_cases h2 : r' = root
  · rw [h1, h2]
  ·
   rw [if_pos h1, if_neg h2] at e; exact absurd e (key r' hr' h2)
  ·
   rw [if_neg h1, if_pos h2] at e; exact absurd e.symm (key r hr h1)
  ·
   rw [if_neg h1, if_neg h2] at e; obtain ⟨p1, p2, p3, p4⟩ := hpr r hr h1; obtain ⟨q1, q2, q3, q4⟩ := hpr r' hr' h2; rcases lk_inj ht p3 q3 e with ⟨e1, e2⟩ | ⟨e1, e2⟩
   · exact e2
   ·
    rw [e1] at p4; rw [← e2] at q4; omega
 ·
  by_cases h1 : r = root
  · rw [if_pos h1]; exact hlive hxk hxS hkS
  ·
   rw [if_neg h1]; obtain ⟨p1, p2, p3, p4⟩ := hpr r hr h1; exact hlive p3 p1 hr
theorem push (h : HgI (m + c) (bsT m L) root up dep S i j) (ht : TreeT m c L) {k x : Nat} (hk : S[i]? = some k) (hx : (bsT m L k)[j]? = some x) (hux : (x : Int) ≠ up k) :
  HgI (m + c) (bsT m L) root (updI up x k) (updN dep x (dep k + 1)) (S ++ [x]) i (j + 1) := by
 have hf := h.fresh ht hk hx hux
 have hkS : k ∈ S := List.mem_of_getElem? hk
 have hxk : x ∈ bsT m L k := List.mem_of_getElem? hx
 have hxr : x ≠ root := fun e => hf (e ▸ h.rootS)
 have hil := (List.getElem?_eq_some_iff.1 hk).1
 have htk : (S ++ [x]).take i = S.take i := by rw [List.take_append_of_le_length (by omega)]
 have hgi : (S ++ [x])[i]? = some k := by rw [List.getElem?_append_left hil]; exact hk
 have hne : ∀ p, p ∈ S → p ≠ x := fun p hp e => hf (e ▸ hp)
 have htj : ∀ y, y ∈ (bsT m L k).take (j + 1) ↔ y ∈ (bsT m L k).take j ∨ y = x := fun y => by
  rw [List.take_add_one, hx, List.mem_append]
  simp
 refine ⟨?_, fun y hy => ?_, ?_, ?_, ?_, by simp; omega, fun r hr hrr => ?_, fun p hp y hy => ?_, fun p hp y hy => ?_, fun a r ha => ?_⟩
 ·
  rw [List.nodup_append]
  exact ⟨h.nd, by simp, fun a ha b hb e => by simp at hb; exact hne a ha (e.trans hb)⟩
 ·
  rcases List.mem_append.1 hy with hy | hy
  · exact h.lt y hy
  · simp at hy; subst hy; exact ht.treeG.lt _ _ hxk
 ·
  have := h.head
  rw [List.getElem?_append_left (by omega)]; exact this
 · unfold updI; rw [if_neg (Ne.symm hxr)]; exact h.upr
 · unfold updN; rw [if_neg (Ne.symm hxr)]; exact h.dpr
 ·
  rcases List.mem_append.1 hr with hr | hr
  ·
   obtain ⟨p, h1, h2, h3, h4⟩ := h.par r hr hrr; have hpS : p ∈ S := by
    rcases h4 with h4 | h4
    · exact List.mem_of_mem_take h4
    · exact List.mem_of_getElem? h4.1
   refine ⟨p, ?_, h2, ?_, ?_⟩
   · unfold updI; rw [if_neg (hne r hr)]; exact h1
   · unfold updN; rw [if_neg (hne r hr), if_neg (hne p hpS)]; exact h3
   ·
    rw [htk, hgi]; rcases h4 with h4 | h4
    · exact .inl h4
    ·
     have : p = k := by rw [hk] at h4; exact (Option.some.inj h4.1).symm
     subst this; exact .inr ⟨rfl, (htj r).2 (.inl h4.2)⟩
  ·
   simp at hr; subst hr; refine ⟨k, by unfold updI; rw [if_pos rfl], ht.treeG.sym _ _ hxk, ?_, ?_⟩
   · unfold updN; rw [if_pos rfl, if_neg (hne k hkS)]
   · rw [hgi]; exact .inr ⟨rfl, (htj r).2 (.inr rfl)⟩
 ·
  rw [htk] at hp
  exact List.mem_append_left _ (h.done p hp y hy)
 ·
  rw [hgi] at hp
  cases hp
  rcases (htj y).1 hy with hy | hy
  · exact List.mem_append_left _ (h.cur k hk y hy)
  · subst hy; simp
 ·
  by_cases hal : a < S.length
  ·
   rw [List.getElem?_append_left hal] at ha; unfold updN; rw [if_neg (hne r (List.mem_of_getElem? ha))]; exact h.dp a r ha
  ·
   have hal2 := (List.getElem?_eq_some_iff.1 ha).1; have : a = S.length := by simp at hal2; omega
   subst this; rw [List.getElem?_append_right (Nat.le_refl _)] at ha; simp at ha; subst ha; have := h.dp i k hk; unfold updN; rw [if_pos rfl]; omega
theorem pass (h : HgI (m + c) (bsT m L) root up dep S i j) {k x : Nat} (hk : S[i]? = some k) (hx : (bsT m L k)[j]? = some x) (hux : (x : Int) = up k) : HgI (m + c) (bsT m L) root up dep S i (j + 1) := by
 have hkS : k ∈ S := List.mem_of_getElem? hk
 have htj : ∀ y, y ∈ (bsT m L k).take (j + 1) ↔ y ∈ (bsT m L k).take j ∨ y = x := fun y => by
  rw [List.take_add_one, hx, List.mem_append]
  simp
 have hkr : k ≠ root := fun e => by rw [e, h.upr] at hux; omega
 obtain ⟨p, hp, h1, -, -⟩ := h.par2 hkS hkr
 have hpx : p = x := by omega
 refine ⟨h.nd, h.lt, h.head, h.upr, h.dpr, h.le, fun r hr hrr => ?_, h.done, fun q hq y hy => ?_, h.dp⟩
 ·
  obtain ⟨p, a, b, d, e⟩ := h.par r hr hrr
  refine ⟨p, a, b, d, ?_⟩
  rcases e with e | e
  · exact .inl e
  ·
   have : p = k := by rw [hk] at e; exact (Option.some.inj e.1).symm
   subst this; exact .inr ⟨e.1, (htj r).2 (.inl e.2)⟩
 ·
  rw [hk] at hq
  cases hq
  rcases (htj y).1 hy with hy | hy
  · exact h.cur k hk y hy
  · subst hy; rw [← hpx]; exact hp
theorem next {K : Nat} {bs : Nat → List Nat} {k : Nat} (h : HgI K bs root up dep S i (bs k).length) (hk : S[i]? = some k) : HgI K bs root up dep S (i + 1) 0 := by
 have htk : ∀ y, y ∈ S.take (i + 1) ↔ y ∈ S.take i ∨ y = k := fun y => by
  rw [List.take_add_one, hk, List.mem_append]
  simp
 refine ⟨h.nd, h.lt, h.head, h.upr, h.dpr, (List.getElem?_eq_some_iff.1 hk).1, fun r hr hrr => ?_, fun p hp x hx => ?_, fun p _ x hx => by simp at hx, h.dp⟩
 ·
  obtain ⟨p, a, b, d, e⟩ := h.par r hr hrr
  refine ⟨p, a, b, d, .inl ((htk p).2 ?_)⟩
  rcases e with e | e
  · exact .inl e
  · rw [hk] at e; exact .inr (Option.some.inj e.1).symm
 ·
  rcases (htk p).1 hp with hp | hp
  · exact h.done p hp x hx
  ·
   subst hp; refine h.cur p hk x ?_; rw [List.take_length]; exact hx
theorem hung (h : HgI (m + c) (bsT m L) root up dep S S.length 0) (ht : TreeT m c L) : Hung (m + c) (bsT m L) root up dep := by
 have hL : ∀ p ∈ L, p.1 < m := fun p hp => (ht.lt p hp).1
 have hclosed : ∀ a b, a ∈ S → b ∈ bsT m L a → b ∈ S := fun a b ha hb => h.done a (by rw [List.take_length]; exact ha) b hb
 have hall : ∀ y, y < m + c → y ∈ S := fun y hy => ht.all (Z := (· ∈ S)) (fun p hp => ⟨fun hz => hclosed _ _ hz ((mem_bsT hL).2 ⟨p, hp, .inl ⟨rfl, rfl⟩⟩), fun hz => hclosed _ _ hz ((mem_bsT hL).2 ⟨p, hp, .inr ⟨rfl, rfl⟩⟩)⟩) (h.lt _ h.rootS) hy h.rootS
 refine ⟨h.lt _ h.rootS, h.upr, h.dpr, fun k hk hne => ?_⟩
 obtain ⟨p, h1, h2, h3, h4⟩ := h.par2 (hall k hk) hne
 exact ⟨p, h.lt p h1, h2, h3, h4⟩
end HgI
end Go.Proofs.YtagjdkkfmfombaaGreat
namespace Go.Proofs.YtagjdkkfmfombaaGreat
open Go Go.RowKit
structure BelX (B : Nat) (X : Addr → Prop) (w w' : World) : Prop where
 os : w'.os = w.os
 tape : w'.tape = w.tape
 output : w'.output = w.output
 size : w.heap.size ≤ w'.heap.size
 cell : ∀ a : Addr, a.block < B → ¬ X a → w'.cell? a = w.cell? a
 froz : ∀ a : Addr, a.block < B → ¬ X a → w'.frozen? a = w.frozen? a
 obj : ∀ k, k < B → (∀ o, ¬ X ⟨k, o, none⟩) → w'.heap[k]? = w.heap[k]?
namespace BelX
variable {B : Nat} {X Y : Addr → Prop} {a w w' : World}
theorem refl (B : Nat) (X : Addr → Prop) (w : World) : BelX B X w w := ⟨rfl, rfl, rfl, Nat.le_refl _, fun _ _ _ => rfl, fun _ _ _ => rfl, fun _ _ _ => rfl⟩
theorem trans (h : BelX B X a w) (k : BelX B X w w') : BelX B X a w' :=
 ⟨k.os.trans h.os, k.tape.trans h.tape, k.output.trans h.output, Nat.le_trans h.size k.size, fun p hp hx => (k.cell p hp hx).trans (h.cell p hp hx), fun p hp hx => (k.froz p hp hx).trans (h.froz p hp hx), fun p hp hx => (k.obj p hp hx).trans (h.obj p hp hx)⟩
theorem ofBelow (h : Below B a w) : BelX B X a w := ⟨h.os, h.tape, h.output, h.size, fun _ hp _ => h.cell hp, fun _ hp _ => h.frozen hp, fun k hk _ => h.block k hk⟩
theorem below (h : BelX B X a w) (hb : Below w.heap.size w w') (hB : B ≤ w.heap.size) : BelX B X a w' := h.trans (ofBelow (hb.mono hB))
theorem mono (h : BelX B X a w) (hX : ∀ p, X p → Y p) {B' : Nat} (hB : B' ≤ B) : BelX B' Y a w := ⟨h.os, h.tape, h.output, h.size, fun p hp hx => h.cell p (by omega) fun q => hx (hX p q), fun p hp hx => h.froz p (by omega) fun q => hx (hX p q), fun k hk hx => h.obj k (by omega) fun o q => hx o (hX _ q)⟩
theorem toBelow (h : BelX B X a w) {B' : Nat} (hB : B' ≤ B) (hX : ∀ p, X p → B' ≤ p.block) : Below B' a w :=
 ⟨h.os, h.tape, h.output, h.size, fun k hk => h.obj k (by omega) fun o q => by have := hX _ q; simp only at this; omega⟩
theorem setCell (h : BelX B X a w) {b o : Nat} (hp : B ≤ b ∨ X ⟨b, o, none⟩) (u : Value) : BelX B X a (w.setCell ⟨b, o, none⟩ u) := by
 refine h.trans ⟨rfl, rfl, rfl, by simp [World.setCell], fun q hq hx => ?_, fun q hq hx => World.frozen?_setCell .., fun k hk hx => ?_⟩
 ·
  refine World.cell?_setCell_other _ _ _ _ fun e => ?_
  rcases hp with hp | hp
  · rw [← e] at hq; simp only at hq; omega
  · exact hx (e ▸ hp)
 ·
  refine Below.heap_setCell _ _ _ _ fun e => ?_
  simp only at e
  rcases hp with hp | hp
  · omega
  · exact hx o (e ▸ hp)
theorem grown (h : BelX B X a w) {r : Option Nat} (hg : w.grownBy w' r) (hB : B ≤ w.heap.size) (hr : ∀ k, r = some k → B ≤ k ∨ ∀ o s, X ⟨k, o, s⟩) : BelX B X a w' := by
 have hne : ∀ q : Addr, q.block < B → ¬ X q → w'.heap[q.block]? = w.heap[q.block]? := fun q hq hx => hg.block _ (by omega) fun e => by
  rcases hr _ e.symm with h1 | h1
  · omega
  · exact hx (h1 q.off q.spot)
 exact h.trans ⟨hg.os, hg.tape, hg.output, hg.size, fun q hq hx => World.cell?_of_block (hne q hq hx), fun q hq hx => World.frozen?_of_block (hne q hq hx), fun k hk hx => hne ⟨k, 0, none⟩ hk (hx 0)⟩
theorem drewN (h : BelX B X a w) (n : Nat) : BelX B X a (w.drewN n) := ⟨h.os, h.tape, h.output, h.size, h.cell, h.froz, h.obj⟩
theorem drew (h : BelX B X a w) : BelX B X a w.drew := ⟨h.os, h.tape, h.output, h.size, h.cell, h.froz, h.obj⟩
theorem keep (h : BelX B X a w) {b o : Nat} {v : Value} (hb : b < B) (hx : ¬ X ⟨b, o, none⟩) (hc : a.cell? ⟨b, o, none⟩ = some v) : w.cell? ⟨b, o, none⟩ = some v := (h.cell _ hb hx).trans hc
theorem row (h : BelX B X a w) {g s cap : Nat} {e : TypeId} {vs : List Value} (hr : Row a g e s cap vs) (hb : g < B) (hx : ∀ o, ¬ X ⟨g, o, none⟩) : Row w g e s cap vs := hr.block (h.obj g hb hx)
theorem at_ (h : BelX B X a w) {p : Option Addr} {vs : List Value} (hc : CellsAt a p vs) (hb : ∀ b o, p = some ⟨b, o, none⟩ → b < B ∧ ∀ o, ¬ X ⟨b, o, none⟩) : CellsAt w p vs := fun i u hu => by
 obtain ⟨b, o, h1, h2⟩ := hc i u hu
 obtain ⟨h3, h4⟩ := hb b o h1
 exact ⟨b, o, h1, h.keep h3 (h4 _) h2⟩
end BelX
def intsF (n : Nat) (f : Nat → Int) : List Value := (List.range n).map fun i => Value.int .i64 (f i)
theorem intsF_len (n : Nat) (f : Nat → Int) : (intsF n f).length = n := by simp [intsF]
theorem intsF_get {n i : Nat} {f : Nat → Int} (h : i < n) : (intsF n f)[i]? = some (.int .i64 (f i)) := by simp [intsF, h]
theorem intsF_set {n j : Nat} (f : Nat → Int) (z : Int) : (intsF n f).set j (.int .i64 z) = intsF n (updI f j z) := by
 apply List.ext_getElem?
 intro i
 rw [List.getElem?_set, intsF_len]
 by_cases hi : i < n
 ·
  rw [intsF_get hi, intsF_get hi]
  unfold updI
  by_cases e : j = i
  · subst e; simp [hi]
  · rw [if_neg e, if_neg (Ne.symm e)]
 ·
  rw [List.getElem?_eq_none (l := intsF n f) (by rw [intsF_len]; omega), List.getElem?_eq_none (l := intsF n _) (by rw [intsF_len]; omega)]
  split
  · rw [if_neg (by omega)]
  · rfl
theorem intsF_zero (n : Nat) : intsF n (fun _ => 0) = List.replicate n (.int .i64 0) := by simp [intsF, List.eq_replicate_iff]
theorem Row.ints {w : World} {g n : Nat} {f : Nat → Int} (h : Row w g 3 1 n (intsF n f)) {i : Nat} (hi : i < n) : w.cell? ⟨g, i, none⟩ = some (.int .i64 (f i)) := by
 rw [h.cell? i (by rw [intsF_len]; exact hi)]; exact intsF_get hi
theorem Row.intSet {w : World} {g n : Nat} {f : Nat → Int} (h : Row w g 3 1 n (intsF n f)) (i : Nat) (z : Int) : Row (w.setCell ⟨g, i, none⟩ (.int .i64 z)) g 3 1 n (intsF n (updI f i z)) := by
 have := h.set i (.int .i64 z)
 rwa [intsF_set] at this
def inB (x y : Nat) (a : Addr) : Prop := a.block = x ∨ a.block = y
theorem updI_cast (f : Nat → Nat) (j v : Nat) : updI (fun k => (f k : Int)) j ((v : Int) + 1) = fun k => (updN f j (v + 1) k : Int) := by
 funext x
 unfold updI updN
 split <;> rfl
set_option maxRecDepth 100000 in
set_option maxHeartbeats 4000000 in
theorem hang_walk (m c n : Nat) (L : List (Nat × Nat)) (T gb gu gd root : Nat) (w : World) (hn : m + c = n) (ht : TreeT m c L) (hs : n ≤ 1000) (hroot : root < n)
  (t1 : w.cell? ⟨T, 1, none⟩ = some (.slice (some ⟨gb, 0, none⟩) n n)) (t2 : w.cell? ⟨T, 2, none⟩ = some (.int .i64 (root : Nat)))
  (t3 : w.cell? ⟨T, 3, none⟩ = some (.slice (some ⟨gu, 0, none⟩) n n)) (t4 : w.cell? ⟨T, 4, none⟩ = some (.slice (some ⟨gd, 0, none⟩) n n))
  (hbes : ∀ k, k < n → ∃ au cu, w.cell? ⟨gb, k, none⟩ = some (.slice au (bsT m L k).length cu) ∧ CellsAt w au ((bsT m L k).map vN) ∧ ∀ b o, au = some ⟨b, o, none⟩ → b < w.heap.size ∧ b ≠ gu ∧ b ≠ gd)
  (hu : Row w gu 3 1 n (intsF n fun _ => 0)) (hd : Row w gd 3 1 n (intsF n fun k => ((fun _ => 0 : Nat → Nat) k : Nat))) (hne : T ≠ gu ∧ T ≠ gd ∧ gb ≠ gu ∧ gb ≠ gd ∧ gu ≠ gd) :
  Calls Tryz.prog 59 #[.pointer (some ⟨T, 0, none⟩)] w fun e w' => e = .returned (.tuple #[]) ∧ ∃ up dep, Hung n (bsT m L) root up dep ∧ Row w' gu 3 1 n (intsF n up) ∧ Row w' gd 3 1 n (intsF n fun k => (dep k : Nat)) ∧ BelX w.heap.size (inB gu gd) w w' := by
 obtain ⟨n1, n2, n3, n4, n5⟩ := hne
 have hTl := World.block_lt_of_cell? w _ t1
 have hul := hu.lt
 have hdl := hd.lt
 simp only at hTl
 have cT : ∀ (i : Nat) v w', BelX w.heap.size (inB gu gd) w w' → w.cell? ⟨T, i, none⟩ = some v → w'.cell? ⟨T, i, none⟩ = some v := fun i v w' h hc => h.keep hTl (by rintro (e | e) <;> simp only at e <;> omega) hc
 have cB : ∀ (i : Nat) v w', BelX w.heap.size (inB gu gd) w w' → w.cell? ⟨gb, i, none⟩ = some v → w'.cell? ⟨gb, i, none⟩ = some v := fun i v w' h hc => h.keep (World.block_lt_of_cell? w _ hc) (by rintro (e | e) <;> simp only at e <;> omega) hc
 have hur : w.cell? ⟨gu, root, none⟩ = some (.int .i64 0) := hu.ints hroot
 have huf := hu.frozen root
 have i0 : (root : Int) < (n : Int) := by omega
 have hu1 := hu.intSet root (-1)
 have hX1 := ((BelX.refl w.heap.size (inB gu gd) w).setCell (b := gu) (o := root) (.inr (.inl rfl)) (.int .i64 (-1)))
 have hd1 := hd.other (a := ⟨gu, root, none⟩) (Ne.symm n5) (.int .i64 (-1))
 have HcT := Lib.hid cT; have HcB := Lib.hid cB; have Hu1 := Lib.hid hu1; have HX1 := Lib.hid hX1; have Hd1 := Lib.hid hd1; have Hbes := Lib.hid hbes; have Ht := Lib.hid ht; have Hn := Lib.hid hn
 clear cT cB hu1 hX1 hd1 hbes ht hu hd hn
 go_enter Tryz.func59, Tryz.ntmps59
 go_wp2_with fail
 refine regionT (fun w' => w'.cell? ⟨T, 3, none⟩ = some (.slice (some ⟨gu, 0, none⟩) n n) ∧ w'.cell? ⟨T, 2, none⟩ = some (.int .i64 (root : Nat))) 9 (by kernel_rfl) ?_
 have hS : w.drew.cell? ⟨T, 3, none⟩ = some (.slice (some ⟨gu, 0, none⟩) n n) ∧ w.drew.cell? ⟨T, 2, none⟩ = some (.int .i64 (root : Nat)) := ⟨t3, t2⟩
 refine tkT 0 ?_ rfl hS ?_ ?_ (by kernel_rfl) (fun _ _ _ h => h) (by rfl); rotate_left; (· intro wS hSw; (try dsimp only at hSw); go_simp; try with_reducible rfl); simp only [Act.put, zT]
 refine tkT 1 ?_ rfl hS ?_ ?_ (by kernel_rfl) (fun _ _ _ h => h) (by rfl); rotate_left; (· intro wS hSw; (try dsimp only at hSw); go_simp; try with_reducible rfl); simp only [Act.put, zT]
 refine tkT 2 ?_ rfl hS ?_ ?_ (by kernel_rfl) (fun _ _ _ h => h) (by rfl); rotate_left; (· intro wS hSw; (try dsimp only at hSw); go_simp; try with_reducible rfl); simp only [Act.put, zT]
 refine tkT 3 ?_ rfl hS ?_ ?_ (by kernel_rfl) (fun _ _ _ h => h) (by rfl); rotate_left; (· intro wS hSw; (try dsimp only at hSw); go_simp; try with_reducible rfl); simp only [Act.put, zT]
 refine tkT 4 ?_ rfl hS ?_ ?_ (by kernel_rfl) (fun _ _ _ h => h) (by rfl); rotate_left; (· intro wS hSw; (try dsimp only at hSw); go_simp; try with_reducible rfl); simp only [Act.put, zT]
 refine tkT 5 ?_ rfl hS ?_ ?_ (by kernel_rfl) (fun _ _ _ h => h) (by rfl); rotate_left; (· intro wS hSw; (try dsimp only at hSw); go_simp; try with_reducible rfl); simp only [Act.put, zT]
 refine tkT 6 ?_ rfl hS ?_ ?_ (by kernel_rfl) (fun _ _ _ h => h) (by rfl); rotate_left; (· intro wS hSw; (try dsimp only at hSw); go_simp; try with_reducible rfl); simp only [Act.put, zT]
 refine tkT 7 ?_ rfl hS ?_ ?_ (by kernel_rfl) (fun _ _ _ h => h) (by rfl); rotate_left; (· intro wS hSw; (try dsimp only at hSw); go_simp; try with_reducible rfl); simp only [Act.put, zT]
 refine tkT 8 ?_ rfl hS ?_ ?_ (by kernel_rfl) (fun _ _ _ h => h) (by rfl); rotate_left; (· intro wS hSw; (try dsimp only at hSw); go_simp; try with_reducible rfl); simp only [Act.put, zT]
 refine oneT (i := 9) rfl (by kernel_rfl) (fun K hK => ?_)
 go_simp
 refine hK _ _ (fun h => absurd h (by omega)) ?_
 clear hK K
 refine doneT (by kernel_rfl) ?_ _
 have c2 := HcT.out 2 _ _ HX1.out t2
 have hXa := (HX1.out.below (bl_alloc _ (.cells #[.int .i64 (root : Nat)] 3)) (by simp)).drew
 have hua := (Hu1.out.alloc (.cells #[.int .i64 (root : Nat)] 3)).drew
 have hda := (Hd1.out.alloc (.cells #[.int .i64 (root : Nat)] 3)).drew
 have hra : Row ((w.setCell ⟨gu, root, none⟩ (.int .i64 (-1))).alloc (.cells #[.int .i64 (root : Nat)] 3)).drew w.heap.size 3 1 1 ([root].map vN) := by
  have := (row_lit (w.setCell ⟨gu, root, none⟩ (.int .i64 (-1))) [.int .i64 (root : Nat)] 3 (by simp [maxLen])).drew
  rw [show (w.setCell ⟨gu, root, none⟩ (.int .i64 (-1))).heap.size = w.heap.size by simp] at this
  exact this
 have hst : HgI n (bsT m L) root (updI (fun _ => 0) root (-1)) (fun _ => 0) [root] 0 0 := HgI.start hroot (by simp [updI]) rfl
 have HXa := Lib.hid hXa; have Hua := Lib.hid hua; have Hda := Lib.hid hda; have Hra := Lib.hid hra; have Hst := Lib.hid hst
 clear hXa hua hda hra hst HX1 Hu1 Hd1 hS hur huf c2
 go_upto_region 3 with (fail)
 go_loopg [2, 3] n (fun r sv iv wj => ∃ (i g cp : Nat) (S : List Nat) (up : Nat → Int) (dep : Nat → Nat), i + r = n ∧ iv = .int .i64 (i : Nat) ∧ sv = .slice (some ⟨g, 0, none⟩) S.length cp ∧ Row wj g 3 1 cp (S.map vN) ∧ w.heap.size ≤ g ∧ HgI n (bsT m L) root up dep S i 0 ∧ Row wj gu 3 1 n (intsF n up) ∧ Row wj gd 3 1 n (intsF n fun k => (dep k : Nat)) ∧ BelX w.heap.size (inB gu gd) w wj)
 case atStart => exact ⟨0, w.heap.size, 1, [root], _, fun _ => 0, by omega, rfl, rfl, Hra.out, Nat.le_refl _, Hst.out, Hua.out, Hda.out, HXa.out⟩
 case round =>
  clear HXa Hua Hda Hra Hst
  obtain ⟨i, g, cp, S, up, dep, hi, rfl, rfl, hr, hg, hI, hu, hd, hX⟩ := hrel
  have hSn := hI.len
  have hle := hI.le
  have Hi := Lib.hid hi
  by_cases hil : i < S.length
  ·
   obtain ⟨k, hk⟩ : ∃ k, S[i]? = some k := ⟨_, List.getElem?_eq_getElem hil⟩
   have hkn := hI.lt k (List.mem_of_getElem? hk); have ck : wr.cell? ⟨g, i, none⟩ = some (.int .i64 (k : Nat)) := by
    rw [hr.cell? i (by rw [List.length_map]; exact hil), List.getElem?_map, hk]; rfl
   obtain ⟨au, cu, hcb, hau, hne⟩ := Hbes.out k hkn; have cb := HcB.out _ _ _ hX hcb; have c1 := HcT.out 1 _ _ hX t1; have i1 : (i : Int) < (S.length : Int) := by omega
   have i2 : (k : Int) < (n : Int) := by omega
   have hbl : (bsT m L k).length ≤ n := by
    have := nodup_len_le (Ht.out.treeG.nd k) (m := List.range n) fun x hx => List.mem_range.2 (by have := Ht.out.treeG.lt _ _ hx; have := Hn.out; omega); simpa using this
   have Hk := Lib.hid hk; have Hau := Lib.hid hau; have Hne := Lib.hid hne; have HI := Lib.hid hI; have Hr := Lib.hid hr; have Hu := Lib.hid hu; have Hd := Lib.hid hd; have HX := Lib.hid hX; clear hi hk hau hne hI hr hu hd hX hcb hil hle hSn; obtain ⟨gko, hgko⟩ : ∃ g, g = gk := ⟨_, rfl⟩
   have Hgko := Lib.hid hgko; clear hgko; go_upto_region 7 with (fail)
   go_loopg [2, 39] (bsT m L k).length (fun r sv iv wj => ∃ (j g cp : Nat) (S : List Nat) (up : Nat → Int) (dep : Nat → Nat), j + r = (bsT m L k).length ∧ iv = .int .i64 (j : Nat) ∧ sv = .slice (some ⟨g, 0, none⟩) S.length cp ∧ Row wj g 3 1 cp (S.map vN) ∧ w.heap.size ≤ g ∧ S[i]? = some k ∧ HgI n (bsT m L) root up dep S i j ∧ Row wj gu 3 1 n (intsF n up) ∧ Row wj gd 3 1 n (intsF n fun k => (dep k : Nat)) ∧ BelX w.heap.size (inB gu gd) w wj)
   case atStart => exact ⟨0, g, cp, S, up, dep, by omega, rfl, rfl, Hr.out, hg, Hk.out, HI.out, Hu.out, Hd.out, HX.out⟩
   case round =>
    clear HI Hr Hu Hd HX hg ck cb c1 Hk i1; obtain ⟨j, g, cp, S, up, dep, hj, rfl, rfl, hr, hg, hk, hI, hu, hd, hX⟩ := hrel; have Hj := Lib.hid hj; by_cases hjl : j < (bsT m L k).length
    ·
     obtain ⟨x, hx⟩ : ∃ x, (bsT m L k)[j]? = some x := ⟨_, List.getElem?_eq_getElem hjl⟩
     have hxn : x < n := by have := Ht.out.treeG.lt _ _ (List.mem_of_getElem? hx); have := Hn.out; omega
     obtain ⟨b, o, hab, cX0⟩ := (hX.at_ Hau.out fun b o e => ⟨(Hne.out b o e).1, fun o' => by
      have := Hne.out b o e
      rintro (e2 | e2) <;> simp only at e2 <;> omega⟩) j (vN x) (by rw [List.getElem?_map, hx]; rfl)
     subst hab; have cX : wr.cell? ⟨b, o + j, none⟩ = some (.int .i64 (x : Nat)) := cX0; have c3 := HcT.out 3 _ _ hX t3; have c4 := HcT.out 4 _ _ hX t4; have cu := hu.ints hkn; have cd := hd.ints hkn; have cux := hu.ints hxn; have cdx := hd.ints hxn; have fux := hu.frozen x; have fdx := hd.frozen x; have hSn := hI.len; have i1 : (j : Int) < ((bsT m L k).length : Int) := by omega
     have i3 : (x : Int) < (n : Int) := by omega
     obtain ⟨uk, huk⟩ : ∃ u, u = up k := ⟨_, rfl⟩
     rw [← huk] at cu; have Hx := Lib.hid hx; have Hk := Lib.hid hk; have HI := Lib.hid hI; have Hr := Lib.hid hr; have Hu := Lib.hid hu; have Hd := Lib.hid hd; have HX := Lib.hid hX; have Huk := Lib.hid huk; clear hj hx hk hI hr hu hd hX huk cX0; by_cases hux : (x : Int) = uk
     ·
      have e1 : ((x : Int) != uk) = false := by simp [hux]
      have hI2 := HI.out; rw [← Hn.out] at hI2; have hI3 := hI2.pass Hk.out Hx.out (by rw [← Huk.out]; exact hux); rw [Hn.out] at hI3; have HI3 := Lib.hid hI3; clear hI2 hI3 hux; go_wp2_with fail; go_roundg (gk - 1)
      case measure => have := Hj.out; omega
      case rel => exact ⟨j + 1, g, cp, S, up, dep, by have := Hj.out; omega, by go_num, rfl, Hr.out, hg, Hk.out, HI3.out, Hu.out, Hd.out, HX.out⟩
     ·
      have e1 : ((x : Int) != uk) = true := by simp [hux]
      have hI2 := HI.out; rw [← Hn.out] at hI2; have hf := hI2.fresh Ht.out Hk.out Hx.out (by rw [← Huk.out]; exact hux); have hI3 := hI2.push Ht.out Hk.out Hx.out (by rw [← Huk.out]; exact hux); rw [Hn.out] at hI3; have hkx : k ≠ x := fun e => hf (e ▸ List.mem_of_getElem? Hk.out); have hdk : dep k ≤ n := by have := hI2.dp i k Hk.out; have := (List.getElem?_eq_some_iff.1 Hk.out).1; omega
      have hwrap : IntKind.i64.wrap ((dep k : Int) + 1) = (dep k : Int) + 1 := IntWalk.i64_in _ (by omega); have cd1 : (wr.setCell ⟨gu, x, none⟩ (.int .i64 (k : Nat))).cell? ⟨gd, k, none⟩ = some (.int .i64 (dep k : Nat)) := (World.cell?_setCell_far _ _ _ _ (by simp; omega)).trans cd; have cdx1 : (wr.setCell ⟨gu, x, none⟩ (.int .i64 (k : Nat))).cell? ⟨gd, x, none⟩ = some (.int .i64 (dep x : Nat)) := (World.cell?_setCell_far _ _ _ _ (by simp; omega)).trans cdx; have c31 : (wr.setCell ⟨gu, x, none⟩ (.int .i64 (k : Nat))).cell? ⟨T, 3, none⟩ = some (.slice (some ⟨gu, 0, none⟩) n n) := (World.cell?_setCell_far _ _ _ _ (by simp; omega)).trans c3; have c41 : (wr.setCell ⟨gu, x, none⟩ (.int .i64 (k : Nat))).cell? ⟨T, 4, none⟩ = some (.slice (some ⟨gd, 0, none⟩) n n) := (World.cell?_setCell_far _ _ _ _ (by simp; omega)).trans c4; have hu1 := (Hu.out.intSet x (k : Nat)).other (a := ⟨gd, x, none⟩) n5 (.int .i64 ((dep k : Int) + 1)) |>.drew
      have hd1 := (Hd.out.other (a := ⟨gu, x, none⟩) (Ne.symm n5) (.int .i64 (k : Nat))).intSet x ((dep k : Int) + 1) |>.drew
      rw [updI_cast] at hd1; have hr1 := (Hr.out.other (a := ⟨gu, x, none⟩) (by simp only; omega) (.int .i64 (k : Nat))).other (a := ⟨gd, x, none⟩) (by simp only; omega) (.int .i64 ((dep k : Int) + 1)) |>.drew
      have hX1 := (HX.out.setCell (b := gu) (o := x) (.inr (.inl rfl)) (.int .i64 (k : Nat))).setCell (b := gd) (o := x) (.inr (.inr rfl)) (.int .i64 ((dep k : Int) + 1)) |>.drew
      have HI3 := Lib.hid hI3; have Hu1 := Lib.hid hu1; have Hd1 := Lib.hid hd1; have Hr1 := Lib.hid hr1; have HX1 := Lib.hid hX1; clear hI2 hI3 hf hux hu1 hd1 hr1 hX1 Hu Hd Hr HX; go_wp2_with fail; refine regionT (fun w' => w'.cell? ⟨T, 3, none⟩ = some (.slice (some ⟨gu, 0, none⟩) n n) ∧ w'.cell? ⟨T, 4, none⟩ = some (.slice (some ⟨gd, 0, none⟩) n n) ∧ w'.cell? ⟨gd, k, none⟩ = some (.int .i64 (dep k : Nat))) 21 (by kernel_rfl) ?_; have hS : wr.drew.cell? ⟨T, 3, none⟩ = some (.slice (some ⟨gu, 0, none⟩) n n) ∧ wr.drew.cell? ⟨T, 4, none⟩ = some (.slice (some ⟨gd, 0, none⟩) n n) ∧ wr.drew.cell? ⟨gd, k, none⟩ = some (.int .i64 (dep k : Nat)) := ⟨c3, c4, cd⟩
      refine tkT 0 ?_ rfl hS ?_ ?_ (by kernel_rfl) (fun _ _ _ h => h) (by rfl); rotate_left; (· intro wS hSw; (try dsimp only at hSw); go_simp; try with_reducible rfl); simp only [Act.put, zT]; refine tkT 1 ?_ rfl hS ?_ ?_ (by kernel_rfl) (fun _ _ _ h => h) (by rfl); rotate_left; (· intro wS hSw; (try dsimp only at hSw); go_simp; try with_reducible rfl); simp only [Act.put, zT]; refine tkT 2 ?_ rfl hS ?_ ?_ (by kernel_rfl) (fun _ _ _ h => h) (by rfl); rotate_left; (· intro wS hSw; (try dsimp only at hSw); go_simp; try with_reducible rfl); simp only [Act.put, zT]; refine tkT 3 ?_ rfl hS ?_ ?_ (by kernel_rfl) (fun _ _ _ h => h) (by rfl); rotate_left; (· intro wS hSw; (try dsimp only at hSw); go_simp; try with_reducible rfl); simp only [Act.put, zT]; refine tkT 4 ?_ rfl hS ?_ ?_ (by kernel_rfl) (fun _ _ _ h => h) (by rfl); rotate_left; (· intro wS hSw; (try dsimp only at hSw); go_simp; try with_reducible rfl); simp only [Act.put, zT]; refine tkT 5 ?_ rfl hS ?_ ?_ (by kernel_rfl) (fun _ _ _ h => h) (by rfl); rotate_left; (· intro wS hSw; (try dsimp only at hSw); go_simp; try with_reducible rfl); simp only [Act.put, zT]; refine tkT 6 ?_ rfl hS ?_ ?_ (by kernel_rfl) (fun _ _ _ h => h) (by rfl); rotate_left; (· intro wS hSw; (try dsimp only at hSw); go_simp; try with_reducible rfl); simp only [Act.put, zT]; refine tkT 7 ?_ rfl hS ?_ ?_ (by kernel_rfl) (fun _ _ _ h => h) (by rfl); rotate_left; (· intro wS hSw; (try dsimp only at hSw); go_simp; try with_reducible rfl); simp only [Act.put, zT]
      refine tkT 8 ?_ rfl hS ?_ ?_ (by kernel_rfl) (fun _ _ _ h => h) (by rfl); rotate_left; (· intro wS hSw; (try dsimp only at hSw); go_simp; try with_reducible rfl); simp only [Act.put, zT]; refine tkT 9 ?_ rfl hS ?_ ?_ (by kernel_rfl) (fun _ _ _ h => h) (by rfl); rotate_left; (· intro wS hSw; (try dsimp only at hSw); go_simp; try with_reducible rfl); simp only [Act.put, zT]; refine tkT 10 ?_ rfl hS ?_ ?_ (by kernel_rfl) (fun _ _ _ h => h) (by rfl); rotate_left; (· intro wS hSw; (try dsimp only at hSw); go_simp; try with_reducible rfl); simp only [Act.put, zT]; refine tkT 11 ?_ rfl hS ?_ ?_ (by kernel_rfl) (fun _ _ _ h => h) (by rfl); rotate_left; (· intro wS hSw; (try dsimp only at hSw); go_simp; try with_reducible rfl); simp only [Act.put, zT]; refine tkT 12 ?_ rfl hS ?_ ?_ (by kernel_rfl) (fun _ _ _ h => h) (by rfl); rotate_left; (· intro wS hSw; (try dsimp only at hSw); go_simp; try with_reducible rfl); simp only [Act.put, zT]; refine tkT 13 ?_ rfl hS ?_ ?_ (by kernel_rfl) (fun _ _ _ h => h) (by rfl); rotate_left; (· intro wS hSw; (try dsimp only at hSw); go_simp; try with_reducible rfl); simp only [Act.put, zT]; refine tkT 14 ?_ rfl hS ?_ ?_ (by kernel_rfl) (fun _ _ _ h => h) (by rfl); rotate_left; (· intro wS hSw; (try dsimp only at hSw); go_simp; try with_reducible rfl); simp only [Act.put, zT]; refine tkT 15 ?_ rfl hS ?_ ?_ (by kernel_rfl) (fun _ _ _ h => h) (by rfl); rotate_left; (· intro wS hSw; (try dsimp only at hSw); go_simp; try with_reducible rfl); simp only [Act.put, zT]
      refine tkT 16 ?_ rfl hS ?_ ?_ (by kernel_rfl) (fun _ _ _ h => h) (by rfl); rotate_left; (· intro wS hSw; (try dsimp only at hSw); go_simp; try with_reducible rfl); simp only [Act.put, zT]; refine tkT 17 ?_ rfl hS ?_ ?_ (by kernel_rfl) (fun _ _ _ h => h) (by rfl); rotate_left; (· intro wS hSw; (try dsimp only at hSw); go_simp; try with_reducible rfl); simp only [Act.put, zT]; refine tkT 18 ?_ rfl hS ?_ ?_ (by kernel_rfl) (fun _ _ _ h => h) (by rfl); rotate_left; (· intro wS hSw; (try dsimp only at hSw); go_simp; try with_reducible rfl); simp only [Act.put, zT]; refine tkT 19 ?_ rfl hS ?_ ?_ (by kernel_rfl) (fun _ _ _ h => h) (by rfl); rotate_left; (· intro wS hSw; (try dsimp only at hSw); go_simp; try with_reducible rfl); simp only [Act.put, zT]; refine oneT (i := 20) rfl (by kernel_rfl) (fun K hK => ?_); go_simp; refine hK _ _ (fun _ => ⟨c31, c41, cd1⟩) ?_; clear hK K; refine oneT (i := 21) rfl (by kernel_rfl) (fun K hK => ?_); go_simp; refine hK _ _ (fun h => absurd h (by omega)) ?_; clear hK K; refine oneT (i := 22) rfl (by kernel_rfl) (fun K hK => ?_); go_simp; refine hK _ _ (fun h => absurd h (by omega)) ?_; clear hK K; refine doneT (by kernel_rfl) ?_ _; clear hS c31 c41 cd1 cdx1 cux cdx fux fdx hwrap cu cd c3 c4 cX; generalize ((wr.setCell ⟨gu, x, none⟩ (.int .i64 (k : Nat))).setCell ⟨gd, x, none⟩ (.int .i64 ((dep k : Int) + 1))).drew = ws at *
      have hws := HX1.out.size; have hgs := Hr1.out.lt; have hSl := HI3.out.len; rw [List.length_append, List.length_singleton] at hSl; have hAl := (Hr1.out.own1).alloc (.cells #[.int .i64 (x : Nat)] 3); rw [List.length_map] at hAl; have hua := (Hu1.out.alloc (.cells #[.int .i64 (x : Nat)] 3))
      have hda := (Hd1.out.alloc (.cells #[.int .i64 (x : Nat)] 3))
      have hXa := HX1.out.below (bl_alloc _ (.cells #[.int .i64 (x : Nat)] 3)) hws; have hsl1 : (S.map vN).length = S.length := by simp
      have Hua := Lib.hid hua; have Hda := Lib.hid hda; have HXa := Lib.hid hXa; have HAl := Lib.hid hAl; clear hua hda hXa hAl Hu1 Hd1 Hr1 HX1; go_wp2_with (at_builtin; go_loud (refine wpList_append_row _ rfl (.tmp 73) (.tmp 75) 25 rfl 3 (.int .i64 0) 1 8 Tryz.underlying25 int_info rfl (.slice (some ⟨g, 0, none⟩) S.length cp) S.length _ rfl HAl.out ⟨ws.heap.size, 0, none⟩ 1 1 [.int .i64 (x : Nat)] rfl rfl (one_new (by simp)) (one_ok _ _) (by omega) (by unfold maxLen; omega) (by omega) ?_; intro g5 c5 w5 hr5 hc5 hg5 hor5)); have hyg : w.heap.size ≤ g5 := by
       rcases hor5 with h | h
       · cases h; exact hg
       · simp at h; omega
      have hu5 := Hua.out.grown hg5 (by simp [Value.ownBlock]; omega); have hd5 := Hda.out.grown hg5 (by simp [Value.ownBlock]; omega); have hX5 := HXa.out.grown hg5 (by simp; omega) (fun q hq => by cases hq; exact .inl hg); have hr6 : Row w5 g5 3 1 c5 ((S ++ [x]).map vN) := by
       rw [List.map_append]; exact hr5
      have Hu5 := Lib.hid hu5; have Hd5 := Lib.hid hd5; have HX5 := Lib.hid hX5; have Hr6 := Lib.hid hr6; clear hu5 hd5 hX5 hr6 hr5 hg5 hor5; go_wp2_with fail; go_roundg (gk - 1)
      case measure => have := Hj.out; omega
      case rel => exact ⟨j + 1, g5, c5, S ++ [x], _, _, by have := Hj.out; omega, by go_num, by simp, Hr6.out, hyg, by rw [List.getElem?_append_left (List.getElem?_eq_some_iff.1 Hk.out).1]; exact Hk.out, HI3.out, Hu5.out, Hd5.out, HX5.out⟩
    ·
     have hjn : j = (bsT m L k).length := by omega
     rw [hjn] at hI; have hI2 := hI.next hk; have HI2 := Lib.hid hI2; have Hr := Lib.hid hr; have Hu := Lib.hid hu; have Hd := Lib.hid hd; have HX := Lib.hid hX; have hSn := hI.len; have hiS := (List.getElem?_eq_some_iff.1 hk).1; clear hI hI2 hr hu hd hX hk hj Hj; go_wp2_with fail; go_roundg (gko - 1)
     case measure => have := Hi.out; have := Hgko.out; have := HI2.out.le; omega
     case rel => exact ⟨i + 1, g, cp, S, up, dep, by have := Hi.out; have := Hgko.out; have := HI2.out.le; omega, (by have := HI2.out.le; go_num), rfl, Hr.out, hg, HI2.out, Hu.out, Hd.out, HX.out⟩
  ·
   have hin : i = S.length := by omega
   subst hin; have hI2 := hI; rw [← Hn.out] at hI2; have hH := hI2.hung Ht.out; rw [Hn.out] at hH; have HH := Lib.hid hH; have Hu := Lib.hid hu; have Hd := Lib.hid hd; have HX := Lib.hid hX; clear hI hI2 hH hu hd hX hr hi; go_wp2_with fail; go_end0; exact ⟨rfl, up, dep, HH.out, Hu.out, Hd.out, HX.out⟩
end Go.Proofs.YtagjdkkfmfombaaGreat
namespace Go.Proofs.YtagjdkkfmfombaaGreat
open Go Go.RowKit Go.Sort
theorem risB_place {u : List (List Int)} (h : RisB u) {p i : Nat} (hp : p < u.length) (hi : i < u.length) : lessB u[i] u[p] ↔ i < p := by
 have key : ∀ a b (ha : a < u.length) (hb : b < u.length), a < b → lessB u[a] u[b] := fun a b ha hb hab => List.pairwise_iff_getElem.1 h a b ha hb hab
 constructor
 ·
  intro hl
  rcases Nat.lt_trichotomy i p with e | e | e
  · exact e
  · subst e; exact absurd hl (lessB_irr _)
  · exact absurd (lessB_trans hl (key p i hp hi e)) (lessB_irr _)
 · exact key i p hi hp
set_option maxHeartbeats 2000000 in
theorem searchB_walk (g cap p : Nat) (ts : List Ky) (a : Option Addr) (ca : Nat) (x : List Int) (w : World) (h : KyI w g cap ts) (hsz : ts.length ≤ 100000) (hris : RisB (kyB ts)) (hp : (kyB ts)[p]? = some x) (hx : CellsAt w a (x.map byteV)) (hxl : x.length ≤ 1000000) :
  Calls Tryz.prog 67 #[.slice (some ⟨g, 0, none⟩) ts.length cap, .slice a x.length ca, .func (.func 61) #[] #[]] w
   fun e w' => e = .returned (.tuple #[.int .i64 (p : Nat), .bool true]) ∧ w' = w := by
 have hpl : p < ts.length := by have := (List.getElem?_eq_some_iff.1 hp).1; rw [kyB_len] at this; exact this
 have H := Lib.hid h; have Hx := Lib.hid hx; have Hris := Lib.hid hris; have Hp := Lib.hid hp
 clear h hx hris hp
 go_enter Tryz.func67, Tryz.ntmps67
 go_wp2_with fail
 go_loopg [9, 10] (ts.length + 1) (fun r vi vj wr => ∃ (i j : Nat), vi = .int .i64 (i : Nat) ∧ vj = .int .i64 (j : Nat) ∧ i ≤ p ∧ p ≤ j ∧ j ≤ ts.length ∧ j - i < r ∧ wr = w)
 case atStart => exact ⟨0, ts.length, rfl, rfl, by omega, by omega, by omega, by omega, rfl⟩
 case round =>
  obtain ⟨i, j, rfl, rfl, hip, hpj, hj, hgk, rfl⟩ := hrel
  by_cases hlt : i < j
  ·
   obtain ⟨m, hm⟩ : ∃ h, h = (i + j) / 2 := ⟨_, rfl⟩
   have h1 : i ≤ m := by omega
   have h2 : m < j := by omega
   have h3 : m < ts.length := by omega
   have cm : wr.cell? ⟨g, m, none⟩ = some (.slice ts[m].2.1 ts[m].1.length ts[m].2.2) := by
    rw [H.out.row.cell? m (by simpa using h3), List.getElem?_map, List.getElem?_eq_getElem h3]; rfl
   have hR := H.out.each ts[m] (List.getElem_mem h3); have hcmp : cmpB ts[m].1 x < 0 ↔ m < p := by
    rw [cmpB_neg]; have h4 : m < (kyB ts).length := by rw [kyB_len]; exact h3
    have h5 := risB_place Hris.out (p := p) (i := m) (List.getElem?_eq_some_iff.1 Hp.out).1 h4; rw [(List.getElem?_eq_some_iff.1 Hp.out).2] at h5; have h6 : (kyB ts)[m] = ts[m].1 := by simp [kyB]
    rw [h6] at h5; exact h5
   obtain ⟨⟨kb, ka, kc⟩, hk⟩ : ∃ z : Ky, z = ts[m] := ⟨_, rfl⟩
   rw [← hk] at cm hR hcmp; simp only at cm hcmp; have hcw := cmpF_walk ka a kc ca kb x wr hR.1 Hx.out hR.2.1 hxl; obtain ⟨z, hz⟩ : ∃ z, z = cmpB kb x := ⟨_, rfl⟩
   rw [← hz] at hcmp hcw; have Hcw := Lib.hid hcw; have Hcmp := Lib.hid hcmp; have i4 : (m : Int) < (ts.length : Int) := by omega
   have hhi2 : ((i : Int) + (j : Int)) / 2 = (m : Int) := by omega
   clear hcw hcmp hz hk hR hm; go_upto_region 5 with (fail)
   go_wp2_with fail; refine Hcw.out.mono ?_; rintro e w' ⟨rfl, rfl⟩; by_cases hzn : z < 0
   ·
    have hmp := Hcmp.out.1 hzn; go_wp2_with fail; go_roundg (gk - 1)
    case measure => omega
    case rel => exact ⟨m + 1, j, by go_num, rfl, by omega, hpj, hj, by omega, rfl⟩
   ·
    have hmp : ¬ m < p := fun h => hzn (Hcmp.out.2 h); go_wp2_with fail; go_roundg (gk - 1)
    case measure => omega
    case rel => exact ⟨i, m, rfl, rfl, hip, by omega, by omega, by omega, rfl⟩
  ·
   have hi : i = p := by omega
   subst hi; have cm : wr.cell? ⟨g, i, none⟩ = some (.slice ts[i].2.1 ts[i].1.length ts[i].2.2) := by
    rw [H.out.row.cell? i (by simpa using hpl), List.getElem?_map, List.getElem?_eq_getElem hpl]; rfl
   have hR := H.out.each ts[i] (List.getElem_mem hpl); have hxi : ts[i].1 = x := by
    have := Hp.out; simp only [kyB, List.getElem?_map, List.getElem?_eq_getElem hpl, Option.map_some, Option.some.injEq] at this; exact this
   obtain ⟨⟨kb, ka, kc⟩, hk⟩ : ∃ z : Ky, z = ts[i] := ⟨_, rfl⟩
   rw [← hk] at cm hR hxi; simp only at cm hxi; have hcw := cmpF_walk ka a kc ca kb x wr hR.1 Hx.out hR.2.1 hxl; rw [(cmpB_zero kb x).2 hxi] at hcw; have Hcw := Lib.hid hcw; have i4 : (i : Int) < (ts.length : Int) := by omega
   clear hcw hk hR hxi; go_wp2_with fail; refine Hcw.out.mono ?_; rintro e w' ⟨rfl, rfl⟩; go_wp2_with fail; go_ret2; exact ⟨rfl, rfl⟩
end Go.Proofs.YtagjdkkfmfombaaGreat
namespace Go.Proofs.YtagjdkkfmfombaaGreat
open Go Go.RowKit
structure Kt where
 m : Nat
 n : Nat
 bs : Nat → List Nat
 root : Nat
 up : Nat → Int
 dep : Nat → Nat
 ex : Nat → Nat
 ey : Nat → Nat
 cv : Nat → Nat
 kn : Nat → Option Nat
 sh : Nat → Nat
 shs : Nat
def cmpW (wo : Nat → Nat) (x y : Nat) : Int := orI (cmpI (wo x) (wo y)) (cmpI x y)
namespace Kt
variable (D : Kt) (wo : Nat → Nat)
def tint (k v : Nat) : Int := match D.kn v with
 | some q => if (q : Int) = D.up k then 0 else 1 + D.shs + wo q
 | none => 1 + D.sh v
def ordB (k : Nat) : List Nat := ord2 (D.ex k) (D.ey k) (D.tint wo k (D.ex k)) (D.tint wo k (D.ey k))
def keyB (k : Nat) : List Int := key2 (D.tint wo k (D.ex k)) (D.tint wo k (D.ey k))
def kids (k : Nat) : List Nat := (D.bs k).filter fun x => !decide ((x : Int) = D.up k)
def below (k : Nat) : List Nat := (D.kids k).mergeSort fun x y => !decide (cmpW wo y x < 0)
def keyC (k : Nat) : List Int := bytesL ((D.sh (D.cv k) : Int) :: (D.below wo k).map fun x => (wo x : Int))
def key (k : Nat) : List Int := if k < D.m then D.keyB wo k else D.keyC wo k
def keysAt (d : Nat) : List (List Int) := ((List.range D.n).filter fun k => D.dep k == d).map (D.key wo)
def Weighed : Prop := ∀ k, k < D.n → wo k = rankB (D.keysAt wo (D.dep k)) (D.key wo k)
def put (acc : List Nat) (v : Nat) : List Nat := if v ∈ acc then acc else acc ++ [v]
def visit : Nat → Nat → List Nat → List Nat
 | 0, _, acc => acc
 | f + 1, k, acc =>
  if k < D.m then (D.ordB wo k).foldl (fun a v => match D.kn v with
   | some q => if (q : Int) = D.up k then a else visit f q a
   | none => a) ((D.ordB wo k).foldl put acc)
  else (D.below wo k).foldl (fun a b => visit f b a) (put acc (D.cv k))
theorem key2_len (tx ty : Int) : (key2 tx ty).length = 24 := by
 unfold key2 codeL
 rw [bytesL_len]
 unfold codeNums endsF
 have h : ∀ l : List (Int × Int), (l.flatMap fun e => [e.1, e.2]).length = 2 * l.length := fun l => by
  induction l with
  | nil => rfl
  | cons a l ih => simp only [List.flatMap_cons, List.length_append, ih, List.length_cons, List.length_nil]; omega
 simp only [List.length_append, List.length_cons, List.length_nil, h, sortP_len, List.length_map]
 split <;> rfl
end Kt
def Fx (X : Addr → Prop) (w : World) (b o : Nat) (v : Value) : Prop := w.cell? ⟨b, o, none⟩ = some v ∧ ¬ X ⟨b, o, none⟩
def FxAt (X : Addr → Prop) (w : World) (a : Option Addr) (vs : List Value) : Prop := ∀ i u, vs[i]? = some u → ∃ b o, a = some ⟨b, o, none⟩ ∧ Fx X w b (o + i) u
section
variable {X Y : Addr → Prop} {w w' : World}
theorem Fx.keep {b o : Nat} {v : Value} (h : Fx X w b o v) (hb : BelX w.heap.size X w w') : Fx X w' b o v := ⟨hb.keep (World.block_lt_of_cell? w _ h.1) h.2 h.1, h.2⟩
theorem FxAt.keep {a : Option Addr} {vs : List Value} (h : FxAt X w a vs) (hb : BelX w.heap.size X w w') : FxAt X w' a vs := fun i u hu => by
 obtain ⟨b, o, h1, h2⟩ := h i u hu
 exact ⟨b, o, h1, h2.keep hb⟩
theorem FxAt.cells {a : Option Addr} {vs : List Value} (h : FxAt X w a vs) : CellsAt w a vs := fun i u hu => by
 obtain ⟨b, o, h1, h2⟩ := h i u hu
 exact ⟨b, o, h1, h2.1⟩
end
structure Lay where
 T : Nat
 gk : Nat
 gb : Nat
 gu : Nat
 gd : Nat
 gs : Nat
 gw : Nat
 gp : Nat
 mb : Nat
 bo : Nat → Nat
def Lay.mut (A : Lay) (m : Nat) (a : Addr) : Prop := a.block = A.gw ∨ a.block = A.gp ∨ a = ⟨A.T, 10, none⟩ ∨ ∃ k, k < m ∧ a.block = A.bo k ∧ 3 ≤ a.off
structure TreeW (D : Kt) (nv : Nat) (A : Lay) (F : Int → Option Int) (w : World) : Prop where
 t0 : ∃ c, Fx (A.mut D.m) w A.T 0 (.slice (some ⟨A.gk, 0, none⟩) D.n c)
 t1 : Fx (A.mut D.m) w A.T 1 (.slice (some ⟨A.gb, 0, none⟩) D.n D.n)
 t2 : Fx (A.mut D.m) w A.T 2 (.int .i64 (D.root : Nat))
 t3 : Fx (A.mut D.m) w A.T 3 (.slice (some ⟨A.gu, 0, none⟩) D.n D.n)
 t4 : Fx (A.mut D.m) w A.T 4 (.slice (some ⟨A.gd, 0, none⟩) D.n D.n)
 t5 : Fx (A.mut D.m) w A.T 5 (.slice (some ⟨A.gw, 0, none⟩) D.n D.n)
 t6 : ∃ c, Fx (A.mut D.m) w A.T 6 (.slice (some ⟨A.gs, 0, none⟩) nv c)
 t7 : Fx (A.mut D.m) w A.T 7 (.int .i64 (D.shs : Nat))
 t8 : Fx (A.mut D.m) w A.T 8 (.map (some A.mb))
 t9 : Fx (A.mut D.m) w A.T 9 (.slice (some ⟨A.gp, 0, none⟩) nv nv)
 knot : ∀ k, k < D.n → Fx (A.mut D.m) w A.gk k (.iface (if k < D.m then 115 else 121) (.pointer (some ⟨A.bo k, 0, none⟩)))
 bes : ∀ k, k < D.n → ∃ au cu, Fx (A.mut D.m) w A.gb k (.slice au (D.bs k).length cu) ∧ FxAt (A.mut D.m) w au ((D.bs k).map vN)
 up : ∀ k, k < D.n → Fx (A.mut D.m) w A.gu k (.int .i64 (D.up k))
 dep : ∀ k, k < D.n → Fx (A.mut D.m) w A.gd k (.int .i64 (D.dep k : Nat))
 shade : ∀ v, v < nv → Fx (A.mut D.m) w A.gs v (.int .i64 (D.sh v : Nat))
 map : ∃ c, MZ w A.mb c F
 mapX : ∀ o, ¬ A.mut D.m ⟨A.mb, o, none⟩
 at_ : ∀ k, k < D.n → Fx (A.mut D.m) w (A.bo k) 0 (.int .i64 (k : Nat))
 lnk : ∀ k, k < D.m → ∃ al cl, Fx (A.mut D.m) w (A.bo k) 1 (.slice al 1 cl) ∧ FxAt (A.mut D.m) w al (lkCells (lk1 (D.ex k) (D.ey k)))
 vrt : ∀ k, k < D.m → ∃ av cv, Fx (A.mut D.m) w (A.bo k) 2 (.slice av 2 cv) ∧ FxAt (A.mut D.m) w av ([D.ex k, D.ey k].map vN)
 cut : ∀ k, D.m ≤ k → k < D.n → Fx (A.mut D.m) w (A.bo k) 1 (.int .i64 (D.cv k : Nat))
theorem TreeW.keep {D : Kt} {nv : Nat} {A : Lay} {F : Int → Option Int} {w w' : World} (h : TreeW D nv A F w) (hb : BelX w.heap.size (A.mut D.m) w w') : TreeW D nv A F w' where
 t0 := by obtain ⟨c, hc⟩ := h.t0; exact ⟨c, hc.keep hb⟩
 t1 := h.t1.keep hb
 t2 := h.t2.keep hb
 t3 := h.t3.keep hb
 t4 := h.t4.keep hb
 t5 := h.t5.keep hb
 t6 := by obtain ⟨c, hc⟩ := h.t6; exact ⟨c, hc.keep hb⟩
 t7 := h.t7.keep hb
 t8 := h.t8.keep hb
 t9 := h.t9.keep hb
 knot k hk := (h.knot k hk).keep hb
 bes k hk := by obtain ⟨au, cu, h1, h2⟩ := h.bes k hk; exact ⟨au, cu, h1.keep hb, h2.keep hb⟩
 up k hk := (h.up k hk).keep hb
 dep k hk := (h.dep k hk).keep hb
 shade v hv := (h.shade v hv).keep hb
 map := by obtain ⟨c, hc⟩ := h.map; exact ⟨c, hc.block (hb.obj _ hc.lt h.mapX)⟩
 mapX := h.mapX
 at_ k hk := (h.at_ k hk).keep hb
 lnk k hk := by obtain ⟨al, cl, h1, h2⟩ := h.lnk k hk; exact ⟨al, cl, h1.keep hb, h2.keep hb⟩
 vrt k hk := by obtain ⟨al, cl, h1, h2⟩ := h.vrt k hk; exact ⟨al, cl, h1.keep hb, h2.keep hb⟩
 cut k h1 h2 := (h.cut k h1 h2).keep hb
theorem TreeW.below {D : Kt} {nv : Nat} {A : Lay} {F : Int → Option Int} {w w' : World} (h : TreeW D nv A F w) (hb : Below w.heap.size w w') : TreeW D nv A F w' := h.keep (BelX.ofBelow hb)
structure Kt.Ok (D : Kt) (nv : Nat) (F : Int → Option Int) : Prop where
 nvl : nv ≤ 200
 nl : D.n ≤ 1000
 ml : D.m ≤ D.n
 bs : ∀ k x, x ∈ D.bs k → x < D.n
 nd : ∀ k, (D.bs k).Nodup
 ends : ∀ k, k < D.m → D.ex k < D.ey k ∧ D.ey k < nv
 cv : ∀ k, D.m ≤ k → k < D.n → D.cv k < nv
 kn : ∀ v, v < nv → F v = (D.kn v).map fun q => (q : Int)
 knl : ∀ v q, D.kn v = some q → D.m ≤ q ∧ q < D.n
 up : ∀ k, k < D.n → -1 ≤ D.up k ∧ D.up k < D.n
 sh : ∀ v, v < nv → D.sh v < D.shs
 shs : D.shs ≤ 1000
 ne : 0 < D.n
 adj : ∀ k x, k < D.n → x ∈ D.bs k → (x : Int) ≠ D.up k → D.dep x = D.dep k + 1
 knb : ∀ k v q, k < D.m → (v = D.ex k ∨ v = D.ey k) → D.kn v = some q → q ∈ D.bs k
 lev : ∀ k, k < D.n → 0 < D.dep k → ∃ p, p < D.n ∧ D.dep k = D.dep p + 1
theorem Kt.Ok.bsl {D : Kt} {nv : Nat} {F : Int → Option Int} (h : D.Ok nv F) (k : Nat) : (D.bs k).length ≤ D.n := by
 have := nodup_len_le (h.nd k) (m := List.range D.n) fun x hx => List.mem_range.2 (h.bs k x hx)
 simpa using this
end Go.Proofs.YtagjdkkfmfombaaGreat
