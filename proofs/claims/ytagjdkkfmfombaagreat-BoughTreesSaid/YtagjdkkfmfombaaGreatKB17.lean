/- fretworklaw20.BoughTrees: whatever two coloured graphs come in, the law returns true (two trees are told the same code just if they have the same least text), and the arguments read as before. No condition. -/
import Derived.Test.YtagjdkkfmfombaaGreatKB16
namespace Go.Proofs.YtagjdkkfmfombaaGreat
open Go Go.RowKit Go.ChangeShapes Go.WideShapes Go.ChangeAt
theorem TreeTT.c {n : Nat} {es : List (Int × Int)} {ts : List Int} (h : TreeTT n es ts) : TreeC n es ts := ⟨h.tr, h.tl, h.tt⟩
theorem wf_bounds {n : Int} (h : (Lit.int .i64 n).wf = true) : -9223372036854775808 ≤ n ∧ n ≤ 9223372036854775807 := by
 have h2 : (decide (-9223372036854775808 ≤ n) && decide (n ≤ 9223372036854775807)) = true := h
 rw [Bool.and_eq_true, decide_eq_true_eq, decide_eq_true_eq] at h2
 exact h2
set_option maxRecDepth 100000 in
set_option maxHeartbeats 8000000 in
theorem boughTrees_walk (n : Int) (a : Option Addr) (cap : Nat) (es : List (Int × Int)) (b : Option Addr) (capb : Nat) (ts : List Int) (n' : Int) (a' : Option Addr) (cap' : Nat) (es' : List (Int × Int)) (b' : Option Addr) (capb' : Nat) (ts' : List Int) (w : World)
  (hr : RdP w a es) (hl : es.length ≤ cap) (hm : cap ≤ maxLen) (wn : (Lit.int .i64 n).wf = true) (hz : RdI w b ts) (hzl : ts.length ≤ capb) (hzm : capb ≤ maxLen) (_hzw : ∀ z ∈ ts, WfZ z)
  (hr' : RdP w a' es') (hl' : es'.length ≤ cap') (hm' : cap' ≤ maxLen) (wn' : (Lit.int .i64 n').wf = true) (hz' : RdI w b' ts') (hzl' : ts'.length ≤ capb') (hzm' : capb' ≤ maxLen) (_hzw' : ∀ z ∈ ts', WfZ z) :
  Calls Tryz.prog 3 #[.agg #[.int .i64 n, .slice a es.length cap], .slice b ts.length capb, .agg #[.int .i64 n', .slice a' es'.length cap'], .slice b' ts'.length capb'] w fun e w' => e = .returned (.bool true) ∧ Below w.heap.size w w' := by
 unfold maxLen at hm hm' hzm hzm'
 have w1 : -9223372036854775808 ≤ n ∧ n ≤ 9223372036854775807 := wf_bounds wn
 have w2 : -9223372036854775808 ≤ n' ∧ n' ≤ 9223372036854775807 := wf_bounds wn'
 have ht := fun w hr hz => tree_walk n a cap es b capb ts w w1 hr (by omega) hz (by omega)
 have ht' := fun w hr hz => tree_walk n' a' cap' es' b' capb' ts' w w2 hr (by omega) hz (by omega)
 have hb1 := bl_alloc w (.cells #[.int .i64 n, .slice a es.length cap] 24)
 have hb2 := bl_trans hb1 (bl_alloc (w.alloc (.cells #[.int .i64 n, .slice a es.length cap] 24)) (.cells #[.int .i64 n', .slice a' es'.length cap'] 24))
 have g0 : ((w.alloc (.cells #[.int .i64 n, .slice a es.length cap] 24)).alloc (.cells #[.int .i64 n', .slice a' es'.length cap'] 24)).cell? ⟨w.heap.size, 0, none⟩ = some (.int .i64 n) := keep_cell (bl_alloc _ _) (by simp)
 have g1 : ((w.alloc (.cells #[.int .i64 n, .slice a es.length cap] 24)).alloc (.cells #[.int .i64 n', .slice a' es'.length cap'] 24)).cell? ⟨w.heap.size, 1, none⟩ = some (.slice a es.length cap) := keep_cell (bl_alloc _ _) (by simp)
 have hsz : (w.alloc (.cells #[.int .i64 n, .slice a es.length cap] 24)).heap.size = w.heap.size + 1 := by simp
 have k0 : ((w.alloc (.cells #[.int .i64 n, .slice a es.length cap] 24)).alloc (.cells #[.int .i64 n', .slice a' es'.length cap'] 24)).cell? ⟨w.heap.size + 1, 0, none⟩ = some (.int .i64 n') := by rw [← hsz]; simp
 have k1 : ((w.alloc (.cells #[.int .i64 n, .slice a es.length cap] 24)).alloc (.cells #[.int .i64 n', .slice a' es'.length cap'] 24)).cell? ⟨w.heap.size + 1, 1, none⟩ = some (.slice a' es'.length cap') := by rw [← hsz]; simp
 have hc1 := ht _ (hr.below hb2) (hz.below hb2)
 have Hc1 := Lib.hid hc1; have Hb2 := Lib.hid hb2; have Hg0 := Lib.hid g0; have Hg1 := Lib.hid g1; have Hk0 := Lib.hid k0; have Hk1 := Lib.hid k1; have Ht' := Lib.hid ht'
 have Hr := Lib.hid hr; have Hz := Lib.hid hz; have Hr' := Lib.hid hr'; have Hz' := Lib.hid hz'
 clear hb1 hb2 hc1 k0 k1 ht ht' hr hz hr' hz' hsz hl hm wn hzl hzm _hzw hl' hm' wn' hzl' hzm' _hzw' w1 w2
 go_enter Tryz.func3, Tryz.ntmps3
 go_wp2_with fail
 refine Hc1.out.mono ?_
 rintro e wa ⟨rfl, hba⟩
 have hBa := bl_trans Hb2.out hba
 clear g0 g1
 have g0 := keep_cell hba Hg0.out
 have g1 := keep_cell hba Hg1.out
 have k0 := keep_cell hba Hk0.out
 have k1 := keep_cell hba Hk1.out
 clear Hc1 Hb2 Hg0 Hg1 Hk0 Hk1 hba
 cases htb : treeB n es ts with
 | false =>
  clear htb g0 g1 k0 k1 Ht' Hr Hz Hr' Hz'
  have Hx := Lib.hid hBa
  clear hBa
  go_wp2_with fail
  refine (awake20_walk _).mono ?_
  rintro e w9 ⟨rfl, hb9⟩
  go_wp2_with fail
  go_ret
  exact ⟨rfl, bl_trans Hx.out hb9⟩
 | true =>
  have hc2 := Ht'.out _ (Hr'.out.below hBa) (Hz'.out.below hBa)
  have Hc2 := Lib.hid hc2; have HBa := Lib.hid hBa; have Hg0 := Lib.hid g0; have Hg1 := Lib.hid g1; have Htb := Lib.hid htb
  clear hc2 hBa g0 g1 htb Ht'
  go_wp2_with fail
  refine Hc2.out.mono ?_
  rintro e wb ⟨rfl, hbb⟩
  have hBb := bl_trans HBa.out hbb
  have g0 := keep_cell hbb Hg0.out
  have g1 := keep_cell hbb Hg1.out
  have k0' := keep_cell hbb k0
  have k1' := keep_cell hbb k1
  clear Hc2 HBa Hg0 Hg1 k0 k1 hbb
  cases htb' : treeB n' es' ts' with
  | false =>
   clear htb' g0 g1 k0' k1' Hr Hz Hr' Hz' Htb; have Hx := Lib.hid hBb; clear hBb; go_wp2_with fail; refine (awake20_walk _).mono ?_; rintro e w9 ⟨rfl, hb9⟩; go_wp2_with fail; go_ret; exact ⟨rfl, bl_trans Hx.out hb9⟩
  | true =>
   obtain ⟨N, rfl, hT⟩ := treeB_spec Htb.out; obtain ⟨N', rfl, hT'⟩ := treeB_spec htb'; have hc : Calls Tryz.prog 7 #[.agg #[.int .i64 N, .slice a es.length cap], .slice b ts.length capb] wb (RetCn wb N es ts) := by
    rw [hT.tl]; exact canon_walk N a b cap capb es ts _ hT.c (Hr.out.below hBb) (Hz.out.below hBb)
   have Hc := Lib.hid hc; have HBb := Lib.hid hBb; have HT := Lib.hid hT; have HT' := Lib.hid hT'; have Hk0 := Lib.hid k0'; have Hk1 := Lib.hid k1'; have Hg0 := Lib.hid g0; have Hg1 := Lib.hid g1; clear hc hBb hT hT' k0' k1' htb' Htb; go_wp2_with fail; refine Hc.out.mono ?_; rintro e wc ⟨O, g, c, g2, c2, hO, rfl, hrow, _, hg, hg2, hn2, hcl, hbc⟩; clear Hc g0 g1; obtain ⟨X, hX⟩ : ∃ X, X = codeL ts O es := ⟨_, rfl⟩
   rw [← hX] at hrow ⊢; have hbn := bl_alloc wc (.cells #[.slice (some ⟨g, 0, none⟩) X.length c, .slice (some ⟨g2, 0, none⟩) N c2] 30); have hbr := bl_trans hbc hbn; have hBd := bl_trans HBb.out hbr; have hx := (show CellsAt wc _ _ from hrow.at_).below hbn; have k0 := keep_cell hbr Hk0.out; have k1 := keep_cell hbr Hk1.out; have g0 := keep_cell hbr Hg0.out; have g1 := keep_cell hbr Hg1.out; have d9 : (wc.alloc (.cells #[.slice (some ⟨g, 0, none⟩) X.length c, .slice (some ⟨g2, 0, none⟩) N c2] 30)).cell? ⟨wc.heap.size, 0, none⟩ = some (.slice (some ⟨g, 0, none⟩) X.length c) := by simp
   have HX := Lib.hid hX; have HBd := Lib.hid hBd; have Hx := Lib.hid hx; have Hg0 := Lib.hid g0; have Hg1 := Lib.hid g1; have Hd9 := Lib.hid d9; have HO := Lib.hid hO; have Hk0 := Lib.hid k0; have Hk1 := Lib.hid k1; clear hX hBd hx hbc hbr hbn hrow hg hg2 hn2 hcl g0 g1 d9 hO HBb k0 k1; go_upto_region 4 with (fail)
   obtain ⟨P9, hP9⟩ : ∃ P9, P9 = wc.heap.size := ⟨_, rfl⟩
   rw [← hP9] at Hd9 ⊢; clear hP9; generalize wc.alloc (.cells #[.slice (some ⟨g, 0, none⟩) X.length c, .slice (some ⟨g2, 0, none⟩) N c2] 30) = wd at *
   have hc : Calls Tryz.prog 7 #[.agg #[.int .i64 N', .slice a' es'.length cap'], .slice b' ts'.length capb'] wd (RetCn wd N' es' ts') := by
    rw [HT'.out.tl]; exact canon_walk N' a' b' cap' capb' es' ts' _ HT'.out.c (Hr'.out.below HBd.out) (Hz'.out.below HBd.out)
   have k0 := Hk0.out; have k1 := Hk1.out; have Hc := Lib.hid hc; clear hc; go_wp2_with fail; refine Hc.out.mono ?_; rintro e we ⟨O', g', c', g2', c2', hO', rfl, hrow, _, hg, hg2, hn2, hcl, hbc⟩; clear Hc k0 k1; obtain ⟨X', hX⟩ : ∃ X, X = codeL ts' O' es' := ⟨_, rfl⟩
   rw [← hX] at hrow ⊢; have hbn := bl_alloc we (.cells #[.slice (some ⟨g', 0, none⟩) X'.length c', .slice (some ⟨g2', 0, none⟩) N' c2'] 30); have hbr := bl_trans hbc hbn; have hBf := bl_trans HBd.out hbr; have hx' := (show CellsAt we _ _ from hrow.at_).below hbn; have hx := Hx.out.below hbr; have k0 := keep_cell hbr Hk0.out; have k1 := keep_cell hbr Hk1.out; have g0 := keep_cell hbr Hg0.out; have g1 := keep_cell hbr Hg1.out; have d9 := keep_cell hbr Hd9.out; have d11 : (we.alloc (.cells #[.slice (some ⟨g', 0, none⟩) X'.length c', .slice (some ⟨g2', 0, none⟩) N' c2'] 30)).cell? ⟨we.heap.size, 0, none⟩ = some (.slice (some ⟨g', 0, none⟩) X'.length c') := by simp
   have HX' := Lib.hid hX; have HBf := Lib.hid hBf; have Hx := Lib.hid hx; have Hx' := Lib.hid hx'; have Hg0 := Lib.hid g0; have Hg1 := Lib.hid g1; have Hd9 := Lib.hid d9; have Hd11 := Lib.hid d11; have HO' := Lib.hid hO'; have Hk0 := Lib.hid k0; have Hk1 := Lib.hid k1; clear hX hBf hx hx' hbc hbr hbn hrow hg hg2 hn2 hcl g0 g1 d9 d11 hO' HBd k0 k1; go_upto_region 5 with (fail)
   obtain ⟨P11, hP11⟩ : ∃ P11, P11 = we.heap.size := ⟨_, rfl⟩
   rw [← hP11] at Hd11 ⊢; clear hP11; generalize we.alloc (.cells #[.slice (some ⟨g', 0, none⟩) X'.length c', .slice (some ⟨g2', 0, none⟩) N' c2'] 30) = wf at *
   obtain ⟨P6, hP6⟩ : ∃ P6, P6 = w.heap.size + 1 := ⟨_, rfl⟩
   obtain ⟨P4, hP4⟩ : ∃ P4, P4 = w.heap.size := ⟨_, rfl⟩
   rw [← hP6] at Hk0 Hk1 ⊢; rw [← hP4] at Hg0 Hg1 ⊢; have hiff := code_text HT.out.c HT'.out.c HO.out HO'.out; rw [← HX.out, ← HX'.out] at hiff; have hxb : ByL X := by rw [HX.out]; exact bytesL_by _
   have hxb' : ByL X' := by rw [HX'.out]; exact bytesL_by _
   have hcv := fun w' hb => conv_by w' ⟨g, 0, none⟩ c X hxb (Hx.out.below (w' := w') hb); have hcv' := fun w' hb => conv_by w' ⟨g', 0, none⟩ c' X' hxb' (Hx'.out.below (w' := w') hb); have hc1 : ∀ w', Below wf.heap.size wf w' → Calls Tryz.prog 8 #[.agg #[.int .i64 N, .slice a es.length cap], .slice b ts.length capb] w' fun e w'' => e = .returned (.string (bA (textG N es ts))) ∧ Below w'.heap.size w' w'' := fun w' hb => by
    rw [HT.out.tl]; exact text_walk N a b cap capb es ts w' HT.out.c ((Hr.out.below HBf.out).below hb) ((Hz.out.below HBf.out).below hb)
   have hc2 : ∀ w', Below wf.heap.size wf w' → Calls Tryz.prog 8 #[.agg #[.int .i64 N', .slice a' es'.length cap'], .slice b' ts'.length capb'] w' fun e w'' => e = .returned (.string (bA (textG N' es' ts'))) ∧ Below w'.heap.size w' w'' := fun w' hb => by
    rw [HT'.out.tl]; exact text_walk N' a' b' cap' capb' es' ts' w' HT'.out.c ((Hr'.out.below HBf.out).below hb) ((Hz'.out.below HBf.out).below hb)
   obtain ⟨C1, hC1⟩ : ∃ C, C = bA X := ⟨_, rfl⟩
   obtain ⟨C2, hC2⟩ : ∃ C, C = bA X' := ⟨_, rfl⟩
   obtain ⟨T1, hT1⟩ : ∃ C, C = bA (textG N es ts) := ⟨_, rfl⟩
   obtain ⟨T2, hT2⟩ : ∃ C, C = bA (textG N' es' ts') := ⟨_, rfl⟩
   rw [← hC1] at hcv; rw [← hC2] at hcv'; rw [← hT1] at hc1; rw [← hT2] at hc2; have hs := fun w' (hb : Below wf.heap.size wf w') => And.intro (keep_cell hb Hd9.out) (And.intro (keep_cell hb Hd11.out) (And.intro (keep_cell hb Hg0.out) (And.intro (keep_cell hb Hg1.out) (And.intro (keep_cell hb Hk0.out) (And.intro (keep_cell hb Hk1.out) (And.intro (hcv w' hb) (hcv' w' hb))))))); have Hs := Lib.hid hs; have Hc1 := Lib.hid hc1; have Hc2 := Lib.hid hc2; have hbt : ∀ n es ts, ByL (textG n es ts) := fun n es ts => bestK_by n es ts n; clear hs hc1 hc2 hcv hcv' hP6 hP4; by_cases hXX : X = X'
   ·
    have e1 : C1 = C2 := by rw [hC1, hC2, hXX]
    have e2 : T1 = T2 := by rw [hT1, hT2, hiff.1 hXX]
    clear hC1 hC2 hT1 hT2 hiff hXX hbt hxb hxb'; subst e1; subst e2
    refine regionT (fun w' => w'.cell? ⟨P9, 0, none⟩ = some (.slice (some ⟨g, 0, none⟩) X.length c) ∧ w'.cell? ⟨P11, 0, none⟩ = some (.slice (some ⟨g', 0, none⟩) X'.length c') ∧ w'.cell? ⟨P4, 0, none⟩ = some (.int .i64 N) ∧ w'.cell? ⟨P4, 1, none⟩ = some (.slice a es.length cap) ∧ w'.cell? ⟨P6, 0, none⟩ = some (.int .i64 N') ∧ w'.cell? ⟨P6, 1, none⟩ = some (.slice a' es'.length cap') ∧
     (convert 28 9 (.slice (some ⟨g, 0, none⟩) X.length c)).run Tryz.prog w' = .ok (.string C1) w' ∧ (convert 28 9 (.slice (some ⟨g', 0, none⟩) X'.length c')).run Tryz.prog w' = .ok (.string C1) w') 27 (by kernel_rfl) ?_
    have hBd : Below wf.heap.size wf wf.drew := below_drewN (Below.refl _ _) 1; have hS := Hs.out _ hBd; have hc1 := Hc1.out _ hBd; have hB := bl_trans HBf.out hBd; have hBf : Below wf.heap.size wf wf.drew := hBd; clear hBd HBf Hc1; generalize wf.drew = wg at *
    refine tkT 0 ?_ rfl hS ?_ ?_ (by kernel_rfl) (fun _ _ _ h => h) (by rfl); rotate_left; (· intro wS hSw; (try dsimp only at hSw); go_simp; try with_reducible rfl); simp only [Act.put, zT]; refine tkT 1 ?_ rfl hS ?_ ?_ (by kernel_rfl) (fun _ _ _ h => h) (by rfl); rotate_left; (· intro wS hSw; (try dsimp only at hSw); go_simp; try with_reducible rfl); simp only [Act.put, zT]; refine tkT 2 ?_ rfl hS ?_ ?_ (by kernel_rfl) (fun _ _ _ h => h) (by rfl); rotate_left; (· intro wS hSw; (try dsimp only at hSw); go_simp; try with_reducible rfl); simp only [Act.put, zT]; refine tkT 3 ?_ rfl hS ?_ ?_ (by kernel_rfl) (fun _ _ _ h => h) (by rfl); rotate_left; (· intro wS hSw; (try dsimp only at hSw); go_simp; try with_reducible rfl); simp only [Act.put, zT]; refine tkT 4 ?_ rfl hS ?_ ?_ (by kernel_rfl) (fun _ _ _ h => h) (by rfl); rotate_left; (· intro wS hSw; (try dsimp only at hSw); go_simp; try with_reducible rfl); simp only [Act.put, zT]; refine tkT 5 ?_ rfl hS ?_ ?_ (by kernel_rfl) (fun _ _ _ h => h) (by rfl); rotate_left; (· intro wS hSw; (try dsimp only at hSw); go_simp; try with_reducible rfl); simp only [Act.put, zT]; refine tkT 6 ?_ rfl hS ?_ ?_ (by kernel_rfl) (fun _ _ _ h => h) (by rfl); rotate_left; (· intro wS hSw; (try dsimp only at hSw); go_simp; try with_reducible rfl); simp only [Act.put, zT]; refine tkT 7 ?_ rfl hS ?_ ?_ (by kernel_rfl) (fun _ _ _ h => h) (by rfl); rotate_left; (· intro wS hSw; (try dsimp only at hSw); go_simp; try with_reducible rfl); simp only [Act.put, zT]
    refine tkT 8 ?_ rfl hS ?_ ?_ (by kernel_rfl) (fun _ _ _ h => h) (by rfl); rotate_left; (· intro wS hSw; (try dsimp only at hSw); go_simp; try with_reducible rfl); simp only [Act.put, zT]; refine tkT 9 ?_ rfl hS ?_ ?_ (by kernel_rfl) (fun _ _ _ h => h) (by rfl); rotate_left; (· intro wS hSw; (try dsimp only at hSw); go_simp; try with_reducible rfl); simp only [Act.put, zT]; refine tkT 10 ?_ rfl hS ?_ ?_ (by kernel_rfl) (fun _ _ _ h => h) (by rfl); rotate_left; (· intro wS hSw; (try dsimp only at hSw); go_simp; try with_reducible rfl); simp only [Act.put, zT]; refine tkT 11 ?_ rfl hS ?_ ?_ (by kernel_rfl) (fun _ _ _ h => h) (by rfl); rotate_left; (· intro wS hSw; (try dsimp only at hSw); go_simp; try with_reducible rfl); simp only [Act.put, zT]; refine tkT 12 ?_ rfl hS ?_ ?_ (by kernel_rfl) (fun _ _ _ h => h) (by rfl); rotate_left; (· intro wS hSw; (try dsimp only at hSw); go_simp; try with_reducible rfl); simp only [Act.put, zT]; refine tkT 13 ?_ rfl hS ?_ ?_ (by kernel_rfl) (fun _ _ _ h => h) (by rfl); rotate_left; (· intro wS hSw; (try dsimp only at hSw); go_simp; try with_reducible rfl); simp only [Act.put, zT]; refine tkT 14 ?_ rfl hS ?_ ?_ (by kernel_rfl) (fun _ _ _ h => h) (by rfl); rotate_left; (· intro wS hSw; (try dsimp only at hSw); go_simp; try with_reducible rfl); simp only [Act.put, zT]; refine tkT 15 ?_ rfl hS ?_ ?_ (by kernel_rfl) (fun _ _ _ h => h) (by rfl); rotate_left; (· intro wS hSw; (try dsimp only at hSw); go_simp; try with_reducible rfl); simp only [Act.put, zT]
    refine tkT 17 ?_ rfl hS ?_ ?_ (by kernel_rfl) (fun _ _ _ h => h) (by rfl); rotate_left; (· intro wS hSw; (try dsimp only at hSw); go_simp; try with_reducible rfl); simp only [Act.put, zT]; refine tkT 18 ?_ rfl hS ?_ ?_ (by kernel_rfl) (fun _ _ _ h => h) (by rfl); rotate_left; (· intro wS hSw; (try dsimp only at hSw); go_simp; try with_reducible rfl); simp only [Act.put, zT]; refine oneT (i := 16) rfl (by kernel_rfl) (fun K hK => ?_); go_simp; refine hc1.mono ?_; rintro e wh ⟨rfl, hbh⟩; have hBh := bl_trans hBf hbh; have hS2 := Hs.out _ hBh; have hc2 := Hc2.out _ hBh; have hB2 := bl_trans hB hbh; simp only; refine hK _ _ (fun _ => hS2) ?_; clear hK K hS hc1 Hc2; have hS := hS2; clear hS2 hbh hBf hB; refine oneT (i := 19) rfl (by kernel_rfl) (fun K hK => ?_); go_simp; refine hc2.mono ?_; rintro e wi ⟨rfl, hbi⟩; have hBi := bl_trans hBh hbi; have hS2 := Hs.out _ hBi; have hB3 := bl_trans hB2 hbi; simp only; refine hK _ _ (fun _ => hS2) ?_; clear hK K hS hc2; have hS := hS2; clear hS2 hbi hBh hB2; refine tkT 20 ?_ rfl hS ?_ ?_ (by kernel_rfl) (fun _ _ _ h => h) (by rfl); rotate_left; (· intro wS hSw; (try dsimp only at hSw); go_simp; try with_reducible rfl); simp only [Act.put, zT]; refine tkT 21 ?_ rfl hS ?_ ?_ (by kernel_rfl) (fun _ _ _ h => h) (by rfl); rotate_left; (· intro wS hSw; (try dsimp only at hSw); go_simp; try with_reducible rfl); simp only [Act.put, zT]; refine tkT 22 ?_ rfl hS ?_ ?_ (by kernel_rfl) (fun _ _ _ h => h) (by rfl); rotate_left; (· intro wS hSw; (try dsimp only at hSw); go_simp; try with_reducible rfl); simp only [Act.put, zT]
    refine tkT 23 ?_ rfl hS ?_ ?_ (by kernel_rfl) (fun _ _ _ h => h) (by rfl); rotate_left; (· intro wS hSw; (try dsimp only at hSw); go_simp; try with_reducible rfl); simp only [Act.put, zT]; refine oneT (i := 24) rfl (by kernel_rfl) (fun K hK => ?_); go_simp; refine (awake20_walk _).mono ?_; rintro e wj ⟨rfl, hbj⟩; have hB4 := bl_trans hB3 hbj; have hS2 := Hs.out _ (bl_trans hBi hbj); simp only; refine hK _ _ (fun _ => hS2) ?_; clear hK K hS hB3 hbj hBi Hs; have hS := hS2; clear hS2; refine tkT 25 ?_ rfl hS ?_ ?_ (by kernel_rfl) (fun _ _ _ h => h) (by rfl); rotate_left; (· intro wS hSw; (try dsimp only at hSw); go_simp; try with_reducible rfl); simp only [Act.put, zT]; refine tkT 26 ?_ rfl hS ?_ ?_ (by kernel_rfl) (fun _ _ _ h => h) (by rfl); rotate_left; (· intro wS hSw; (try dsimp only at hSw); go_simp; try with_reducible rfl); simp only [Act.put, zT]; refine doneT (by kernel_rfl) ?_ _; go_wp2_with fail; go_ret; exact ⟨rfl, hB4⟩
   ·
    have n1 : ¬ C1.toList = C2.toList := by
     rw [hC1, hC2]; exact fun h => hXX ((bA_inj hxb hxb').1 h)
    have n2 : ¬ T1.toList = T2.toList := by
     rw [hT1, hT2]; exact fun h => hXX (hiff.2 ((bA_inj (hbt _ _ _) (hbt _ _ _)).1 h))
    have q1 : (C1.toList == C2.toList) = false := by simpa using n1
    have q2 : (T1.toList == T2.toList) = false := by simpa using n2
    clear hC1 hC2 hT1 hT2 hiff hXX hbt hxb hxb'
    refine regionT (fun w' => w'.cell? ⟨P9, 0, none⟩ = some (.slice (some ⟨g, 0, none⟩) X.length c) ∧ w'.cell? ⟨P11, 0, none⟩ = some (.slice (some ⟨g', 0, none⟩) X'.length c') ∧ w'.cell? ⟨P4, 0, none⟩ = some (.int .i64 N) ∧ w'.cell? ⟨P4, 1, none⟩ = some (.slice a es.length cap) ∧ w'.cell? ⟨P6, 0, none⟩ = some (.int .i64 N') ∧ w'.cell? ⟨P6, 1, none⟩ = some (.slice a' es'.length cap') ∧
     (convert 28 9 (.slice (some ⟨g, 0, none⟩) X.length c)).run Tryz.prog w' = .ok (.string C1) w' ∧ (convert 28 9 (.slice (some ⟨g', 0, none⟩) X'.length c')).run Tryz.prog w' = .ok (.string C2) w') 27 (by kernel_rfl) ?_
    have hBd : Below wf.heap.size wf wf.drew := below_drewN (Below.refl _ _) 1; have hS := Hs.out _ hBd; have hc1 := Hc1.out _ hBd; have hB := bl_trans HBf.out hBd; have hBf : Below wf.heap.size wf wf.drew := hBd; clear hBd HBf Hc1; generalize wf.drew = wg at *
    refine tkT 0 ?_ rfl hS ?_ ?_ (by kernel_rfl) (fun _ _ _ h => h) (by rfl); rotate_left; (· intro wS hSw; (try dsimp only at hSw); go_simp; try with_reducible rfl); simp only [Act.put, zT]; refine tkT 1 ?_ rfl hS ?_ ?_ (by kernel_rfl) (fun _ _ _ h => h) (by rfl); rotate_left; (· intro wS hSw; (try dsimp only at hSw); go_simp; try with_reducible rfl); simp only [Act.put, zT]; refine tkT 2 ?_ rfl hS ?_ ?_ (by kernel_rfl) (fun _ _ _ h => h) (by rfl); rotate_left; (· intro wS hSw; (try dsimp only at hSw); go_simp; try with_reducible rfl); simp only [Act.put, zT]; refine tkT 3 ?_ rfl hS ?_ ?_ (by kernel_rfl) (fun _ _ _ h => h) (by rfl); rotate_left; (· intro wS hSw; (try dsimp only at hSw); go_simp; try with_reducible rfl); simp only [Act.put, zT]; refine tkT 4 ?_ rfl hS ?_ ?_ (by kernel_rfl) (fun _ _ _ h => h) (by rfl); rotate_left; (· intro wS hSw; (try dsimp only at hSw); go_simp; try with_reducible rfl); simp only [Act.put, zT]; refine tkT 5 ?_ rfl hS ?_ ?_ (by kernel_rfl) (fun _ _ _ h => h) (by rfl); rotate_left; (· intro wS hSw; (try dsimp only at hSw); go_simp; try with_reducible rfl); simp only [Act.put, zT]; refine tkT 6 ?_ rfl hS ?_ ?_ (by kernel_rfl) (fun _ _ _ h => h) (by rfl); rotate_left; (· intro wS hSw; (try dsimp only at hSw); go_simp; try with_reducible rfl); simp only [Act.put, zT]; refine tkT 7 ?_ rfl hS ?_ ?_ (by kernel_rfl) (fun _ _ _ h => h) (by rfl); rotate_left; (· intro wS hSw; (try dsimp only at hSw); go_simp; try with_reducible rfl); simp only [Act.put, zT]
    refine tkT 8 ?_ rfl hS ?_ ?_ (by kernel_rfl) (fun _ _ _ h => h) (by rfl); rotate_left; (· intro wS hSw; (try dsimp only at hSw); go_simp; try with_reducible rfl); simp only [Act.put, zT]; refine tkT 9 ?_ rfl hS ?_ ?_ (by kernel_rfl) (fun _ _ _ h => h) (by rfl); rotate_left; (· intro wS hSw; (try dsimp only at hSw); go_simp; try with_reducible rfl); simp only [Act.put, zT]; refine tkT 10 ?_ rfl hS ?_ ?_ (by kernel_rfl) (fun _ _ _ h => h) (by rfl); rotate_left; (· intro wS hSw; (try dsimp only at hSw); go_simp; try with_reducible rfl); simp only [Act.put, zT]; refine tkT 11 ?_ rfl hS ?_ ?_ (by kernel_rfl) (fun _ _ _ h => h) (by rfl); rotate_left; (· intro wS hSw; (try dsimp only at hSw); go_simp; try with_reducible rfl); simp only [Act.put, zT]; refine tkT 12 ?_ rfl hS ?_ ?_ (by kernel_rfl) (fun _ _ _ h => h) (by rfl); rotate_left; (· intro wS hSw; (try dsimp only at hSw); go_simp; try with_reducible rfl); simp only [Act.put, zT]; refine tkT 13 ?_ rfl hS ?_ ?_ (by kernel_rfl) (fun _ _ _ h => h) (by rfl); rotate_left; (· intro wS hSw; (try dsimp only at hSw); go_simp; try with_reducible rfl); simp only [Act.put, zT]; refine tkT 14 ?_ rfl hS ?_ ?_ (by kernel_rfl) (fun _ _ _ h => h) (by rfl); rotate_left; (· intro wS hSw; (try dsimp only at hSw); go_simp; try with_reducible rfl); simp only [Act.put, zT]; refine tkT 15 ?_ rfl hS ?_ ?_ (by kernel_rfl) (fun _ _ _ h => h) (by rfl); rotate_left; (· intro wS hSw; (try dsimp only at hSw); go_simp; try with_reducible rfl); simp only [Act.put, zT]
    refine tkT 17 ?_ rfl hS ?_ ?_ (by kernel_rfl) (fun _ _ _ h => h) (by rfl); rotate_left; (· intro wS hSw; (try dsimp only at hSw); go_simp; try with_reducible rfl); simp only [Act.put, zT]; refine tkT 18 ?_ rfl hS ?_ ?_ (by kernel_rfl) (fun _ _ _ h => h) (by rfl); rotate_left; (· intro wS hSw; (try dsimp only at hSw); go_simp; try with_reducible rfl); simp only [Act.put, zT]; refine oneT (i := 16) rfl (by kernel_rfl) (fun K hK => ?_); go_simp; refine hc1.mono ?_; rintro e wh ⟨rfl, hbh⟩; have hBh := bl_trans hBf hbh; have hS2 := Hs.out _ hBh; have hc2 := Hc2.out _ hBh; have hB2 := bl_trans hB hbh; simp only; refine hK _ _ (fun _ => hS2) ?_; clear hK K hS hc1 Hc2; have hS := hS2; clear hS2 hbh hBf hB; refine oneT (i := 19) rfl (by kernel_rfl) (fun K hK => ?_); go_simp; refine hc2.mono ?_; rintro e wi ⟨rfl, hbi⟩; have hBi := bl_trans hBh hbi; have hS2 := Hs.out _ hBi; have hB3 := bl_trans hB2 hbi; simp only; refine hK _ _ (fun _ => hS2) ?_; clear hK K hS hc2; have hS := hS2; clear hS2 hbi hBh hB2; refine tkT 20 ?_ rfl hS ?_ ?_ (by kernel_rfl) (fun _ _ _ h => h) (by rfl); rotate_left; (· intro wS hSw; (try dsimp only at hSw); go_simp; try with_reducible rfl); simp only [Act.put, zT]; refine tkT 21 ?_ rfl hS ?_ ?_ (by kernel_rfl) (fun _ _ _ h => h) (by rfl); rotate_left; (· intro wS hSw; (try dsimp only at hSw); go_simp; try with_reducible rfl); simp only [Act.put, zT]; refine tkT 22 ?_ rfl hS ?_ ?_ (by kernel_rfl) (fun _ _ _ h => h) (by rfl); rotate_left; (· intro wS hSw; (try dsimp only at hSw); go_simp; try with_reducible rfl); simp only [Act.put, zT]
    refine tkT 23 ?_ rfl hS ?_ ?_ (by kernel_rfl) (fun _ _ _ h => h) (by rfl); rotate_left; (· intro wS hSw; (try dsimp only at hSw); go_simp; try with_reducible rfl); simp only [Act.put, zT]; refine oneT (i := 24) rfl (by kernel_rfl) (fun K hK => ?_); go_simp; refine (awake20_walk _).mono ?_; rintro e wj ⟨rfl, hbj⟩; have hB4 := bl_trans hB3 hbj; have hS2 := Hs.out _ (bl_trans hBi hbj); simp only; refine hK _ _ (fun _ => hS2) ?_; clear hK K hS hB3 hbj hBi Hs; have hS := hS2; clear hS2; refine tkT 25 ?_ rfl hS ?_ ?_ (by kernel_rfl) (fun _ _ _ h => h) (by rfl); rotate_left; (· intro wS hSw; (try dsimp only at hSw); go_simp; try with_reducible rfl); simp only [Act.put, zT]; refine tkT 26 ?_ rfl hS ?_ ?_ (by kernel_rfl) (fun _ _ _ h => h) (by rfl); rotate_left; (· intro wS hSw; (try dsimp only at hSw); go_simp; try with_reducible rfl); simp only [Act.put, zT]; refine doneT (by kernel_rfl) ?_ _; go_wp2_with fail; go_ret; exact ⟨rfl, hB4⟩
namespace boughTrees
open Go Go.RowKit Go.ChangeShapes Go.WideShapes Go.ChangeAt
set_option maxRecDepth 100000 in
theorem lifted (os : Os) (started : os.Started) (H : Type) (enc : TypeId × Value → H) :
  ReturnsInHanded {} Tryz.checked os 3 .any (Rows.boughTreesSpec.pre6 enc Tryz.prog Tryz.f3 Rows.boughTreesRow.domain false) (Rows.boughTreesSpec.post enc Tryz.prog Tryz.f3 false true false false) := by
 refine returnsInHanded_of_change (C := Tryz.checked) rowOwn started (by kernel_rfl) Tryz.func3
  (ChangeSpec.witness6 (enc := enc) (C := Tryz.checked) false ⟨#[], #[.agg #[.int .i64 0, .slice none 0 0], .slice none 0 0, .agg #[.int .i64 0, .slice none 0 0], .slice none 0 0], []⟩ 8 (by kernel_rfl) (by kernel_rfl) (by kernel_rfl) (by kernel_rfl)) ?_
 intro W base args ds gs before hval0 hW hcnd _
 have hval : ∀ (j : Nat) t v, Tryz.f3.params[j]? = some t → args[j]? = some v → Value.okWide Tryz.prog W .any base t v := hval0
 have hW' := hW
 obtain ⟨p, q, hA0, hV, rfl, hfz, hnd⟩ := hW
 have hA : DataW.TrodAll enc Tryz.prog W 0 (fun _ => true) true Tryz.f3.params.toList args.toList ds p := hA0
 rw [Tryz.params3] at hA hval
 obtain ⟨v0, vs0, d0, ds0, p0, q0, hargs, rfl, rfl, h0, r0⟩ := trodAll_cons hA
 obtain ⟨v1, vs1, d1, ds1, p1, q1, rfl, rfl, rfl, h1, r1⟩ := trodAll_cons r0
 obtain ⟨v2, vs2, d2, ds2, p2, q2, rfl, rfl, rfl, h2, r2⟩ := trodAll_cons r1
 obtain ⟨v3, vs3, d3, ds3, p3, q3, rfl, rfl, rfl, h3, r3⟩ := trodAll_cons r2
 obtain ⟨rfl, rfl, rfl⟩ := trodAll_nil r3
 obtain rfl : args = #[v0, v1, v2, v3] := by cases args; simp_all
 obtain ⟨rfl, rfl⟩ := trodVars_none hV
 have k0 := h0
 have lt0 : ∀ x ∈ p0, x.block < W.heap.size := by obtain ⟨m, hm⟩ := k0; exact DataW.trod_lt m _ _ _ hm
 obtain ⟨n0, a0, cap0, es0, rfl, rd0, hl0, hm0, wn0⟩ := open_graph (hval 0 24 v0 rfl rfl) h0
 have k1 := h1
 have lt1 : ∀ x ∈ p1, x.block < W.heap.size := by obtain ⟨m, hm⟩ := k1; exact DataW.trod_lt m _ _ _ hm
 obtain ⟨a1, cap1, es1, rfl, rd1, hl1, hm1, wn1⟩ := open_nums (hval 1 25 v1 rfl rfl) h1
 have k2 := h2
 have lt2 : ∀ x ∈ p2, x.block < W.heap.size := by obtain ⟨m, hm⟩ := k2; exact DataW.trod_lt m _ _ _ hm
 obtain ⟨n2, a2, cap2, es2, rfl, rd2, hl2, hm2, wn2⟩ := open_graph (hval 2 24 v2 rfl rfl) h2
 have k3 := h3
 have lt3 : ∀ x ∈ p3, x.block < W.heap.size := by obtain ⟨m, hm⟩ := k3; exact DataW.trod_lt m _ _ _ hm
 obtain ⟨a3, cap3, es3, rfl, rd3, hl3, hm3, wn3⟩ := open_nums (hval 3 25 v3 rfl rfl) h3
 clear hA0 hval0
 refine (boughTrees_walk n0 a0 cap0 es0 a1 cap1 es1 n2 a2 cap2 es2 a3 cap3 es3 W rd0 hl0 hm0 wn0 rd1 hl1 hm1 wn1 rd2 hl2 hm2 wn2 rd3 hl3 hm3 wn3).mono fun e W' ⟨he, bel⟩ => ?_
 subst he
 exact ⟨_, rfl, _, _, _, [], _, [], hW', trodAll_mk1 (shut_bool Tryz.underlying4 _), (trodAll_cons_mk (Below.trod rowLaid (by kernel_rfl) (of_decide_eq_true (by kernel_rfl)) k0 bel lt0) (trodAll_cons_mk (Below.trod rowLaid (by kernel_rfl) (of_decide_eq_true (by kernel_rfl)) k1 bel lt1) (trodAll_cons_mk (Below.trod rowLaid (by kernel_rfl) (of_decide_eq_true (by kernel_rfl)) k2 bel lt2) (trodAll_cons_mk (Below.trod rowLaid (by kernel_rfl) (of_decide_eq_true (by kernel_rfl)) k3 bel lt3) trodAll_mk0)))), rfl, bel.frame _, fun h => by cases h⟩
theorem over : Rows.boughTreesRow.holds Tryz.pinned (OpenSpec.ofChange Rows.boughTreesSpec) :=
 OpenClaim.holds_of_wide 3 Tryz.f3 rfl rfl rfl rfl rfl rfl rfl ⟨rfl, rfl, rfl, rfl, rfl⟩ rfl rfl rfl rfl rfl (by kernel_rfl) Tryz.func3 (by kernel_rfl)
  (of_decide_eq_true (by kernel_rfl)) (by unfold Func.isWrapper; first | (rw [if_pos (by decide +kernel)]; kernel_rfl) | (rw [if_neg (by decide +kernel)]; exact ⟨rfl, rfl⟩))
  (fun os started H enc _ => lifted os started H enc)
theorem proved : Rows.BoughTreesSaid := over
end boughTrees
end Go.Proofs.YtagjdkkfmfombaaGreat
