/- Facts that the claim rests on, part 13. -/
import Derived.Test.YtagjdkkfmfombaaGreatKB11
namespace Go.Proofs.YtagjdkkfmfombaaGreat
open Go Go.RowKit Go.Sort
theorem closureW_walk (x y B T gw n : Nat) (wo : Nat → Nat) (w : World) (hx : x < n) (hy : y < n) (hn : n ≤ 1000) (hB : w.cell? ⟨B, 0, none⟩ = some (.pointer (some ⟨T, 0, none⟩))) (hT : w.cell? ⟨T, 5, none⟩ = some (.slice (some ⟨gw, 0, none⟩) n n))
  (cx : w.cell? ⟨gw, x, none⟩ = some (.int .i64 (wo x : Nat))) (cy : w.cell? ⟨gw, y, none⟩ = some (.int .i64 (wo y : Nat))) :
  Calls Tryz.prog 343 #[.int .i64 (x : Nat), .int .i64 (y : Nat), .pointer (some ⟨B, 0, none⟩)] w fun e w' => e = .returned (.int .i64 (cmpW wo x y)) ∧ GrN w w' := by
 have e1 : cmpW wo x y = orI (cmpI (wo x) (wo y)) (cmpI x y) := rfl
 rw [e1]; clear e1
 obtain ⟨p, hp⟩ : ∃ p, p = wo x := ⟨_, rfl⟩
 obtain ⟨q, hq⟩ : ∃ q, q = wo y := ⟨_, rfl⟩
 rw [← hp] at cx ⊢
 rw [← hq] at cy ⊢
 clear hp hq
 have c1 := fun w => compare_any (p : Int) (q : Int) w
 have c2 := fun w => compare_any (x : Int) (y : Int) w
 generalize cmpI (p : Int) (q : Int) = u1 at c1 ⊢
 generalize cmpI (x : Int) (y : Int) = u2 at c2 ⊢
 have i1 : (x : Int) < (n : Int) := by omega
 have i2 : (y : Int) < (n : Int) := by omega
 go_enter Tryz.func343, Tryz.ntmps343
 go_upto_region 1 with (fail)
 refine regionT (fun w' => w'.cell? ⟨B, 0, none⟩ = some (.pointer (some ⟨T, 0, none⟩)) ∧ w'.cell? ⟨T, 5, none⟩ = some (.slice (some ⟨gw, 0, none⟩) n n) ∧ w'.cell? ⟨gw, x, none⟩ = some (.int .i64 (p : Nat)) ∧ w'.cell? ⟨gw, y, none⟩ = some (.int .i64 (q : Nat))) 21 (by kernel_rfl) ?_
 have hS : w.drew.cell? ⟨B, 0, none⟩ = some (.pointer (some ⟨T, 0, none⟩)) ∧ w.drew.cell? ⟨T, 5, none⟩ = some (.slice (some ⟨gw, 0, none⟩) n n) ∧ w.drew.cell? ⟨gw, x, none⟩ = some (.int .i64 (p : Nat)) ∧ w.drew.cell? ⟨gw, y, none⟩ = some (.int .i64 (q : Nat)) := ⟨hB, hT, cx, cy⟩
 clear hB hT cx cy
 refine tkT 0 ?_ rfl hS ?_ ?_ (by kernel_rfl) (fun _ _ _ h => h) (by rfl); rotate_left; (· intro wS hSw; (try dsimp only at hSw); go_simp; try with_reducible rfl); simp only [Act.put, zT]
 refine tkT 1 ?_ rfl hS ?_ ?_ (by kernel_rfl) (fun _ _ _ h => h) (by rfl); rotate_left; (· intro wS hSw; (try dsimp only at hSw); go_simp; try with_reducible rfl); simp only [Act.put, zT]
 refine tkT 2 ?_ rfl hS ?_ ?_ (by kernel_rfl) (fun _ _ _ h => h) (by rfl); rotate_left; (· intro wS hSw; (try dsimp only at hSw); go_simp; try with_reducible rfl); simp only [Act.put, zT]
 refine tkT 3 ?_ rfl hS ?_ ?_ (by kernel_rfl) (fun _ _ _ h => h) (by rfl); rotate_left; (· intro wS hSw; (try dsimp only at hSw); go_simp; try with_reducible rfl); simp only [Act.put, zT]
 refine tkT 4 ?_ rfl hS ?_ ?_ (by kernel_rfl) (fun _ _ _ h => h) (by rfl); rotate_left; (· intro wS hSw; (try dsimp only at hSw); go_simp; try with_reducible rfl); simp only [Act.put, zT]
 refine tkT 5 ?_ rfl hS ?_ ?_ (by kernel_rfl) (fun _ _ _ h => h) (by rfl); rotate_left; (· intro wS hSw; (try dsimp only at hSw); go_simp; try with_reducible rfl); simp only [Act.put, zT]
 refine tkT 6 ?_ rfl hS ?_ ?_ (by kernel_rfl) (fun _ _ _ h => h) (by rfl); rotate_left; (· intro wS hSw; (try dsimp only at hSw); go_simp; try with_reducible rfl); simp only [Act.put, zT]
 refine tkT 7 ?_ rfl hS ?_ ?_ (by kernel_rfl) (fun _ _ _ h => h) (by rfl); rotate_left; (· intro wS hSw; (try dsimp only at hSw); go_simp; try with_reducible rfl); simp only [Act.put, zT]
 refine tkT 8 ?_ rfl hS ?_ ?_ (by kernel_rfl) (fun _ _ _ h => h) (by rfl); rotate_left; (· intro wS hSw; (try dsimp only at hSw); go_simp; try with_reducible rfl); simp only [Act.put, zT]
 refine tkT 9 ?_ rfl hS ?_ ?_ (by kernel_rfl) (fun _ _ _ h => h) (by rfl); rotate_left; (· intro wS hSw; (try dsimp only at hSw); go_simp; try with_reducible rfl); simp only [Act.put, zT]
 refine tkT 10 ?_ rfl hS ?_ ?_ (by kernel_rfl) (fun _ _ _ h => h) (by rfl); rotate_left; (· intro wS hSw; (try dsimp only at hSw); go_simp; try with_reducible rfl); simp only [Act.put, zT]
 refine tkT 11 ?_ rfl hS ?_ ?_ (by kernel_rfl) (fun _ _ _ h => h) (by rfl); rotate_left; (· intro wS hSw; (try dsimp only at hSw); go_simp; try with_reducible rfl); simp only [Act.put, zT]
 refine tkT 12 ?_ rfl hS ?_ ?_ (by kernel_rfl) (fun _ _ _ h => h) (by rfl); rotate_left; (· intro wS hSw; (try dsimp only at hSw); go_simp; try with_reducible rfl); simp only [Act.put, zT]
 refine tkT 13 ?_ rfl hS ?_ ?_ (by kernel_rfl) (fun _ _ _ h => h) (by rfl); rotate_left; (· intro wS hSw; (try dsimp only at hSw); go_simp; try with_reducible rfl); simp only [Act.put, zT]
 refine tkT 15 ?_ rfl hS ?_ ?_ (by kernel_rfl) (fun _ _ _ h => h) (by rfl); rotate_left; (· intro wS hSw; (try dsimp only at hSw); go_simp; try with_reducible rfl); simp only [Act.put, zT]
 refine tkT 16 ?_ rfl hS ?_ ?_ (by kernel_rfl) (fun _ _ _ h => h) (by rfl); rotate_left; (· intro wS hSw; (try dsimp only at hSw); go_simp; try with_reducible rfl); simp only [Act.put, zT]
 refine oneT (i := 14) rfl (by kernel_rfl) (fun K hK => ?_)
 go_simp
 refine (c1 _).mono ?_
 rintro e w' ⟨rfl, rfl⟩
 simp only
 refine hK _ _ (fun _ => hS) ?_
 clear hK K
 refine oneT (i := 17) rfl (by kernel_rfl) (fun K hK => ?_)
 go_simp
 refine (c2 _).mono ?_
 rintro e w' ⟨rfl, rfl⟩
 simp only
 refine hK _ _ (fun _ => hS) ?_
 clear hK K
 refine oneT (i := 18) rfl (by kernel_rfl) (fun K hK => ?_)
 go_simp
 have hb := bl_alloc w.drew (.cells #[.int .i64 u1, .int .i64 u2] 3)
 have hS2 := And.intro (keep_cell hb hS.1) (And.intro (keep_cell hb hS.2.1) (And.intro (keep_cell hb hS.2.2.1) (keep_cell hb hS.2.2.2)))
 refine hK _ _ (fun _ => hS2) ?_
 clear hK K hS
 have hS := hS2
 refine oneT (i := 19) rfl (by kernel_rfl) (fun K hK => ?_)
 go_simp
 refine (or_two _ u1 u2 _ ?_ ?_).mono ?_
 · simp
 · simp
 rintro e w' ⟨rfl, rfl⟩
 simp only
 refine hK _ _ (fun _ => hS) ?_
 clear hK K
 refine tkT 20 ?_ rfl hS ?_ ?_ (by kernel_rfl) (fun _ _ _ h => h) (by rfl); rotate_left; (· intro wS hSw; (try dsimp only at hSw); go_simp; try with_reducible rfl); simp only [Act.put, zT]
 refine doneT (by kernel_rfl) ?_ _
 go_wp2_with fail
 go_ret
 exact ⟨rfl, gr_trans (gr_drew _) (gr_alloc _ _)⟩
theorem cmpW_neg (wo : Nat → Nat) (x y : Nat) : cmpW wo x y < 0 ↔ wo x < wo y ∨ (wo x = wo y ∧ x < y) := by
 unfold cmpW orI cmpI
 repeat' split
 all_goals omega
theorem swo_cmpW (wo : Nat → Nat) : SWO (ltOf (cmpW wo)) where
 irrefl x := by unfold ltOf; rw [decide_eq_false_iff_not, cmpW_neg]; omega
 trans x y z h1 h2 := by
  unfold ltOf at *
  rw [decide_eq_true_eq, cmpW_neg] at *
  omega
 ntrans x y z h1 h2 := by
  unfold ltOf at *
  rw [decide_eq_false_iff_not, cmpW_neg] at *
  omega
theorem sortW_walk (g cap B T gw n : Nat) (wo : Nat → Nat) (l : List Nat) (w : World) (hl : ∀ x ∈ l, x < n) (hne : l ≠ []) (hn : n ≤ 1000) (hll : l.length ≤ 1000) (hr : Row w g 3 1 cap (l.map vN))
  (hB : w.cell? ⟨B, 0, none⟩ = some (.pointer (some ⟨T, 0, none⟩))) (hT : w.cell? ⟨T, 5, none⟩ = some (.slice (some ⟨gw, 0, none⟩) n n)) (hw : Row w gw 3 1 n (intsF n fun k => (wo k : Nat))) (hBg : B ≠ g) (hTg : T ≠ g) (hwg : gw ≠ g) :
  Calls Tryz.prog 247 #[.slice (some ⟨g, 0, none⟩) l.length cap, .func (.func 343) #[] #[.pointer (some ⟨B, 0, none⟩)]] w
   fun e w' => e = .returned (.tuple #[]) ∧ Row w' g 3 1 cap ((l.mergeSort fun x y => !decide (cmpW wo y x < 0)).map vN) ∧ w.grownBy w' (some g) := by
 have eg : ∀ args w, (callFunc 343 args).run Tryz.prog w = .ok (.enter 343 args) w := enters_of Tryz.func343 (by kernel_rfl) rfl
 obtain ⟨x0, hx0⟩ := List.exists_mem_of_ne_nil _ hne
 letI : Inhabited {x : Nat // x < n} := ⟨⟨x0, hl x0 hx0⟩⟩
 obtain ⟨enc, henc⟩ : ∃ enc : {x : Nat // x < n} → Value, enc = fun p => vN p.1 := ⟨_, rfl⟩
 obtain ⟨cf, hcf⟩ : ∃ cf : {x : Nat // x < n} → {x : Nat // x < n} → Int, cf = fun x y => cmpW wo x.1 y.1 := ⟨_, rfl⟩
 obtain ⟨ls, hls⟩ : ∃ ls : List {x : Nat // x < n}, ls.map (fun p => p.1) = l := ⟨l.attach.map fun p => ⟨p.1, hl p.1 p.2⟩, by rw [List.map_map]; exact List.attach_map_subtype_val l⟩
 have hlen : ls.length = l.length := by rw [← hls, List.length_map]
 have hcells : ∀ l : List {x : Nat // x < n}, l.map enc = (l.map fun p => p.1).map vN := fun l => by
  rw [henc, List.map_map]; rfl
 have hrow : Row w g 3 1 cap (ls.map enc) := by rw [hcells, hls]; exact hr
 have hlt : ∀ x y, ltOf cf x y = ltOf (cmpW wo) x.1 y.1 := fun x y => by rw [hcf]; rfl
 have hO : SWO (ltOf cf) := by
  refine ⟨fun x => ?_, fun x y z h1 h2 => ?_, fun x y z h1 h2 => ?_⟩
  · rw [hlt]; exact (swo_cmpW wo).irrefl _
  · rw [hlt] at *; exact (swo_cmpW wo).trans _ _ _ h1 h2
  · rw [hlt] at *; exact (swo_cmpW wo).ntrans _ _ _ h1 h2
 have h1 : OneCell enc := fun x => by rw [henc]; rfl
 have hcmp : CmpLays1 Tryz.prog 343 #[.pointer (some ⟨B, 0, none⟩)] enc cf g 0 ls.toArray.size w := by
  intro m os dk hdk x y
  have hg := (Row.sorted1 (n := m) (os := os) enc hrow (ts := dk.toList) (by simpa using hdk)).2
  have hw2 := hw.grown hg fun e => hwg (by cases e; rfl)
  have hc := closureW_walk x.1 y.1 B T gw n wo _ x.2 y.2 hn (hg.cell hB fun e => hBg (by cases e; rfl)) (hg.cell hT fun e => hTg (by cases e; rfl)) (hw2.ints x.2) (hw2.ints y.2)
  rw [Array.toArray_toList] at hc
  have hc2 : Calls Tryz.prog 343 (#[enc x, enc y] ++ #[.pointer (some ⟨B, 0, none⟩)]) (sortWorld enc w g 0 m dk os) fun e w' => e = .returned (.int .i64 (cmpW wo x.1 y.1)) ∧ GrN (sortWorld enc w g 0 m dk os) w' := by
   rw [henc] at hc ⊢; exact hc
  refine hc2.mono ?_
  rintro e w' ⟨rfl, q, os', rfl⟩
  exact ⟨by rw [hcf], q, os', rfl⟩
 have hcon := Tryz.slices_SortFunc_total enc h1 cf hO 343 #[.pointer (some ⟨B, 0, none⟩)] g 0 cap ls.toArray w eg hcmp (Row.holds1 enc hrow) hr.lt (by simp; omega) (fun x y h1 h2 => by
  rw [hlt] at h1 h2
  unfold ltOf at h1 h2
  rw [decide_eq_false_iff_not, cmpW_neg] at h1 h2
  exact Subtype.ext (by omega))
 simp only [List.size_toArray, hlen] at hcon
 refine hcon.mono ?_
 rintro e w' ⟨rfl, m, os, rfl⟩
 obtain ⟨ts, hts⟩ : ∃ ts, ts = ls.mergeSort fun x y => !ltOf cf y x := ⟨_, rfl⟩
 obtain ⟨r1, r2⟩ := Row.sorted1 (n := m) (os := os) enc hrow (ts := ts) (by rw [hts]; simp)
 have hpm : ts.map (fun p => p.1) = l.mergeSort fun x y => !decide (cmpW wo y x < 0) := by
  have le_tr : ∀ a b c : Nat, (!decide (cmpW wo b a < 0)) = true → (!decide (cmpW wo c b < 0)) = true → (!decide (cmpW wo c a < 0)) = true := fun a b c h1 h2 => by
   simp only [Bool.not_eq_true', decide_eq_false_iff_not, cmpW_neg] at *
   omega
  have le_to : ∀ a b : Nat, ((!decide (cmpW wo b a < 0)) || (!decide (cmpW wo a b < 0))) = true := fun a b => by
   simp only [Bool.or_eq_true, Bool.not_eq_true', decide_eq_false_iff_not, cmpW_neg]; omega
  refine List.Perm.eq_of_pairwise (le := fun x y => (!decide (cmpW wo y x < 0)) = true) (fun a b _ _ h1 h2 => ?_) ?_ (List.pairwise_mergeSort le_tr le_to l) ?_
  ·
   simp only [Bool.not_eq_true', decide_eq_false_iff_not, cmpW_neg] at h1 h2; omega
  ·
   rw [List.pairwise_map, hts]
   have := List.pairwise_mergeSort (le := fun x y => !ltOf cf y x) (fun a b c h1 h2 => by
    rw [hlt] at *; exact le_tr a.1 b.1 c.1 h1 h2) (fun a b => by rw [hlt, hlt]; exact le_to a.1 b.1) ls
   exact this.imp fun h => by rw [hlt] at h; exact h
  ·
   have h3 : (ts.map fun p => p.1).Perm (ls.map fun p => p.1) := by
    rw [hts]; exact (List.mergeSort_perm _ _).map _
   rw [hls] at h3; exact h3.trans (List.mergeSort_perm _ _).symm
 rw [hcells, hpm] at r1
 rw [← hts]
 exact ⟨rfl, r1, r2⟩
end Go.Proofs.YtagjdkkfmfombaaGreat
namespace Go.Proofs.YtagjdkkfmfombaaGreat
open Go Go.RowKit Go.Sort
theorem kids_take (D : Kt) (k j x : Nat) (hx : (D.bs k)[j]? = some x) : ((D.bs k).take (j + 1)).filter (fun x : Nat => !decide ((x : Int) = D.up k)) = ((D.bs k).take j).filter (fun x : Nat => !decide ((x : Int) = D.up k)) ++ if (x : Int) = D.up k then [] else [x] := by
 rw [List.take_add_one, hx, List.filter_append]
 congr 1
 by_cases e : (x : Int) = D.up k <;> simp [e]
theorem below_mem {D : Kt} {wo : Nat → Nat} {k x : Nat} : x ∈ D.below wo k ↔ x ∈ D.bs k ∧ (x : Int) ≠ D.up k := by
 unfold Kt.below Kt.kids
 rw [List.mem_mergeSort, List.mem_filter]
 simp
def RetIn (w : World) (l : List Nat) (e : Ending) (w' : World) : Prop := ∃ a c, e = .returned (.slice a l.length c) ∧ CellsAt w' a (l.map vN) ∧ (∀ ad, a = some ad → w.heap.size ≤ ad.block) ∧ Below w.heap.size w w'
set_option maxRecDepth 100000 in
set_option maxHeartbeats 4000000 in
theorem below_walk {D : Kt} {nv : Nat} {A : Lay} {F : Int → Option Int} (ok : D.Ok nv F) (k : Nat) (hk : k < D.n) (wo : Nat → Nat) (w : World) (hT : TreeW D nv A F w) (hw : Row w A.gw 3 1 D.n (intsF D.n fun k => (wo k : Nat))) :
  Calls Tryz.prog 342 #[.pointer (some ⟨A.T, 0, none⟩), .int .i64 (k : Nat)] w (RetIn w (D.below wo k)) := by
 have hb1 := bl_alloc w (.cells #[.pointer (some ⟨A.T, 0, none⟩)] 81)
 have hB : (w.alloc (.cells #[.pointer (some ⟨A.T, 0, none⟩)] 81)).cell? ⟨w.heap.size, 0, none⟩ = some (.pointer (some ⟨A.T, 0, none⟩)) := by simp
 have hBl : w.heap.size < (w.alloc (.cells #[.pointer (some ⟨A.T, 0, none⟩)] 81)).heap.size := by simp
 have hwl := hw.lt
 have hw1 := hw.below hb1 hwl
 have hT1 := hT.below hb1
 have hTl := World.block_lt_of_cell? w _ hT.t1.1
 simp only at hTl
 obtain ⟨n, hn⟩ : ∃ n, n = D.n := ⟨_, rfl⟩
 have hn1 : n ≤ 1000 := by rw [hn]; exact ok.nl
 obtain ⟨u, hu⟩ : ∃ u, u = D.up k := ⟨_, rfl⟩
 obtain ⟨au, cu, hbk, hau⟩ := hT1.bes k hk
 have hbl := ok.bsl k
 have p1 := hT1.t1.1
 have p3 := hT1.t3.1
 have pu := (hT1.up k hk).1
 have pb := hbk.1
 rw [← hn] at hk p1 p3 hbl
 rw [← hu] at pu
 obtain ⟨l, hl⟩ : ∃ l, l = D.bs k := ⟨_, rfl⟩
 rw [← hl] at pb hbl
 have i0 : (k : Int) < (n : Int) := by omega
 have Hb1 := Lib.hid hb1; have Hw1 := Lib.hid hw1; have HT1 := Lib.hid hT1; have Hau := Lib.hid hau; have Hn := Lib.hid hn; have Hu := Lib.hid hu; have Hl := Lib.hid hl; have Hok := Lib.hid ok
 clear hb1 hw1 hT1 hT hw hau hn hu hbk hl ok
 go_enter Tryz.func342, Tryz.ntmps342
 go_upto_region 1 with (fail)
 generalize w.alloc (.cells #[.pointer (some ⟨A.T, 0, none⟩)] 81) = w1 at *
 have hnl : Own w1 (.slice none 0 0) 3 1 0 [] := own_nil _ _ _
 go_upto_region 3 with (fail)
 go_loopg [5, 16] l.length (fun r lv iv wj => ∃ (j : Nat) (S : List Nat), j + r = l.length ∧ iv = .int .i64 (j : Nat) ∧ S = (l.take j).filter (fun x : Nat => !decide ((x : Int) = u)) ∧ Own wj lv 3 1 S.length (S.map vN) ∧ (∀ g, lv.ownBlock = some g → w1.heap.size ≤ g) ∧ Below w1.heap.size w1 wj)
 case atStart => exact ⟨0, [], by omega, rfl, by simp, hnl, fun g hg => by simp [Value.ownBlock] at hg, bl_refl _⟩
 case round =>
  clear hnl
  obtain ⟨j, S, hj, rfl, hS, hown, hyoung, hB1⟩ := hrel
  have Hj := Lib.hid hj; have HS := Lib.hid hS; have Hyoung := Lib.hid hyoung
  clear hS hyoung
  by_cases hjl : j < l.length
  ·
   clear hj; obtain ⟨x, hx⟩ : ∃ x, l[j]? = some x := ⟨_, List.getElem?_eq_getElem hjl⟩
   have hxn : x < n := by rw [Hn.out]; exact Hok.out.bs k x (by rw [← Hl.out]; exact List.mem_of_getElem? hx)
   obtain ⟨b, o, hab, c0⟩ := Hau.out j (vN x) (by rw [List.getElem?_map, ← Hl.out, hx]; rfl); subst hab; have cX : wr.cell? ⟨b, o + j, none⟩ = some (.int .i64 (x : Nat)) := keep_cell hB1 c0.1; have cB := keep_cell hB1 hB; have c3 := keep_cell hB1 p3; have cu := keep_cell hB1 pu; have hkt : (l.take (j + 1)).filter (fun x : Nat => !decide ((x : Int) = u)) = S ++ if (x : Int) = u then [] else [x] := by
    have := kids_take D k j x (by rw [← Hl.out]; exact hx); rw [← Hl.out, ← Hu.out, ← HS.out] at this; exact this
   have hSl : S.length ≤ 1000 := by
    have := List.length_filter_le (fun x : Nat => !decide ((x : Int) = u)) (l.take j); rw [← HS.out, List.length_take] at this; omega
   have i1 : (j : Int) < (l.length : Int) := by omega
   have Hown := Lib.hid hown; have HB1 := Lib.hid hB1; have Hkt := Lib.hid hkt; clear hown hB1 hkt hx c0; by_cases hux : (x : Int) = u
   ·
    have e1 : ((x : Int) != u) = false := by simp [hux]
    have hkt2 : S = (l.take (j + 1)).filter (fun x : Nat => !decide ((x : Int) = u)) := by rw [Hkt.out, if_pos hux, List.append_nil]
    have Hkt2 := Lib.hid hkt2; clear hux hkt2; go_wp2_with fail; go_roundg (gk - 1)
    case measure => have := Hj.out; omega
    case rel => exact ⟨j + 1, S, by have := Hj.out; omega, by go_num, Hkt2.out, Hown.out, Hyoung.out, HB1.out⟩
   ·
    have e1 : ((x : Int) != u) = true := by simp [hux]
    have hkt2 : S ++ [x] = (l.take (j + 1)).filter (fun x : Nat => !decide ((x : Int) = u)) := by rw [Hkt.out, if_neg hux]
    have Hkt2 := Lib.hid hkt2; have hAl := Hown.out.alloc (.cells #[.int .i64 (x : Nat)] 3); have hBa := bl_trans HB1.out (bl_alloc wr (.cells #[.int .i64 (x : Nat)] 3)); have hws := HB1.out.size; have HAl := Lib.hid hAl; have HBa := Lib.hid hBa; clear hux hkt2 hAl hBa Hown HB1; go_wp2_with (at_builtin; go_loud (refine wpList_append_row _ rfl (.tmp 29) (.tmp 31) 25 rfl 3 (.int .i64 0) 1 8 Tryz.underlying25 int_info rfl u5 S.length _ rfl HAl.out ⟨wr.heap.size, 0, none⟩ 1 1 [.int .i64 (x : Nat)] rfl rfl (one_new (by simp)) (one_ok _ _) (by omega) (by unfold maxLen; omega) (by omega) ?_; intro g5 c5 w5 hr5 hc5 hg5 hor5)); have hyg : w1.heap.size ≤ g5 := by
     rcases hor5 with h | h
     · exact Hyoung.out g5 h
     · simp at h; omega
    have hB5 := HBa.out.grown hg5 (by simp; omega) (fun q hq => Hyoung.out q hq); have hown5 : Own w5 (.slice (some ⟨g5, 0, none⟩) (S.length + 1) c5) 3 1 (S ++ [x]).length ((S ++ [x]).map vN) := by
     have h1 := hr5.own1; have e1 : S.map vN ++ [Value.int .i64 (x : Int)] = (S ++ [x]).map vN := by rw [List.map_append]; rfl
     rw [e1] at h1; simpa using h1
    have HB5 := Lib.hid hB5; have Hown5 := Lib.hid hown5; clear hB5 hown5 hr5 hc5 hg5 hor5; go_wp2_with fail; go_roundg (gk - 1)
    case measure => have := Hj.out; omega
    case rel => exact ⟨j + 1, S ++ [x], by have := Hj.out; omega, by go_num, Hkt2.out, Hown5.out, fun q hq => by cases hq; exact hyg, HB5.out⟩
  ·
   have hjn : j = l.length := by omega
   have hSk : S = D.kids k := by
    rw [HS.out, hjn, List.take_length]; unfold Kt.kids; rw [← Hl.out, ← Hu.out]
   have hbw : D.below wo k = S.mergeSort fun x y => !decide (cmpW wo y x < 0) := by unfold Kt.below; rw [hSk]
   have hSl : S.length ≤ 1000 := by
    have := List.length_filter_le (fun x : Nat => !decide ((x : Int) = u)) (l.take j); rw [← HS.out, List.length_take] at this; omega
   have hSn : ∀ x ∈ S, x < n := fun x hx => by
    rw [HS.out] at hx; have := List.mem_of_mem_take (List.mem_filter.1 hx).1; rw [Hn.out]; exact Hok.out.bs k x (by rw [← Hl.out]; exact this)
   have Hbw := Lib.hid hbw; have hBB := bl_trans Hb1.out hB1; have hw2 := Hw1.out.below hB1 (by omega); have hT5 := keep_cell hB1 (HT1.out.t5).1; have cB := keep_cell hB1 hB; rw [← Hn.out] at hw2 hT5; clear hbw hSk hj; rcases hown.2 with ⟨rfl, h0⟩ | ⟨g, cg, rfl, hcg, hrg⟩
   ·
    obtain rfl := List.eq_nil_of_length_eq_zero h0; have hcon := fun fv => Tryz.slices_SortFunc_none_f247 (α := Nat) none 0 fv wr; have HBB := Lib.hid hBB; have Hcon := Lib.hid hcon; clear hBB hcon hown hB1 hw2 hT5; go_wp2_with fail; refine (Hcon.out _).mono ?_; rintro e w2 ⟨rfl, rfl⟩; go_wp2_with fail; go_ret; rw [Hbw.out]; exact ⟨none, 0, by simp, fun i u hu => by simp at hu, fun ad ha => (by cases ha), HBB.out⟩
   ·
    by_cases hne : S = []
    ·
     subst hne; have hcon := fun fv => Tryz.slices_SortFunc_none_f247 (α := Nat) (some ⟨g, 0, none⟩) cg fv wr; have HBB := Lib.hid hBB; have Hcon := Lib.hid hcon; have hyg := Hyoung.out g rfl; have hs1 := Hb1.out.size; clear hBB hcon hown hB1 hw2 hT5; go_wp2_with fail; refine (Hcon.out _).mono ?_; rintro e w2 ⟨rfl, rfl⟩; go_wp2_with fail; go_ret; rw [Hbw.out]; exact ⟨some ⟨g, 0, none⟩, cg, by simp, fun i u hu => by simp at hu, fun ad ha => by cases ha; show w.heap.size ≤ g; omega, HBB.out⟩
    ·
     have hyg := Hyoung.out g rfl; have hs1 := Hb1.out.size; have hcon := sortW_walk g cg w.heap.size A.T A.gw n wo S wr hSn hne hn1 hSl hrg cB hT5 hw2 (by omega) (by omega) (by omega); have HBB := Lib.hid hBB; have Hcon := Lib.hid hcon; have hwrs := hBB.size; clear hBB hcon hown hB1 hw2 hT5 hne; go_wp2_with fail; refine Hcon.out.mono ?_; rintro e w2 ⟨rfl, hr2, hg2⟩; have hB2 := HBB.out.grown hg2 hwrs (fun q hq => by cases hq; omega); have Hr2 := Lib.hid hr2; have HB2 := Lib.hid hB2; clear hr2 hg2 hB2; go_wp2_with fail; go_ret; rw [Hbw.out]; exact ⟨some ⟨g, 0, none⟩, cg, by simp, Hr2.out.at_, fun ad ha => by cases ha; show w.heap.size ≤ g; omega, HB2.out⟩
end Go.Proofs.YtagjdkkfmfombaaGreat
namespace Go.Proofs.YtagjdkkfmfombaaGreat
open Go Go.RowKit
def RetKey (w : World) (key : List Int) (e : Ending) (w' : World) : Prop :=
 ∃ g c, e = .returned (.tuple #[.slice (some ⟨g, 0, none⟩) key.length c, .int .i64 0]) ∧ Row w' g 5 1 c (key.map byteV) ∧ key.length ≤ c ∧ w.heap.size ≤ g ∧ RowKit.Below w.heap.size w w'
set_option maxRecDepth 100000 in
set_option maxHeartbeats 4000000 in
theorem cutWeigh_walk {D : Kt} {nv : Nat} {A : Lay} {F : Int → Option Int} (ok : D.Ok nv F) (k : Nat) (hm : D.m ≤ k) (hk : k < D.n) (wo : Nat → Nat) (w : World) (hT : TreeW D nv A F w) (hw : Row w A.gw 3 1 D.n (intsF D.n fun k => (wo k : Nat))) :
  Calls Tryz.prog 341 #[.pointer (some ⟨A.bo k, 0, none⟩), .pointer (some ⟨A.T, 0, none⟩)] w (RetKey w (D.keyC wo k)) := by
 have hbw := fun w hT hw => below_walk (A := A) ok k hk wo w hT hw
 have hcvn := ok.cv k hm hk
 have pa := (hT.at_ k hk).1
 have pc := (hT.cut k hm hk).1
 have ps := (hT.shade _ hcvn).1
 obtain ⟨c6, h6⟩ := hT.t6
 have p6 := h6.1
 have p5 := hT.t5.1
 obtain ⟨v, hv⟩ : ∃ v, v = D.cv k := ⟨_, rfl⟩
 rw [← hv] at pc ps hcvn
 obtain ⟨s, hs⟩ : ∃ s, s = D.sh v := ⟨_, rfl⟩
 rw [← hs] at ps
 obtain ⟨l, hl⟩ : ∃ l, l = D.below wo k := ⟨_, rfl⟩
 rw [← hl] at hbw
 have hln : ∀ x ∈ l, x < D.n := fun x hx => by rw [hl] at hx; exact ok.bs k x (below_mem.1 hx).1
 have hll : l.length ≤ D.n := by
  rw [hl]; unfold Kt.below
  rw [List.length_mergeSort]
  exact Nat.le_trans (List.length_filter_le _ _) (ok.bsl k)
 have hkey : D.keyC wo k = bytesL ((s : Int) :: l.map fun x => (wo x : Int)) := by unfold Kt.keyC; rw [← hv, ← hs, ← hl]
 obtain ⟨n, hn⟩ : ∃ n, n = D.n := ⟨_, rfl⟩
 have hn1 : n ≤ 1000 := by rw [hn]; exact ok.nl
 rw [← hn] at p5 hln hll
 have hnv := ok.nvl
 have hT0 := World.block_lt_of_cell? w _ p6
 simp only at hT0
 have i0 : (v : Int) < (nv : Int) := by omega
 have Hbw := Lib.hid hbw; have HT := Lib.hid hT; have Hw := Lib.hid hw; have Hln := Lib.hid hln; have Hkey := Lib.hid hkey; have Hn := Lib.hid hn
 clear hbw hT hw hln hkey h6 hv hs hl hn ok
 go_enter Tryz.func341, Tryz.ntmps341
 go_wp2_with fail
 refine regionT (fun w' => w'.cell? ⟨A.T, 6, none⟩ = some (.slice (some ⟨A.gs, 0, none⟩) nv c6) ∧ w'.cell? ⟨A.bo k, 1, none⟩ = some (.int .i64 (v : Nat)) ∧ w'.cell? ⟨A.gs, v, none⟩ = some (.int .i64 (s : Nat))) 12 (by kernel_rfl) ?_
 have hS : w.drew.cell? ⟨A.T, 6, none⟩ = some (.slice (some ⟨A.gs, 0, none⟩) nv c6) ∧ w.drew.cell? ⟨A.bo k, 1, none⟩ = some (.int .i64 (v : Nat)) ∧ w.drew.cell? ⟨A.gs, v, none⟩ = some (.int .i64 (s : Nat)) := ⟨p6, pc, ps⟩
 refine tkT 0 ?_ rfl hS ?_ ?_ (by kernel_rfl) (fun _ _ _ h => h) (by rfl); rotate_left; (· intro wS hSw; (try dsimp only at hSw); go_simp; try with_reducible rfl); simp only [Act.put, zT]
 refine tkT 1 ?_ rfl hS ?_ ?_ (by kernel_rfl) (fun _ _ _ h => h) (by rfl); rotate_left; (· intro wS hSw; (try dsimp only at hSw); go_simp; try with_reducible rfl); simp only [Act.put, zT]
 refine tkT 2 ?_ rfl hS ?_ ?_ (by kernel_rfl) (fun _ _ _ h => h) (by rfl); rotate_left; (· intro wS hSw; (try dsimp only at hSw); go_simp; try with_reducible rfl); simp only [Act.put, zT]
 refine tkT 3 ?_ rfl hS ?_ ?_ (by kernel_rfl) (fun _ _ _ h => h) (by rfl); rotate_left; (· intro wS hSw; (try dsimp only at hSw); go_simp; try with_reducible rfl); simp only [Act.put, zT]
 refine tkT 4 ?_ rfl hS ?_ ?_ (by kernel_rfl) (fun _ _ _ h => h) (by rfl); rotate_left; (· intro wS hSw; (try dsimp only at hSw); go_simp; try with_reducible rfl); simp only [Act.put, zT]
 refine tkT 5 ?_ rfl hS ?_ ?_ (by kernel_rfl) (fun _ _ _ h => h) (by rfl); rotate_left; (· intro wS hSw; (try dsimp only at hSw); go_simp; try with_reducible rfl); simp only [Act.put, zT]
 refine tkT 6 ?_ rfl hS ?_ ?_ (by kernel_rfl) (fun _ _ _ h => h) (by rfl); rotate_left; (· intro wS hSw; (try dsimp only at hSw); go_simp; try with_reducible rfl); simp only [Act.put, zT]
 refine tkT 7 ?_ rfl hS ?_ ?_ (by kernel_rfl) (fun _ _ _ h => h) (by rfl); rotate_left; (· intro wS hSw; (try dsimp only at hSw); go_simp; try with_reducible rfl); simp only [Act.put, zT]
 refine tkT 8 ?_ rfl hS ?_ ?_ (by kernel_rfl) (fun _ _ _ h => h) (by rfl); rotate_left; (· intro wS hSw; (try dsimp only at hSw); go_simp; try with_reducible rfl); simp only [Act.put, zT]
 refine tkT 9 ?_ rfl hS ?_ ?_ (by kernel_rfl) (fun _ _ _ h => h) (by rfl); rotate_left; (· intro wS hSw; (try dsimp only at hSw); go_simp; try with_reducible rfl); simp only [Act.put, zT]
 refine oneT (i := 10) rfl (by kernel_rfl) (fun K hK => ?_)
 go_simp
 have hb := (bl_alloc w (.cells #[.int .i64 (s : Nat)] 3)).drew
 have hr0 : Row (w.alloc (.cells #[.int .i64 (s : Nat)] 3)).drew w.heap.size 3 1 1 [.int .i64 (s : Nat)] := by
  have := (row_lit w [.int .i64 (s : Nat)] 3 (by simp [maxLen])).drew
  exact this
 have hS2 := And.intro (keep_cell hb hS.1) (And.intro (keep_cell hb hS.2.1) (keep_cell hb hS.2.2))
 refine hK _ _ (fun _ => hS2) ?_
 clear hK K hS
 have hS := hS2
 refine tkT 11 ?_ rfl hS ?_ ?_ (by kernel_rfl) (fun _ _ _ h => h) (by rfl); rotate_left; (· intro wS hSw; (try dsimp only at hSw); go_simp; try with_reducible rfl); simp only [Act.put, zT]
 refine doneT (by kernel_rfl) ?_ _
 have Hb := Lib.hid hb; have Hr0 := Lib.hid hr0
 have hTa := HT.out.below hb
 have hwa := Hw.out.below hb Hw.out.lt
 have pa1 := keep_cell hb pa
 have p51 := keep_cell hb p5
 have hbs := Hbw.out _ hTa hwa
 have hsz := hb.size
 have Hbs := Lib.hid hbs; have HTa := Lib.hid hTa; have Hwa := Lib.hid hwa
 have hwl := Hr0.out.lt
 clear hb hr0 hTa hwa hbs hS hS2 p6 pc ps pa p5
 generalize (w.alloc (.cells #[.int .i64 (s : Nat)] 3)).drew = w1 at *
 go_wp2_with fail
 refine Hbs.out.mono ?_
 rintro e w2 ⟨al, cl, rfl, hal, hag, hb2⟩
 have hr2 := Hr0.out.below hb2 hwl
 have hw2 := Hwa.out.below hb2 Hwa.out.lt
 have p52 := keep_cell hb2 p51
 have hB2 := bl_trans Hb.out hb2
 have hgwl := Hw.out.lt
 have Hal := Lib.hid hal; have Hr2 := Lib.hid hr2; have Hw2 := Lib.hid hw2; have HB2 := Lib.hid hB2
 have hs2 := hb2.size
 clear hal hr2 hw2 hb2 Hr0 Hwa hB2
 go_wp2_with fail
 go_loopg [6, 27] l.length (fun r sv iv wj => ∃ (j g c : Nat), j + r = l.length ∧ iv = .int .i64 (j : Nat) ∧ sv = .slice (some ⟨g, 0, none⟩) (j + 1) c ∧ Row wj g 3 1 c (((s : Int) :: (l.take j).map fun x => (wo x : Int)).map (Value.int .i64)) ∧ j + 1 ≤ c ∧ w.heap.size ≤ g ∧ Row wj A.gw 3 1 n (intsF n fun k => (wo k : Nat)) ∧ wj.cell? ⟨A.T, 5, none⟩ = some (.slice (some ⟨A.gw, 0, none⟩) n n) ∧ CellsAt wj al (l.map vN) ∧ (∀ ad, al = some ad → ad.block ≠ g) ∧ RowKit.Below w.heap.size w wj)
 case atStart => exact ⟨0, w.heap.size, 1, by omega, rfl, rfl, Hr2.out, by omega, Nat.le_refl _, by rw [Hn.out]; exact Hw2.out, p52, Hal.out, fun ad ha => by have := hag ad ha; omega, HB2.out⟩
 case round =>
  clear Hr2 Hw2 Hal HB2 p52
  obtain ⟨j, g, c, hj, rfl, rfl, hr, hjc, hg, hw, p5, hal, hne, hB⟩ := hrel
  have Hj := Lib.hid hj
  by_cases hjl : j < l.length
  ·
   clear hj; obtain ⟨x, hx⟩ : ∃ x, l[j]? = some x := ⟨_, List.getElem?_eq_getElem hjl⟩
   have hxn := Hln.out x (List.mem_of_getElem? hx); obtain ⟨b, o, rfl, c0⟩ := hal j (vN x) (by rw [List.getElem?_map, hx]; rfl); replace c0 : wr.cell? ⟨b, o + j, none⟩ = some (.int .i64 (x : Nat)) := c0; have cw := hw.ints hxn; have htk : l.take (j + 1) = l.take j ++ [x] := by rw [List.take_add_one, hx]; rfl
   have hln2 : (((s : Int) :: (l.take j).map fun x => (wo x : Int)).map (Value.int .i64)).length = j + 1 := by
    rw [List.length_map, List.length_cons, List.length_map, List.length_take]; omega
   obtain ⟨z, hz⟩ : ∃ z, z = wo x := ⟨_, rfl⟩
   rw [← hz] at cw; have i1 : (j : Int) < (l.length : Int) := by omega
   have i2 : (x : Int) < (n : Int) := by omega
   have hAl := hr.own1.alloc (.cells #[.int .i64 (z : Nat)] 3); rw [hln2] at hAl; have hgl := hr.lt; have hgw := hw.lt; have hba := bl_alloc wr (.cells #[.int .i64 (z : Nat)] 3); have hwa := hw.below hba hgw; have hala := hal.below hba; have p5a := keep_cell hba p5; have hBa := bl_trans hB hba; have hTl := World.block_lt_of_cell? w1 _ p51; have hsB := hB.size; have HAl := Lib.hid hAl; have Hwa := Lib.hid hwa; have Hala := Lib.hid hala; have HBa := Lib.hid hBa; have Htk := Lib.hid htk; have Hz := Lib.hid hz; have Hp5a := Lib.hid p5a; clear hAl hwa hala hBa htk hz hr hw hal hB hx hba p5a; go_wp2_with (at_builtin; go_loud (refine wpList_append_row _ rfl (.tmp 31) (.tmp 39) 25 rfl 3 (.int .i64 0) 1 8 Tryz.underlying25 int_info rfl (.slice (some ⟨g, 0, none⟩) (j + 1) c) (j + 1) _ rfl HAl.out ⟨wr.heap.size, 0, none⟩ 1 1 [.int .i64 (z : Nat)] rfl rfl (one_new (by simp)) (one_ok _ _) (by omega) (by unfold maxLen; omega) (by omega) ?_; intro g5 c5 w5 hr5 hc5 hg5 hor5)); have hbwr : b < wr.heap.size := World.block_lt_of_cell? wr ⟨b, o + j, none⟩ c0; have hyg : w.heap.size ≤ g5 ∧ b ≠ g5 := by
    have hbl : b ≠ g := hne ⟨b, o, none⟩ rfl; rcases hor5 with h | h
    · cases h; exact ⟨hg, hbl⟩
    · simp at h; omega
   have hw5 := Hwa.out.grown hg5 (by simp [Value.ownBlock]; omega); have hp5 := grown_cell hg5 Hp5a.out (by simp [Value.ownBlock]; omega); have hal5 := Hala.out.grown hg5 fun ad ha e => by have := hne ad ha; cases e; exact this rfl
   have hB5 := HBa.out.grown hg5 (by simp; omega) (fun q hq => by cases hq; exact hg); have hr6 : Row w5 g5 3 1 c5 (((s : Int) :: (l.take (j + 1)).map fun x => (wo x : Int)).map (Value.int .i64)) := by
    rw [Htk.out, List.map_append, List.map_cons, List.map_append, ← List.cons_append, ← List.map_cons]; rw [Hz.out] at hr5; exact hr5
   have Hw5 := Lib.hid hw5; have Hal5 := Lib.hid hal5; have HB5 := Lib.hid hB5; have Hr6 := Lib.hid hr6; have Hp5 := Lib.hid hp5; clear hw5 hal5 hB5 hr6 hr5 hg5 hor5 hp5; go_wp2_with fail; go_roundg (gk - 1)
   case measure => have := Hj.out; omega
   case rel => exact ⟨j + 1, g5, c5, by have := Hj.out; omega, by go_num, rfl, Hr6.out, hc5, hyg.1, Hw5.out, Hp5.out, Hal5.out, fun ad ha => by cases ha; exact hyg.2, HB5.out⟩
  ·
   have hjn : j = l.length := by omega
   rw [hjn, List.take_length] at hr; have hnum : RdI wr (some ⟨g, 0, none⟩) ((s : Int) :: l.map fun x => (wo x : Int)) := hr.at_; have hcon := bytes_walk (some ⟨g, 0, none⟩) c _ wr hnum (by simp; omega); have hl2 : ((s : Int) :: l.map fun x => (wo x : Int)).length = j + 1 := by simp [hjn]
   rw [hl2] at hcon; obtain ⟨key, hk2⟩ : ∃ key, key = bytesL ((s : Int) :: l.map fun x => (wo x : Int)) := ⟨_, rfl⟩
   have hkd : D.keyC wo k = key := by rw [hk2]; exact Hkey.out
   rw [← hk2] at hcon; have Hkd := Lib.hid hkd; clear hk2 hkd Hkey; have HB := Lib.hid hB; have Hcon := Lib.hid hcon; have hBs := hB.size; clear hr hw p5 hal hB hnum hcon hl2 hjn hj; go_wp2_with fail; refine Hcon.out.mono ?_; rintro e w5 ⟨gc, cc, rfl, hrc, hcc, hgc, hb5⟩; have hB5 := bl_trans HB.out hb5; clear hb5; go_wp2_with fail; go_ret2; rw [Hkd.out]; exact ⟨gc, cc, rfl, hrc, hcc, by omega, hB5⟩
end Go.Proofs.YtagjdkkfmfombaaGreat
namespace Go.Proofs.YtagjdkkfmfombaaGreat
open Go Go.RowKit
def nmX (b : Nat) (a : Addr) : Prop := a.block = b ∧ 3 ≤ a.off
structure NmOk (w : World) (b : Nat) : Prop where
 c3 : ∃ v, w.cell? ⟨b, 3, none⟩ = some v
 c4 : ∃ v, w.cell? ⟨b, 4, none⟩ = some v
 fz : ∀ i, w.frozen? ⟨b, i, none⟩ = false
theorem NmOk.below {w w' : World} {b : Nat} (h : NmOk w b) (hb : RowKit.Below w.heap.size w w') : NmOk w' b := by
 obtain ⟨v3, h3⟩ := h.c3
 obtain ⟨v4, h4⟩ := h.c4
 have hl : b < w.heap.size := World.block_lt_of_cell? w ⟨b, 3, none⟩ h3
 exact ⟨⟨v3, keep_cell hb h3⟩, ⟨v4, keep_cell hb h4⟩, fun i => (hb.frozen (p := ⟨b, i, none⟩) hl).trans (h.fz i)⟩
theorem NmOk.lt {w : World} {b : Nat} (h : NmOk w b) : b < w.heap.size := by
 obtain ⟨v3, h3⟩ := h.c3
 exact World.block_lt_of_cell? w ⟨b, 3, none⟩ h3
theorem NmOk.set {w : World} {b : Nat} (h : NmOk w b) (a : Addr) (u : Value) : NmOk (w.setCell a u) b := by
 have key : ∀ i v, w.cell? ⟨b, i, none⟩ = some v → ∃ v', (w.setCell a u).cell? ⟨b, i, none⟩ = some v' := fun i v hv => by
  by_cases e : a = ⟨b, i, none⟩
  ·
   subst e; exact ⟨u, World.cell?_setCell_same _ _ _ hv⟩
  · exact ⟨v, by rw [World.cell?_setCell_other _ _ _ _ e]; exact hv⟩
 obtain ⟨v3, h3⟩ := h.c3
 obtain ⟨v4, h4⟩ := h.c4
 exact ⟨key 3 v3 h3, key 4 v4 h4, fun i => (World.frozen?_setCell ..).trans (h.fz i)⟩
def NmIs (w : World) (base b : Nat) (key : List Int) (os : List Nat) (g c : Nat) : Prop := ∃ g2 c2, w.cell? ⟨b, 3, none⟩ = some (.slice (some ⟨g, 0, none⟩) key.length c) ∧ w.cell? ⟨b, 4, none⟩ = some (.slice (some ⟨g2, 0, none⟩) 2 c2) ∧ Row w g2 3 1 c2 (os.map vN) ∧ base ≤ g2
def RetBW (w : World) (b : Nat) (key : List Int) (os : List Nat) (e : Ending) (w' : World) : Prop :=
 ∃ g c, e = .returned (.tuple #[.slice (some ⟨g, 0, none⟩) key.length c, .int .i64 0]) ∧ Row w' g 5 1 c (key.map byteV) ∧ key.length ≤ c ∧ w.heap.size ≤ g ∧ NmIs w' w.heap.size b key os g c ∧ NmOk w' b ∧ BelX w.heap.size (nmX b) w w'
theorem tint_le {D : Kt} {nv : Nat} {F : Int → Option Int} (ok : D.Ok nv F) {wo : Nat → Nat} (hwo : ∀ q, q < D.n → wo q ≤ 1000) {k v : Nat} (hv : v < nv) : 0 ≤ D.tint wo k v ∧ D.tint wo k v ≤ 2001 := by
 unfold Kt.tint
 have hsh := ok.sh v hv
 have hss := ok.shs
 split
 ·
  rename_i q hq
  have := hwo q (ok.knl v q hq).2
  split <;> omega
 · omega
set_option maxRecDepth 100000 in
set_option maxHeartbeats 8000000 in
theorem blockWeigh_walk {D : Kt} {nv : Nat} {A : Lay} {F : Int → Option Int} (ok : D.Ok nv F) (k : Nat) (hm : k < D.m) (wo : Nat → Nat) (hwo : ∀ q, q < D.n → wo q ≤ 1000) (w : World) (hT : TreeW D nv A F w) (hw : Row w A.gw 3 1 D.n (intsF D.n fun k => (wo k : Nat))) (hnm : NmOk w (A.bo k)) (hne : A.bo k ≠ A.gw) :
  Calls Tryz.prog 168 #[.pointer (some ⟨A.bo k, 0, none⟩), .pointer (some ⟨A.T, 0, none⟩)] w (RetBW w (A.bo k) (D.keyB wo k) (D.ordB wo k)) := by
 have hk : k < D.n := by have := ok.ml; omega
 obtain ⟨hxy, hyn⟩ := ok.ends k hm
 have hnv := ok.nvl
 have htx := tint_le ok hwo (k := k) (v := D.ex k) (by omega)
 have hty := tint_le ok hwo (k := k) (v := D.ey k) hyn
 obtain ⟨x, hx⟩ : ∃ x, x = D.ex k := ⟨_, rfl⟩
 obtain ⟨y, hy⟩ : ∃ y, y = D.ey k := ⟨_, rfl⟩
 obtain ⟨tf, htf⟩ : ∃ tf : Nat → Int, tf = D.tint wo k := ⟨_, rfl⟩
 have hkey : D.keyB wo k = key2 (tf x) (tf y) := by unfold Kt.keyB; rw [htf, hx, hy]
 have hord : D.ordB wo k = ord2 x y (tf x) (tf y) := by unfold Kt.ordB; rw [htf, hx, hy]
 have hcan := fun al cl b cb w hr ht htt => limbCanon_walk al b cl cb x y (tf x) (tf y) w (by omega) (by omega) hr ht htt
 have htt : tintsB [tf x, tf y] 2 = true := by
  rw [htf, hx, hy]
  simp [tintsB]; omega
 obtain ⟨al, cl, hl1, hl2⟩ := hT.lnk k hm
 obtain ⟨av, cv, hv1, hv2⟩ := hT.vrt k hm
 rw [← hx, ← hy] at hl2 hv2
 rw [← hx, ← hy] at hxy
 rw [← hy] at hyn
 obtain ⟨c6, h6⟩ := hT.t6
 obtain ⟨cm, hmz⟩ := hT.map
 have p1 := hl1.1
 have p2 := hv1.1
 have hmk : ∀ w, (Instr.makeSlice 25 (.int .i64 0) (.int .i64 2)).run Tryz.prog w = .ok (.slice (some ⟨w.heap.size, 0, none⟩) 0 2) (w.alloc (.cells (madeCells #[.int .i64 0] 2) 3)) := fun w => run_make_room (P := Tryz.prog) 25 3 (.int .i64 0) 1 8 Tryz.underlying25 int_info 2 (by omega) (by omega) w
 have hrm : Row (w.alloc (.cells (madeCells #[.int .i64 0] 2) 3)) w.heap.size 3 1 2 [] := row_room w (.int .i64 0) 2 1 3 (by unfold maxLen; omega)
 have hbm := bl_alloc w (.cells (madeCells #[.int .i64 0] 2) 3)
 have hav := hv2.cells
 have Hok := Lib.hid ok; have HT := Lib.hid hT; have Hw := Lib.hid hw; have Hnm := Lib.hid hnm; have Hkey := Lib.hid hkey; have Hord := Lib.hid hord; have Hcan := Lib.hid hcan; have Htt := Lib.hid htt; have Hrm := Lib.hid hrm; have Hbm := Lib.hid hbm; have Hav := Lib.hid hav; have Hl2 := Lib.hid hl2; have Htf := Lib.hid htf; have Hx := Lib.hid hx; have Hy := Lib.hid hy; have Hwo := Lib.hid hwo
 have p2a := keep_cell hbm p2
 clear ok hT hw hnm hkey hord hcan htt hrm hbm hav hl1 hl2 hv1 hv2 h6 hmz htx hty hx hy htf hwo
 go_enter Tryz.func168, Tryz.ntmps168
 go_upto_region 3 with (fail)
 clear hmk
 go_loopg [6, 25] 2 (fun r sv iv wj => ∃ (j g c : Nat), j + r = 2 ∧ iv = .int .i64 (j : Nat) ∧ sv = .slice (some ⟨g, 0, none⟩) j c ∧ Row wj g 3 1 c ((([tf x, tf y]).take j).map (Value.int .i64)) ∧ j ≤ c ∧ w.heap.size ≤ g ∧ RowKit.Below w.heap.size w wj)
 case atStart => exact ⟨0, w.heap.size, 2, by omega, rfl, rfl, Hrm.out, by omega, Nat.le_refl _, Hbm.out⟩
 case round =>
  clear Hrm Hbm p2a
  obtain ⟨j, g, c, hj, rfl, rfl, hr, hjc, hg, hB⟩ := hrel
  have Hj := Lib.hid hj
  by_cases hjl : j < 2
  ·
   clear hj; obtain ⟨v, hv⟩ : ∃ v, v = if j = 0 then x else y := ⟨_, rfl⟩
   have hvv : v = x ∨ v = y := by rw [hv]; split <;> simp
   have hvn : v < nv := by rcases hvv with h | h <;> omega
   have hTr := HT.out.below hB; have hwr := Hw.out.below hB Hw.out.lt
   obtain ⟨b, o, rfl, c0⟩ := (Hav.out.below hB) j (vN v) (by
    rcases (by omega : j = 0 ∨ j = 1) with rfl | rfl
    · rw [hv]; rfl
    · rw [hv]; rfl)
   replace c0 : wr.cell? ⟨b, o + j, none⟩ = some (.int .i64 (v : Nat)) := c0; have htk : [tf x, tf y].take (j + 1) = [tf x, tf y].take j ++ [tf v] := by
    rcases (by omega : j = 0 ∨ j = 1) with rfl | rfl
    · rw [hv]; rfl
    · rw [hv]; rfl
   obtain ⟨c6, h6⟩ := hTr.t6; have q6 := h6.1; have q8 := hTr.t8.1; have q7 := hTr.t7.1; have q5 := hTr.t5.1; have q3 := hTr.t3.1; have qs := (hTr.shade v hvn).1; have qa := (hTr.at_ k hk).1; have qu := (hTr.up k hk).1; obtain ⟨cm, hmz⟩ := hTr.map; have hlk := hmz.lookOk (v := (v : Int)) (wfZ_of (by omega)); rw [Hok.out.kn v hvn] at hlk; obtain ⟨s, hs⟩ : ∃ s, s = D.sh v := ⟨_, rfl⟩
   rw [← hs] at qs; obtain ⟨n, hn⟩ : ∃ n, n = D.n := ⟨_, rfl⟩
   obtain ⟨u, hu⟩ : ∃ u, u = D.up k := ⟨_, rfl⟩
   obtain ⟨ss, hss⟩ : ∃ s, s = D.shs := ⟨_, rfl⟩
   rw [← hn] at q5 q3; rw [← hu] at qu; rw [← hss] at q7; have hsn : s < ss := by rw [hs, hss]; exact Hok.out.sh v hvn
   have hss2 : ss ≤ 1000 := by rw [hss]; exact Hok.out.shs
   have hn2 : n ≤ 1000 := by rw [hn]; exact Hok.out.nl
   have hkn : k < n := by rw [hn]; exact hk
   have htf : tf v = match D.kn v with
    | some q => if (q : Int) = u then 0 else 1 + ss + wo q
    | none => 1 + s := by rw [Htf.out, hu, hss, hs]; rfl
   have i1 : (j : Int) < 2 := by omega
   have i2 : (v : Int) < (nv : Int) := by omega
   have i3 : (k : Int) < (n : Int) := by omega
   have Htk := Lib.hid htk; have Hr := Lib.hid hr; have HB := Lib.hid hB; have Hwr := Lib.hid hwr; have Hn := Lib.hid hn; clear htk hr hB hTr hwr h6 hmz hs hss hu hv hvv hn; have hln2 : (([tf x, tf y].take j).map (Value.int .i64)).length = j := by rw [List.length_map, List.length_take]; simp; omega
   have Hkq := Lib.hid (rfl : D.kn v = D.kn v); obtain ⟨kq, hkq⟩ : ∃ kq, kq = D.kn v := ⟨_, rfl⟩
   rw [← hkq] at htf hlk; have Hkq := Lib.hid hkq; clear hkq; cases kq with
   | none =>
    simp only [Option.map_none, Option.getD_none, Option.isSome_none] at htf hlk; have Htf2 := Lib.hid htf; have hrz := Hr.out; have hBz := HB.out; clear htf; obtain ⟨wz, rfl⟩ : ∃ wz : World, wz = wr := ⟨_, rfl⟩
    have hAl := hrz.own1.alloc (.cells #[.int .i64 (1 + (s : Int))] 3); rw [hln2] at hAl; have hBa := bl_trans hBz (bl_alloc wz (.cells #[.int .i64 (1 + (s : Int))] 3)); have hzs := hBz.size; have HAl := Lib.hid hAl; have HBa := Lib.hid hBa; clear hAl hBa hrz hBz; go_wp2_with (at_builtin; go_loud (refine wpList_append_row _ rfl (.tmp 72) (.tmp 74) 25 rfl 3 (.int .i64 0) 1 8 Tryz.underlying25 int_info rfl (.slice (some ⟨g, 0, none⟩) j c) j _ rfl HAl.out ⟨wz.heap.size, 0, none⟩ 1 1 [.int .i64 (1 + (s : Int))] rfl rfl (one_new (by simp)) (one_ok _ _) (by omega) (by unfold maxLen; omega) (by omega) ?_; intro g5 c5 w5 hr5 hc5 hg5 hor5)); have hyg : w.heap.size ≤ g5 := by
     rcases hor5 with h | h
     · cases h; exact hg
     · simp at h; omega
    have hB5 := HBa.out.grown hg5 (by simp; omega) (fun q hq => by cases hq; exact hg); have hr6 : Row w5 g5 3 1 c5 (([tf x, tf y].take (j + 1)).map (Value.int .i64)) := by
     rw [Htk.out, List.map_append, Htf2.out]; exact hr5
    have HB5 := Lib.hid hB5; have Hr6 := Lib.hid hr6; clear hB5 hr6 hr5 hg5 hor5; go_wp2_with fail; go_roundg (gk - 1)
    case measure => have := Hj.out; omega
    case rel => exact ⟨j + 1, g5, c5, by have := Hj.out; omega, by go_num, rfl, Hr6.out, hc5, hyg, HB5.out⟩
   | some q =>
    simp only [Option.map_some, Option.getD_some, Option.isSome_some] at htf hlk; have hqn : q < n := by rw [Hn.out]; exact (Hok.out.knl v q Hkq.out.symm).2
    have cw := Hwr.out.ints (i := q) (by rw [← Hn.out]; exact hqn); have hwq : wo q ≤ 1000 := Hwo.out q (by rw [← Hn.out]; exact hqn); obtain ⟨z, hz⟩ : ∃ z, z = wo q := ⟨_, rfl⟩
    rw [← hz] at cw htf hwq; have i4 : (q : Int) < (n : Int) := by omega
    clear hz; by_cases hqu : (q : Int) = u
    ·
     have e1 : ((q : Int) == u) = true := by rw [beq_iff_eq]; exact hqu
     have htf3 : tf v = 0 := by rw [htf]; simp only [if_pos hqu]
     have Htf2 := Lib.hid htf3; clear htf htf3 hqu; go_upto_region 8 with (fail)
     go_quiet (fail)
     have hry := Hr.out.drewN nq; have hBy := below_drewN HB.out nq; have y3 : (wr.drewN nq).cell? ⟨A.T, 3, none⟩ = some (.slice (some ⟨A.gu, 0, none⟩) n n) := q3; have ya : (wr.drewN nq).cell? ⟨A.bo k, 0, none⟩ = some (.int .i64 (k : Nat)) := qa; have yu : (wr.drewN nq).cell? ⟨A.gu, k, none⟩ = some (.int .i64 u) := qu; clear q3 qa qu q5 q6 q7 q8 qs cw hlk c0; generalize wr.drewN nq = wy at *
     go_wp2_with fail; go_quiet (fail)
     have hrz := hry.drewN nq; have hBz := below_drewN hBy nq; clear y3 ya yu hry hBy; generalize wy.drewN nq = wz at *
     have hAl := hrz.own1.alloc (.cells #[.int .i64 0] 3); rw [hln2] at hAl; have hBa := bl_trans hBz (bl_alloc wz (.cells #[.int .i64 0] 3)); have hzs := hBz.size; have HAl := Lib.hid hAl; have HBa := Lib.hid hBa; clear hAl hBa hrz hBz; go_wp2_with (at_builtin; go_loud (refine wpList_append_row _ rfl (.tmp 72) (.tmp 74) 25 rfl 3 (.int .i64 0) 1 8 Tryz.underlying25 int_info rfl (.slice (some ⟨g, 0, none⟩) j c) j _ rfl HAl.out ⟨wz.heap.size, 0, none⟩ 1 1 [.int .i64 0] rfl rfl (one_new (by simp)) (one_ok _ _) (by omega) (by unfold maxLen; omega) (by omega) ?_; intro g5 c5 w5 hr5 hc5 hg5 hor5)); have hyg : w.heap.size ≤ g5 := by
      rcases hor5 with h | h
      · cases h; exact hg
      · simp at h; omega
     have hB5 := HBa.out.grown hg5 (by simp; omega) (fun q hq => by cases hq; exact hg); have hr6 : Row w5 g5 3 1 c5 (([tf x, tf y].take (j + 1)).map (Value.int .i64)) := by
      rw [Htk.out, List.map_append, Htf2.out]; exact hr5
     have HB5 := Lib.hid hB5; have Hr6 := Lib.hid hr6; clear hB5 hr6 hr5 hg5 hor5; go_wp2_with fail; go_roundg (gk - 1)
     case measure => have := Hj.out; omega
     case rel => exact ⟨j + 1, g5, c5, by have := Hj.out; omega, by go_num, rfl, Hr6.out, hc5, hyg, HB5.out⟩
    ·
     have e1 : ((q : Int) == u) = false := beq_false_of_ne hqu; have htf3 : tf v = 1 + ss + z := by rw [htf]; simp only [if_neg hqu]
     have Htf2 := Lib.hid htf3; clear htf htf3 hqu; go_upto_region 8 with (fail)
     go_quiet (fail)
     have hry := Hr.out.drewN nq; have hBy := below_drewN HB.out nq; have y3 : (wr.drewN nq).cell? ⟨A.T, 3, none⟩ = some (.slice (some ⟨A.gu, 0, none⟩) n n) := q3; have ya : (wr.drewN nq).cell? ⟨A.bo k, 0, none⟩ = some (.int .i64 (k : Nat)) := qa; have yu : (wr.drewN nq).cell? ⟨A.gu, k, none⟩ = some (.int .i64 u) := qu; clear q3 qa qu q5 q6 q7 q8 qs cw hlk c0; generalize wr.drewN nq = wy at *
     go_wp2_with fail; go_quiet (fail)
     have hrz := hry.drewN nq; have hBz := below_drewN hBy nq; clear y3 ya yu hry hBy; generalize wy.drewN nq = wz at *
     have hAl := hrz.own1.alloc (.cells #[.int .i64 (1 + (ss : Int) + (z : Int))] 3); rw [hln2] at hAl; have hBa := bl_trans hBz (bl_alloc wz (.cells #[.int .i64 (1 + (ss : Int) + (z : Int))] 3)); have hzs := hBz.size; have HAl := Lib.hid hAl; have HBa := Lib.hid hBa; clear hAl hBa hrz hBz; go_wp2_with (at_builtin; go_loud (refine wpList_append_row _ rfl (.tmp 72) (.tmp 74) 25 rfl 3 (.int .i64 0) 1 8 Tryz.underlying25 int_info rfl (.slice (some ⟨g, 0, none⟩) j c) j _ rfl HAl.out ⟨wz.heap.size, 0, none⟩ 1 1 [.int .i64 (1 + (ss : Int) + (z : Int))] rfl rfl (one_new (by simp)) (one_ok _ _) (by omega) (by unfold maxLen; omega) (by omega) ?_; intro g5 c5 w5 hr5 hc5 hg5 hor5)); have hyg : w.heap.size ≤ g5 := by
      rcases hor5 with h | h
      · cases h; exact hg
      · simp at h; omega
     have hB5 := HBa.out.grown hg5 (by simp; omega) (fun q hq => by cases hq; exact hg); have hr6 : Row w5 g5 3 1 c5 (([tf x, tf y].take (j + 1)).map (Value.int .i64)) := by
      rw [Htk.out, List.map_append, Htf2.out]; exact hr5
     have HB5 := Lib.hid hB5; have Hr6 := Lib.hid hr6; clear hB5 hr6 hr5 hg5 hor5; go_wp2_with fail; go_roundg (gk - 1)
     case measure => have := Hj.out; omega
     case rel => exact ⟨j + 1, g5, c5, by have := Hj.out; omega, by go_num, rfl, Hr6.out, hc5, hyg, HB5.out⟩
  ·
   have hj2 : j = 2 := by omega
   subst hj2; have hti : RdI wr (some ⟨g, 0, none⟩) [tf x, tf y] := hr.at_; have hTr := HT.out.below hB; have hnr := Hnm.out.below hB; obtain ⟨al2, cl2, hl1, hl2⟩ := hTr.lnk k hm; have p1r := keep_cell hB p1; have hlr : RdL wr al (lk1 x y) := (Hl2.out.keep (BelX.ofBelow hB)).cells; have hcan := Hcan.out al cl (some ⟨g, 0, none⟩) c wr hlr hti Htt.out; have HB := Lib.hid hB; have Hnr := Lib.hid hnr; have Hc := Lib.hid hcan; clear hr hti hTr hnr hl1 hl2 hlr hcan hB Hcan; go_wp2_with fail; refine Hc.out.mono ?_; rintro e w5 ⟨g1, c1, g2, c2, rfl, hr1, hc1, hr2, hg1, hg2, hb5⟩; obtain ⟨key, hkey⟩ : ∃ key, key = key2 (tf x) (tf y) := ⟨_, rfl⟩
   obtain ⟨os, hos⟩ : ∃ os, os = ord2 x y (tf x) (tf y) := ⟨_, rfl⟩
   rw [← hkey] at hr1 hc1 ⊢; rw [← hos] at hr2; have hkd : D.keyB wo k = key := by rw [hkey]; exact Hkey.out
   have hod : D.ordB wo k = os := by rw [hos]; exact Hord.out
   have Hkd := Lib.hid hkd; have Hod := Lib.hid hod; have hB5 := bl_trans HB.out hb5; have hba := bl_alloc w5 (.cells #[.slice (some ⟨g1, 0, none⟩) key.length c1, .slice (some ⟨g2, 0, none⟩) 2 c2] 30); have hn6 := (Hnr.out.below hb5).below hba; have hr16 := hr1.below hba hr1.lt; have hr26 := hr2.below hba hr2.lt; have hB6 := bl_trans hB5 hba; have d0 : (w5.alloc (.cells #[.slice (some ⟨g1, 0, none⟩) key.length c1, .slice (some ⟨g2, 0, none⟩) 2 c2] 30)).cell? ⟨w5.heap.size, 0, none⟩ = some (.slice (some ⟨g1, 0, none⟩) key.length c1) := by simp
   have d1 : (w5.alloc (.cells #[.slice (some ⟨g1, 0, none⟩) key.length c1, .slice (some ⟨g2, 0, none⟩) 2 c2] 30)).cell? ⟨w5.heap.size, 1, none⟩ = some (.slice (some ⟨g2, 0, none⟩) 2 c2) := by simp
   have hbo5 : A.bo k < w5.heap.size := (Hnr.out.below hb5).lt; have hbw : A.bo k < w.heap.size := Hnm.out.lt; have hs5 := HB.out.size; have hg1' : w.heap.size ≤ g1 := by omega
   have hg2' : w.heap.size ≤ g2 := by omega
   have Hn6 := Lib.hid hn6; have Hr16 := Lib.hid hr16; have Hr26 := Lib.hid hr26; have HB6 := Lib.hid hB6; clear hn6 hr16 hr26 hB6 hba hB5 hb5 hkey hos hkd hod hr1 hr2; go_upto_region 14 with (fail)
   generalize w5.alloc (.cells #[.slice (some ⟨g1, 0, none⟩) key.length c1, .slice (some ⟨g2, 0, none⟩) 2 c2] 30) = w6 at *
   obtain ⟨v3, m3⟩ := Hn6.out.c3; obtain ⟨v4, m4⟩ := Hn6.out.c4; have f3 := Hn6.out.fz 3; have f4 := Hn6.out.fz 4; have d0f : ((w6.setCell ⟨A.bo k, 3, none⟩ (.slice (some ⟨g1, 0, none⟩) key.length c1)).setCell ⟨A.bo k, 4, none⟩ (.slice (some ⟨g2, 0, none⟩) 2 c2)).cell? ⟨w5.heap.size, 0, none⟩ = some (.slice (some ⟨g1, 0, none⟩) key.length c1) := by
    rw [World.cell?_setCell_far _ _ _ _ (by simp; omega), World.cell?_setCell_far _ _ _ _ (by simp; omega)]; exact d0
   go_wp2_with fail; go_ret2; rw [Hkd.out, Hod.out]; have hX : BelX w.heap.size (nmX (A.bo k)) w w6 := BelX.ofBelow HB6.out; refine ⟨g1, c1, rfl, (Hr16.out.other (a := ⟨A.bo k, 3, none⟩) (by simp only; omega) _).other (a := ⟨A.bo k, 4, none⟩) (by simp only; omega) _, hc1, hg1', ⟨g2, c2, ?_, ?_, (Hr26.out.other (a := ⟨A.bo k, 3, none⟩) (by simp only; omega) _).other (a := ⟨A.bo k, 4, none⟩) (by simp only; omega) _, hg2'⟩, (Hn6.out.set _ _).set _ _, (hX.setCell (.inr ⟨rfl, by simp⟩) _).setCell (.inr ⟨rfl, by simp⟩) _⟩
   ·
    rw [World.cell?_setCell_other _ _ _ _ (by simp)]; exact World.cell?_setCell_same _ _ _ m3
   · exact World.cell?_setCell_same _ _ _ ((World.cell?_setCell_other _ _ _ _ (by simp)).trans m4)
end Go.Proofs.YtagjdkkfmfombaaGreat
namespace Go.Proofs.YtagjdkkfmfombaaGreat
open Go Go.RowKit
theorem below_sorted (D : Kt) (wo : Nat → Nat) (k : Nat) : (D.below wo k).Pairwise fun x y => (!decide (cmpW wo y x < 0)) = true :=
 List.pairwise_mergeSort (fun a b c h1 h2 => by
  simp only [Bool.not_eq_true', decide_eq_false_iff_not, cmpW_neg] at *
  omega) (fun a b => by
  simp only [Bool.or_eq_true, Bool.not_eq_true', decide_eq_false_iff_not, cmpW_neg]
  omega) _
namespace Kt.Ok
variable {D : Kt} {nv : Nat} {F : Int → Option Int}
theorem tintEq (ok : D.Ok nv F) {wo wo' : Nat → Nat} {k v : Nat} (hm : k < D.m) (hv : v = D.ex k ∨ v = D.ey k) (h : ∀ q, q < D.n → D.dep k < D.dep q → wo q = wo' q) : D.tint wo k v = D.tint wo' k v := by
 unfold Kt.tint
 split
 ·
  rename_i q hq
  by_cases e : (q : Int) = D.up k
  · rw [if_pos e, if_pos e]
  ·
   rw [if_neg e, if_neg e]; have hk : k < D.n := by have := ok.ml; omega
   have h1 := ok.adj k q hk (ok.knb k v q hm hv hq) e; rw [h q (ok.knl v q hq).2 (by omega)]
 · rfl
theorem belowEq (ok : D.Ok nv F) {wo wo' : Nat → Nat} {k : Nat} (hk : k < D.n) (h : ∀ q, q < D.n → D.dep k < D.dep q → wo q = wo' q) : D.below wo k = D.below wo' k := by
 have hq : ∀ x, x ∈ D.below wo' k → wo x = wo' x := fun x hx => by
  obtain ⟨h1, h2⟩ := below_mem.1 hx
  exact h x (ok.bs k x h1) (by have := ok.adj k x hk h1 h2; omega)
 refine List.Perm.eq_of_pairwise (le := fun x y => (!decide (cmpW wo y x < 0)) = true) (fun a b _ _ h1 h2 => ?_) (below_sorted D wo k) ?_ ?_
 ·
  simp only [Bool.not_eq_true', decide_eq_false_iff_not, cmpW_neg] at h1 h2
  omega
 ·
  refine (below_sorted D wo' k).imp_of_mem fun {a b} ha hb hab => ?_
  simp only [Bool.not_eq_true', decide_eq_false_iff_not, cmpW_neg] at hab ⊢
  rw [hq a ha, hq b hb]; exact hab
 ·
  unfold Kt.below
  exact (List.mergeSort_perm _ _).trans (List.mergeSort_perm _ _).symm
theorem ordEq (ok : D.Ok nv F) {wo wo' : Nat → Nat} {k : Nat} (hm : k < D.m) (h : ∀ q, q < D.n → D.dep k < D.dep q → wo q = wo' q) : D.keyB wo k = D.keyB wo' k ∧ D.ordB wo k = D.ordB wo' k := by
 unfold Kt.keyB Kt.ordB
 rw [ok.tintEq hm (.inl rfl) h, ok.tintEq hm (.inr rfl) h]
 exact ⟨rfl, rfl⟩
theorem keyEq (ok : D.Ok nv F) {wo wo' : Nat → Nat} {k : Nat} (hk : k < D.n) (h : ∀ q, q < D.n → D.dep k < D.dep q → wo q = wo' q) : D.key wo k = D.key wo' k := by
 unfold Kt.key
 by_cases hm : k < D.m
 · rw [if_pos hm, if_pos hm]; exact (ok.ordEq hm h).1
 ·
  rw [if_neg hm, if_neg hm]
  unfold Kt.keyC
  rw [ok.belowEq hk h]
  congr 2
  refine List.map_congr_left fun x hx => ?_
  obtain ⟨h1, h2⟩ := below_mem.1 hx
  rw [h x (ok.bs k x h1) (by have := ok.adj k x hk h1 h2; omega)]
theorem keysEq (ok : D.Ok nv F) {wo wo' : Nat → Nat} {d : Nat} (h : ∀ q, q < D.n → d < D.dep q → wo q = wo' q) : D.keysAt wo d = D.keysAt wo' d := by
 unfold Kt.keysAt
 refine List.map_congr_left fun k hk => ?_
 rw [List.mem_filter, List.mem_range] at hk
 have hd : D.dep k = d := by simpa using hk.2
 exact ok.keyEq hk.1 (by rw [hd]; exact h)
theorem level (ok : D.Ok nv F) {k : Nat} (hk : k < D.n) : ∀ (e d : Nat), D.dep k = d + e → ∃ p, p < D.n ∧ D.dep p = d := by
 intro e
 induction e generalizing k with
 | zero => intro d hd; exact ⟨k, hk, hd⟩
 | succ e ih =>
  intro d hd
  obtain ⟨p, hp, h1⟩ := ok.lev k hk (by omega)
  exact ih hp d (by omega)
theorem keyNe (ok : D.Ok nv F) (wo : Nat → Nat) (k : Nat) : D.key wo k ≠ [] := by
 unfold Kt.key
 split
 ·
  intro h
  have := Kt.key2_len (D.tint wo k (D.ex k)) (D.tint wo k (D.ey k))
  unfold Kt.keyB at h
  rw [h] at this
  simp at this
 ·
  unfold Kt.keyC bytesL
  simp [four]
theorem keyLen (ok : D.Ok nv F) (wo : Nat → Nat) {k : Nat} : (D.key wo k).length ≤ 1000000 := by
 unfold Kt.key
 split
 · unfold Kt.keyB; rw [Kt.key2_len]; omega
 ·
  unfold Kt.keyC
  rw [bytesL_len, List.length_cons, List.length_map]
  have h1 : (D.below wo k).length ≤ D.n := by
   unfold Kt.below; rw [List.length_mergeSort]; exact Nat.le_trans (List.length_filter_le _ _) (ok.bsl k)
  have := ok.nl
  omega
end Kt.Ok
theorem max_walk (g c n : Nat) (f : Nat → Int) (w : World) (hn : 0 < n) (hn2 : n ≤ 100000) (hr : ∀ k, k < n → w.cell? ⟨g, k, none⟩ = some (.int .i64 (f k))) :
  Calls Tryz.prog 60 #[.slice (some ⟨g, 0, none⟩) n c] w fun e w' => ∃ k, k < n ∧ (∀ j, j < n → f j ≤ f k) ∧ e = .returned (.int .i64 (f k)) ∧ w' = w := by
 have c0 := hr 0 hn
 have i0 : ¬ (n : Int) < 1 := by omega
 have i00 : (0 : Int) < (n : Int) := by omega
 have Hr := Lib.hid hr
 clear hr
 go_enter Tryz.func60, Tryz.ntmps60
 go_wp2_with fail
 go_loopg [3, 4] (n - 1) (fun r mv iv wj => ∃ (j k : Nat), j + r = n ∧ 1 ≤ j ∧ iv = .int .i64 (j : Nat) ∧ k < n ∧ mv = .int .i64 (f k) ∧ (∀ i, i < j → f i ≤ f k) ∧ wj = w)
 case atStart => exact ⟨1, 0, by omega, by omega, rfl, hn, rfl, fun i hi => by rw [show i = 0 by omega]; exact Int.le_refl _, rfl⟩
 case round =>
  obtain ⟨j, k, hj, hj1, rfl, hk, rfl, hmax, rfl⟩ := hrel
  have Hj := Lib.hid hj; have Hmax := Lib.hid hmax
  clear hj hmax
  by_cases hjl : j < n
  ·
   have cj := Hr.out j hjl; have i1 : (j : Int) < (n : Int) := by omega
   obtain ⟨a, ha⟩ : ∃ a, a = f j := ⟨_, rfl⟩
   obtain ⟨b, hb⟩ : ∃ b, b = f k := ⟨_, rfl⟩
   rw [← ha] at cj; have Ha := Lib.hid ha; have Hb := Lib.hid hb; rw [← hb]; clear ha hb c0; go_wp2_with fail; go_roundg (gk - 1)
   case measure => have := Hj.out; omega
   case rel =>
    by_cases hab : b ≤ a
    ·
     exact ⟨j + 1, j, by have := Hj.out; omega, by omega, by go_num, hjl, by rw [← Ha.out]; simp; omega, fun i hi => by
      by_cases e : i = j
      · rw [e]; exact Int.le_refl _
      · have := Hmax.out i (by omega); rw [← Hb.out] at this; rw [← Ha.out]; omega, rfl⟩
    ·
     exact ⟨j + 1, k, by have := Hj.out; omega, by omega, by go_num, hk, by rw [← Hb.out]; simp; omega, fun i hi => by
      by_cases e : i = j
      · rw [e, ← Ha.out, ← Hb.out]; omega
      · exact Hmax.out i (by omega), rfl⟩
  ·
   have hjn : j = n := by have := Hj.out; omega
   have hall : ∀ i, i < n → f i ≤ f k := fun i hi => Hmax.out i (by omega); have Hall := Lib.hid hall; clear hall hjn; go_wp2_with fail; go_ret; exact ⟨k, hk, Hall.out, rfl, rfl⟩
end Go.Proofs.YtagjdkkfmfombaaGreat
namespace Go.Proofs.YtagjdkkfmfombaaGreat
open Go Go.RowKit
def NmAt (w : World) (base b : Nat) (os : List Nat) (P : Nat → Prop) : Prop :=
 ∃ g2 c2, w.cell? ⟨b, 4, none⟩ = some (.slice (some ⟨g2, 0, none⟩) 2 c2) ∧ Row w g2 3 1 c2 (os.map vN) ∧ base ≤ g2 ∧ P g2
theorem NmAt.imp {w : World} {base b : Nat} {os : List Nat} {P Q : Nat → Prop} (h : NmAt w base b os P) (hp : ∀ g, g < w.heap.size → P g → Q g) : NmAt w base b os Q := by
 obtain ⟨g, c, h1, h2, h3, h4⟩ := h
 exact ⟨g, c, h1, h2, h3, hp g h2.lt h4⟩
theorem NmAt.keep {w w' : World} {base b : Nat} {os : List Nat} {P : Nat → Prop} {X : Addr → Prop} (h : NmAt w base b os P) (hb : BelX w.heap.size X w w') (h4 : ¬ X ⟨b, 4, none⟩) (hx : ∀ g o, base ≤ g → P g → ¬ X ⟨g, o, none⟩) : NmAt w' base b os P := by
 obtain ⟨g, c, h1, h2, h3, hp⟩ := h
 exact ⟨g, c, hb.keep (World.block_lt_of_cell? w ⟨b, 4, none⟩ h1) h4 h1, hb.row h2 h2.lt fun o => hx g o h3 hp, h3, hp⟩
theorem NmOk.keep {w w' : World} {b : Nat} {X : Addr → Prop} (h : NmOk w b) (hb : BelX w.heap.size X w w') (hx : ∀ i, ¬ X ⟨b, i, none⟩) : NmOk w' b := by
 have hl := h.lt
 obtain ⟨v3, h3⟩ := h.c3
 obtain ⟨v4, h4⟩ := h.c4
 exact ⟨⟨v3, hb.keep hl (hx 3) h3⟩, ⟨v4, hb.keep hl (hx 4) h4⟩, fun i => (hb.froz ⟨b, i, none⟩ hl (hx i)).trans (h.fz i)⟩
structure Sep (D : Kt) (A : Lay) (s : Nat) : Prop where
 bw : ∀ k, k < D.m → A.bo k ≠ A.gw ∧ A.bo k < s
 inj : ∀ k l, k < D.m → l < D.m → A.bo k = A.bo l → k = l
 w : A.gw < s
def Lay.mutW (A : Lay) (m : Nat) (a : Addr) : Prop := a.block = A.gw ∨ ∃ k, k < m ∧ a.block = A.bo k ∧ 3 ≤ a.off
theorem BelX.mut {A : Lay} {m B : Nat} {w w' : World} (h : BelX B (A.mutW m) w w') : BelX B (A.mut m) w w' := h.mono (fun _ hp => hp.elim .inl fun e => .inr (.inr (.inr e))) (Nat.le_refl _)
structure WgI (D : Kt) (A : Lay) (w0 : World) (wo : Nat → Nat) (d1 : Nat) (P : Nat → Prop) (w : World) : Prop where
 bx : BelX w0.heap.size (A.mutW D.m) w0 w
 row : Row w A.gw 3 1 D.n (intsF D.n fun k => (wo k : Nat))
 bd : ∀ q, q < D.n → wo q ≤ 1000
 wt : ∀ k, k < D.n → d1 ≤ D.dep k → wo k = rankB (D.keysAt wo (D.dep k)) (D.key wo k)
 nm : ∀ k, k < D.m → NmOk w (A.bo k)
 nms : ∀ k, k < D.m → d1 ≤ D.dep k → NmAt w w0.heap.size (A.bo k) (D.ordB wo k) P
theorem WgI.imp {D : Kt} {A : Lay} {w0 w : World} {wo : Nat → Nat} {d1 : Nat} {P Q : Nat → Prop} (h : WgI D A w0 wo d1 P w) (hp : ∀ g, g < w.heap.size → P g → Q g) : WgI D A w0 wo d1 Q w :=
 ⟨h.bx, h.row, h.bd, h.wt, h.nm, fun k hk hd => (h.nms k hk hd).imp hp⟩
theorem WgI.keep {D : Kt} {A : Lay} {w0 w w' : World} {wo : Nat → Nat} {d1 : Nat} {P : Nat → Prop} {X : Addr → Prop} (h : WgI D A w0 wo d1 P w) (hb : BelX w.heap.size X w w') (hm : ∀ p, X p → A.mutW D.m p ∨ w0.heap.size ≤ p.block) (hw : ∀ o, ¬ X ⟨A.gw, o, none⟩)
  (hn : ∀ k, k < D.m → NmOk w' (A.bo k)) (h4 : ∀ k, k < D.m → d1 ≤ D.dep k → ¬ X ⟨A.bo k, 4, none⟩) (hx : ∀ g o, w0.heap.size ≤ g → P g → ¬ X ⟨g, o, none⟩) : WgI D A w0 wo d1 P w' :=
 ⟨h.bx.trans ⟨hb.os, hb.tape, hb.output, hb.size, fun a ha hma => hb.cell a (by have := h.bx.size; omega) fun hxa => by
   rcases hm a hxa with h1 | h1
   · exact hma h1
   · omega, fun a ha hma => hb.froz a (by have := h.bx.size; omega) fun hxa => by
   rcases hm a hxa with h1 | h1
   · exact hma h1
   · omega, fun k hk hmk => hb.obj k (by have := h.bx.size; omega) fun o hxa => by
   rcases hm _ hxa with h1 | h1
   · exact hmk o h1
   · simp only at h1; omega⟩, hb.row h.row h.row.lt hw, h.bd, h.wt, hn, fun k hk hd => (h.nms k hk hd).keep hb (h4 k hk hd) hx⟩
theorem BelX.ofGrown {w w' : World} {r : Option Nat} (hg : w.grownBy w' r) : BelX w.heap.size (fun a => some a.block = r) w w' :=
 (BelX.refl _ _ w).grown hg (Nat.le_refl _) fun k hk => .inr fun o s => hk.symm
structure LvW (D : Kt) (A : Lay) (w0 : World) (wo : Nat → Nat) (d1 : Nat) (S : List Nat) (ks : List Ky) (lv4 lv5 : Value) (w : World) : Prop where
 wg : WgI D A w0 wo d1 (fun g => lv4.ownBlock ≠ some g ∧ lv5.ownBlock ≠ some g) w
 at_ : Own w lv4 3 1 S.length (S.map vN)
 ky : Own w lv5 28 1 ks.length (ks.map kyV)
 y4 : ∀ g, lv4.ownBlock = some g → w0.heap.size ≤ g
 y5 : ∀ g, lv5.ownBlock = some g → w0.heap.size ≤ g ∧ lv4.ownBlock ≠ some g
 ps : ∀ p ∈ ks, ∃ g, p.2.1 = some ⟨g, 0, none⟩ ∧ Row w g 5 1 p.2.2 (p.1.map byteV) ∧ w0.heap.size ≤ g ∧ lv4.ownBlock ≠ some g ∧ lv5.ownBlock ≠ some g
 nml : ∀ k ∈ S, k < D.m → NmAt w w0.heap.size (A.bo k) (D.ordB wo k) (fun g => lv4.ownBlock ≠ some g ∧ lv5.ownBlock ≠ some g)
namespace LvW
variable {D : Kt} {A : Lay} {w0 w w' : World} {wo : Nat → Nat} {d1 : Nat} {S : List Nat} {ks : List Ky} {lv4 lv5 : Value}
theorem start {P : Nat → Prop} (h : WgI D A w0 wo d1 P w) : LvW D A w0 wo d1 [] [] (.slice none 0 0) (.slice none 0 0) w :=
 ⟨h.imp fun g _ _ => by simp [Value.ownBlock], own_nil _ _ _, own_nil _ _ _, fun g hg => by simp [Value.ownBlock] at hg, fun g hg => by simp [Value.ownBlock] at hg, fun p hp => by simp at hp, fun k hk => by simp at hk⟩
theorem size (h : LvW D A w0 wo d1 S ks lv4 lv5 w) : w0.heap.size ≤ w.heap.size := h.wg.bx.size
theorem call {X : Addr → Prop} {i : Nat} (h : LvW D A w0 wo d1 S ks lv4 lv5 w) (sp : Sep D A w0.heap.size) (hb : BelX w.heap.size X w w') (hX : ∀ p, X p → i < D.m ∧ nmX (A.bo i) p) (hn : i < D.m → NmOk w' (A.bo i)) (hi : i < D.m → D.dep i < d1 ∧ i ∉ S) : LvW D A w0 wo d1 S ks lv4 lv5 w' := by
 have old : ∀ g o, w0.heap.size ≤ g → ¬ X ⟨g, o, none⟩ := fun g o hg hx => by
  obtain ⟨h1, h2⟩ := hX _ hx
  have := (sp.bw i h1).2
  have h3 : g = A.bo i := h2.1
  omega
 have hok : ∀ k, k < D.m → NmOk w' (A.bo k) := fun k hk => by
  by_cases e : i < D.m ∧ k = i
  · rw [e.2]; exact hn e.1
  ·
   refine (h.wg.nm k hk).keep hb fun o hx => ?_; obtain ⟨h1, h2⟩ := hX _ hx; have h3 : A.bo k = A.bo i := h2.1; exact e ⟨h1, sp.inj k i hk h1 h3⟩
 have hown : ∀ {v : Value} {e : TypeId} {s n : Nat} {vs : List Value}, Own w v e s n vs → (∀ g, v.ownBlock = some g → w0.heap.size ≤ g) → Own w' v e s n vs := fun {v e s n vs} ho hy => ho.below fun g hg => hb.obj g (Own.lt ho hg) fun o => old g o (hy g hg)
 refine ⟨h.wg.keep hb (fun p hp => ?_) (fun o hx => ?_) hok (fun k hk hd hx => ?_) (fun g o hg _ => old g o hg), hown h.at_ h.y4, hown h.ky fun g hg => (h.y5 g hg).1, h.y4, h.y5, fun p hp => ?_, fun k hk hkm => ?_⟩
 ·
  obtain ⟨h1, h2⟩ := hX p hp
  exact .inl (.inr ⟨i, h1, h2.1, h2.2⟩)
 ·
  obtain ⟨h1, h2⟩ := hX _ hx
  exact (sp.bw i h1).1 h2.1.symm
 ·
  obtain ⟨h1, h2⟩ := hX _ hx
  have h3 : A.bo k = A.bo i := h2.1
  have := sp.inj k i hk h1 h3
  subst this
  have := (hi h1).1
  omega
 ·
  obtain ⟨g, h1, h2, h3, h4⟩ := h.ps p hp
  exact ⟨g, h1, hb.row h2 h2.lt fun o => old g o h3, h3, h4⟩
 ·
  refine (h.nml k hk hkm).keep hb (fun hx => ?_) fun g o hg _ => old g o hg
  obtain ⟨h1, h2⟩ := hX _ hx
  have h3 : A.bo k = A.bo i := h2.1
  have := sp.inj k i hkm h1 h3
  subst this
  exact (hi h1).2 hk
theorem below (h : LvW D A w0 wo d1 S ks lv4 lv5 w) (sp : Sep D A w0.heap.size) (hb : RowKit.Below w.heap.size w w') : LvW D A w0 wo d1 S ks lv4 lv5 w' :=
 h.call (X := fun _ => False) (i := D.m) sp (BelX.ofBelow hb) (fun _ h => h.elim) (fun h => absurd h (Nat.lt_irrefl _)) (fun h => absurd h (Nat.lt_irrefl _))
theorem named {i : Nat} (h : LvW D A w0 wo d1 S ks lv4 lv5 w) (hn : i < D.m → NmAt w w0.heap.size (A.bo i) (D.ordB wo i) (fun g => lv4.ownBlock ≠ some g ∧ lv5.ownBlock ≠ some g)) : ∀ k ∈ S ++ [i], k < D.m → NmAt w w0.heap.size (A.bo k) (D.ordB wo k) (fun g => lv4.ownBlock ≠ some g ∧ lv5.ownBlock ≠ some g) := fun k hk hkm => by
 rcases List.mem_append.1 hk with h1 | h1
 · exact h.nml k h1 hkm
 · simp at h1; subst h1; exact hn hkm
theorem pushA {i g4 c4 : Nat} (h : LvW D A w0 wo d1 S ks lv4 lv5 w) (sp : Sep D A w0.heap.size) (hnm : ∀ k ∈ S ++ [i], k < D.m → NmAt w w0.heap.size (A.bo k) (D.ordB wo k) (fun g => lv4.ownBlock ≠ some g ∧ lv5.ownBlock ≠ some g))
  (hr : Row w' g4 3 1 c4 ((S ++ [i]).map vN)) (hg : w.grownBy w' lv4.ownBlock) (ho : lv4.ownBlock = some g4 ∨ w.heap.size ≤ g4) : LvW D A w0 wo d1 (S ++ [i]) ks (.slice (some ⟨g4, 0, none⟩) (S.length + 1) c4) lv5 w' := by
 have hX := BelX.ofGrown hg
 have hs := h.size
 have old : ∀ g, g < w.heap.size → lv4.ownBlock ≠ some g → g4 ≠ g := fun g hgl hne e => by
  subst e
  rcases ho with ho | ho
  · exact hne ho
  · omega
 have y4 : w0.heap.size ≤ g4 := by
  rcases ho with ho | ho
  · exact h.y4 g4 ho
  · omega
 have nw : ∀ g, g < w.heap.size → lv4.ownBlock ≠ some g ∧ lv5.ownBlock ≠ some g → (Value.slice (some ⟨g4, 0, none⟩) (S.length + 1) c4).ownBlock ≠ some g ∧ lv5.ownBlock ≠ some g := fun g hgl hne => ⟨fun e => by
  simp [Value.ownBlock] at e
  exact old g hgl hne.1 e, hne.2⟩
 have far : ∀ k, k < D.m → ¬ (some (A.bo k) = lv4.ownBlock) := fun k hk e => by have := h.y4 _ e.symm; have := (sp.bw k hk).2; omega
 have h45 : ∀ g, lv5.ownBlock = some g → g < w.heap.size := fun g hg => Own.lt h.ky hg
 have keepN : ∀ {k : Nat}, k < D.m → NmAt w w0.heap.size (A.bo k) (D.ordB wo k) (fun g => lv4.ownBlock ≠ some g ∧ lv5.ownBlock ≠ some g) → NmAt w' w0.heap.size (A.bo k) (D.ordB wo k) (fun g => (Value.slice (some ⟨g4, 0, none⟩) (S.length + 1) c4).ownBlock ≠ some g ∧ lv5.ownBlock ≠ some g) := fun {k} hk hn =>
  ((hn.imp (Q := fun g => (lv4.ownBlock ≠ some g ∧ lv5.ownBlock ≠ some g) ∧ (Value.slice (some ⟨g4, 0, none⟩) (S.length + 1) c4).ownBlock ≠ some g ∧ lv5.ownBlock ≠ some g) fun g hgl hp => ⟨hp, nw g hgl hp⟩).keep hX (far k hk) (fun g o _ hp hx => hp.1.1 hx.symm)).imp fun g _ hp => hp.2
 refine ⟨⟨(h.wg.keep hX (fun p hp => .inr (h.y4 _ hp.symm)) (fun o hx => ?_) (fun k hk => (h.wg.nm k hk).keep hX fun o => far k hk) (fun k hk _ => far k hk) (fun g o _ hp hx => hp.1 hx.symm)).bx, h.wg.row.grown hg ?_, h.wg.bd, h.wg.wt, fun k hk => (h.wg.nm k hk).keep hX fun o => far k hk, fun k hk hd => keepN hk (h.wg.nms k hk hd)⟩, ?_, ?_, fun g hg' => ?_, fun g hg' => ?_, fun p hp => ?_, fun k hk hkm => keepN hkm (hnm k hk hkm)⟩
 ·
  have h1 : w0.heap.size ≤ A.gw := h.y4 _ hx.symm
  have := sp.w
  omega
 ·
  intro e
  have := h.y4 _ e
  have := sp.w
  omega
 ·
  have := hr.own1
  rw [List.length_map, List.length_append, List.length_singleton] at this
  simpa using this
 · refine h.ky.below fun g hgo => hg.block g (Own.lt h.ky hgo) fun e => (h.y5 g hgo).2 e.symm
 ·
  simp [Value.ownBlock] at hg'
  subst hg'
  exact y4
 ·
  refine ⟨(h.y5 g hg').1, fun e => ?_⟩
  simp [Value.ownBlock] at e
  exact old g (h45 g hg') (h.y5 g hg').2 e
 ·
  obtain ⟨g, h1, h2, h3, h4, h5⟩ := h.ps p hp
  refine ⟨g, h1, h2.grown hg h4, h3, fun e => ?_, h5⟩
  simp [Value.ownBlock] at e
  exact old g h2.lt h4 e
theorem pushK {g5 c5 : Nat} {p0 : Ky} (h : LvW D A w0 wo d1 S ks lv4 lv5 w) (sp : Sep D A w0.heap.size) (hp0 : ∃ g, p0.2.1 = some ⟨g, 0, none⟩ ∧ Row w g 5 1 p0.2.2 (p0.1.map byteV) ∧ w0.heap.size ≤ g ∧ lv4.ownBlock ≠ some g ∧ lv5.ownBlock ≠ some g)
  (hr : Row w' g5 28 1 c5 ((ks ++ [p0]).map kyV)) (hg : w.grownBy w' lv5.ownBlock) (ho : lv5.ownBlock = some g5 ∨ w.heap.size ≤ g5) : LvW D A w0 wo d1 S (ks ++ [p0]) lv4 (.slice (some ⟨g5, 0, none⟩) (ks.length + 1) c5) w' := by
 have hX := BelX.ofGrown hg
 have hs := h.size
 have old : ∀ g, g < w.heap.size → lv5.ownBlock ≠ some g → g5 ≠ g := fun g hgl hne e => by
  subst e
  rcases ho with ho | ho
  · exact hne ho
  · omega
 have y5 : w0.heap.size ≤ g5 ∧ lv4.ownBlock ≠ some g5 := by
  rcases ho with ho | ho
  · exact h.y5 g5 ho
  · exact ⟨by omega, fun e => by have := Own.lt h.at_ e; omega⟩
 have nw : ∀ g, g < w.heap.size → lv4.ownBlock ≠ some g ∧ lv5.ownBlock ≠ some g → lv4.ownBlock ≠ some g ∧ (Value.slice (some ⟨g5, 0, none⟩) (ks.length + 1) c5).ownBlock ≠ some g := fun g hgl hne => ⟨hne.1, fun e => by
  simp [Value.ownBlock] at e
  exact old g hgl hne.2 e⟩
 have far : ∀ k, k < D.m → ¬ (some (A.bo k) = lv5.ownBlock) := fun k hk e => by have := (h.y5 _ e.symm).1; have := (sp.bw k hk).2; omega
 have keepN : ∀ {k : Nat}, k < D.m → NmAt w w0.heap.size (A.bo k) (D.ordB wo k) (fun g => lv4.ownBlock ≠ some g ∧ lv5.ownBlock ≠ some g) → NmAt w' w0.heap.size (A.bo k) (D.ordB wo k) (fun g => lv4.ownBlock ≠ some g ∧ (Value.slice (some ⟨g5, 0, none⟩) (ks.length + 1) c5).ownBlock ≠ some g) := fun {k} hk hn =>
  ((hn.imp (Q := fun g => (lv4.ownBlock ≠ some g ∧ lv5.ownBlock ≠ some g) ∧ lv4.ownBlock ≠ some g ∧ (Value.slice (some ⟨g5, 0, none⟩) (ks.length + 1) c5).ownBlock ≠ some g) fun g hgl hp => ⟨hp, nw g hgl hp⟩).keep hX (far k hk) (fun g o _ hp hx => hp.1.2 hx.symm)).imp fun g _ hp => hp.2
 refine ⟨⟨(h.wg.keep hX (fun p hp => .inr (h.y5 _ hp.symm).1) (fun o hx => ?_) (fun k hk => (h.wg.nm k hk).keep hX fun o => far k hk) (fun k hk _ => far k hk) (fun g o _ hp hx => hp.2 hx.symm)).bx, h.wg.row.grown hg ?_, h.wg.bd, h.wg.wt, fun k hk => (h.wg.nm k hk).keep hX fun o => far k hk, fun k hk hd => keepN hk (h.wg.nms k hk hd)⟩, ?_, ?_, h.y4, fun g hg' => ?_, fun p hp => ?_, fun k hk hkm => keepN hkm (h.nml k hk hkm)⟩
 ·
  have h1 : w0.heap.size ≤ A.gw := (h.y5 _ hx.symm).1
  have := sp.w
  omega
 ·
  intro e
  have := (h.y5 _ e).1
  have := sp.w
  omega
 · refine h.at_.below fun g hgo => hg.block g (Own.lt h.at_ hgo) fun e => (h.y5 g e.symm).2 hgo
 ·
  have := hr.own1
  rw [List.length_map, List.length_append, List.length_singleton] at this
  simpa using this
 ·
  simp [Value.ownBlock] at hg'
  subst hg'
  exact y5
 ·
  have key : ∀ p : Ky, (∃ g, p.2.1 = some ⟨g, 0, none⟩ ∧ Row w g 5 1 p.2.2 (p.1.map byteV) ∧ w0.heap.size ≤ g ∧ lv4.ownBlock ≠ some g ∧ lv5.ownBlock ≠ some g) → ∃ g, p.2.1 = some ⟨g, 0, none⟩ ∧ Row w' g 5 1 p.2.2 (p.1.map byteV) ∧ w0.heap.size ≤ g ∧ lv4.ownBlock ≠ some g ∧ (Value.slice (some ⟨g5, 0, none⟩) (ks.length + 1) c5).ownBlock ≠ some g := fun p hp => by
   obtain ⟨g, h1, h2, h3, h4, h5⟩ := hp; refine ⟨g, h1, h2.grown hg h5, h3, h4, fun e => ?_⟩; simp [Value.ownBlock] at e; exact old g h2.lt h5 e
  rcases List.mem_append.1 hp with h1 | h1
  · exact key p (h.ps p h1)
  ·
   simp at h1; rw [h1]; exact key p0 hp0
end LvW
end Go.Proofs.YtagjdkkfmfombaaGreat
namespace Go.Proofs.YtagjdkkfmfombaaGreat
open Go Go.RowKit
def pldF (acc : List Nat) (n : Nat) : List Value := (List.range n).map fun i => Value.bool (decide (i ∈ acc))
theorem pldF_len (acc : List Nat) (n : Nat) : (pldF acc n).length = n := by simp [pldF]
theorem pldF_get {acc : List Nat} {n i : Nat} (h : i < n) : (pldF acc n)[i]? = some (.bool (decide (i ∈ acc))) := by simp [pldF, h]
theorem pldF_set {acc : List Nat} {n j : Nat} : (pldF acc n).set j (.bool true) = pldF (acc ++ [j]) n := by
 apply List.ext_getElem?
 intro i
 rw [List.getElem?_set, pldF_len]
 by_cases hi : i < n
 ·
  rw [pldF_get hi, pldF_get hi]
  by_cases e : j = i
  · subst e; simp [hi]
  ·
   rw [if_neg e]; congr 2; simp [Ne.symm e]
 ·
  rw [List.getElem?_eq_none (l := pldF acc n) (by rw [pldF_len]; omega), List.getElem?_eq_none (l := pldF _ n) (by rw [pldF_len]; omega)]
  split
  · rw [if_neg (by omega)]
  · rfl
def visX (A : Lay) (a : Addr) : Prop := a.block = A.gp ∨ a = ⟨A.T, 10, none⟩
structure VisI (A : Lay) (nv : Nat) (w0 : World) (acc : List Nat) (ob : Option Nat) (w : World) : Prop where
 bx : BelX w0.heap.size (visX A) w0 w
 ord : ∃ v, w.cell? ⟨A.T, 10, none⟩ = some v ∧ v.ownBlock = ob ∧ Own w v 3 1 acc.length (acc.map vN)
 fz : w.frozen? ⟨A.T, 10, none⟩ = false
 new : ∀ g, ob = some g → w0.heap.size ≤ g
 plc : Row w A.gp 4 1 nv (pldF acc nv)
 nd : acc.Nodup
 lt : ∀ v ∈ acc, v < nv
def VisTo (A : Lay) (w : World) (ob : Option Nat) (w' : World) (ob' : Option Nat) : Prop :=
 BelX w.heap.size (fun a => visX A a ∨ some a.block = ob) w w' ∧ (ob' = ob ∨ ∀ g, ob' = some g → w.heap.size ≤ g)
theorem VisTo.refl (A : Lay) (w : World) (ob : Option Nat) : VisTo A w ob w ob := ⟨BelX.refl _ _ _, .inl rfl⟩
theorem VisTo.trans {A : Lay} {w w1 w2 : World} {ob o1 o2 : Option Nat} (h : VisTo A w ob w1 o1) (k : VisTo A w1 o1 w2 o2) : VisTo A w ob w2 o2 := by
 have hs := h.1.size
 have hx : ∀ a : Addr, a.block < w.heap.size → ¬ (visX A a ∨ some a.block = ob) → ¬ (visX A a ∨ some a.block = o1) := fun a ha hn => by
  rintro (h1 | h1)
  · exact hn (.inl h1)
  ·
   rcases h.2 with e | e
   · exact hn (.inr (h1.trans e))
   · have := e _ h1.symm; omega
 refine ⟨⟨k.1.os.trans h.1.os, k.1.tape.trans h.1.tape, k.1.output.trans h.1.output, Nat.le_trans hs k.1.size, fun a ha hn => (k.1.cell a (by omega) (hx a ha hn)).trans (h.1.cell a ha hn), fun a ha hn => (k.1.froz a (by omega) (hx a ha hn)).trans (h.1.froz a ha hn), fun g hg hn => (k.1.obj g (by omega) fun o => hx _ hg (hn o)).trans (h.1.obj g hg hn)⟩, ?_⟩
 rcases k.2 with e | e
 · rw [e]; exact h.2
 · exact .inr fun g hg => by have := e g hg; omega
theorem VisI.below {A : Lay} {nv : Nat} {w0 w w' : World} {acc : List Nat} {ob : Option Nat} (h : VisI A nv w0 acc ob w) (hb : RowKit.Below w.heap.size w w') : VisI A nv w0 acc ob w' ∧ VisTo A w ob w' ob := by
 obtain ⟨v, h1, h2, h3⟩ := h.ord
 have hT : A.T < w.heap.size := World.block_lt_of_cell? w ⟨A.T, 10, none⟩ h1
 refine ⟨⟨h.bx.below hb h.bx.size, ⟨v, keep_cell hb h1, h2, h3.ext hb⟩, (hb.frozen (p := ⟨A.T, 10, none⟩) hT).trans h.fz, h.new, h.plc.below hb h.plc.lt, h.nd, h.lt⟩, ?_, .inl rfl⟩
 exact BelX.ofBelow hb
set_option maxRecDepth 100000 in
set_option maxHeartbeats 4000000 in
theorem place_walk {D : Kt} {nv : Nat} {A : Lay} {F : Int → Option Int} (w0 : World) (hT : TreeW D nv A F w0) (hgp : A.gp < w0.heap.size) (hnv : nv ≤ 200) {acc : List Nat} {ob : Option Nat} {w : World} (hI : VisI A nv w0 acc ob w) (v : Nat) (hv : v < nv) :
  Calls Tryz.prog 169 #[.pointer (some ⟨A.T, 0, none⟩), .int .i64 (v : Nat)] w fun e w' => e = .returned (.tuple #[]) ∧ ∃ ob', VisI A nv w0 (Kt.put acc v) ob' w' ∧ VisTo A w ob w' ob' := by
 have hTg : A.gp ≠ A.T := fun e => hT.t9.2 (.inr (.inl e.symm))
 have hT0 := World.block_lt_of_cell? w0 _ hT.t9.1
 simp only at hT0
 have p9 := hI.bx.keep hT0 (fun h => by
  rcases h with h | h
  · exact hTg h.symm
  · simp at h) hT.t9.1
 have pv : w.cell? ⟨A.gp, v, none⟩ = some (.bool (decide (v ∈ acc))) := by rw [hI.plc.cell? v (by rw [pldF_len]; exact hv)]; exact pldF_get hv
 have i1 : (v : Int) < (nv : Int) := by omega
 have i0 : (0 : Int) ≤ (v : Int) := by omega
 by_cases hm : v ∈ acc
 ·
  have hp : Kt.put acc v = acc := by unfold Kt.put; rw [if_pos hm]
  have hd : decide (v ∈ acc) = true := decide_eq_true hm
  rw [hd] at pv
  rw [hp]
  have HI := Lib.hid hI
  clear hI hd hp hm hT
  go_enter Tryz.func169, Tryz.ntmps169
  go_wp2_with fail
  go_end0
  exact ⟨rfl, ob, HI.out, VisTo.refl _ _ _⟩
 ·
  have hp : Kt.put acc v = acc ++ [v] := by unfold Kt.put; rw [if_neg hm]
  have hd : decide (v ∈ acc) = false := decide_eq_false hm
  rw [hd] at pv
  rw [hp]
  obtain ⟨ov, h10, hob, hown⟩ := hI.ord
  have hlen : acc.length ≤ 200 := by
   have := nodup_len_le hI.nd (m := List.range nv) fun x hx => List.mem_range.2 (hI.lt x hx); simp at this; omega
  have hne : ob ≠ some A.gp := fun e => by have := hI.new _ e; omega
  have hneT : ob ≠ some A.T := fun e => by have := hI.new _ e; omega
  have f0 := hI.plc.frozen v
  have fT := hI.fz
  have y9 : (w.setCell ⟨A.gp, v, none⟩ (.bool true)).cell? ⟨A.T, 9, none⟩ = some (.slice (some ⟨A.gp, 0, none⟩) nv nv) := (World.cell?_setCell_far w ⟨A.gp, v, none⟩ ⟨A.T, 9, none⟩ _ hTg).trans p9
  have y10 : (w.setCell ⟨A.gp, v, none⟩ (.bool true)).cell? ⟨A.T, 10, none⟩ = some ov := (World.cell?_setCell_far w ⟨A.gp, v, none⟩ ⟨A.T, 10, none⟩ _ hTg).trans h10
  have yf : (w.setCell ⟨A.gp, v, none⟩ (.bool true)).frozen? ⟨A.T, 10, none⟩ = false := (World.frozen?_setCell ..).trans fT
  have yown : Own (w.setCell ⟨A.gp, v, none⟩ (.bool true)) ov 3 1 acc.length (acc.map vN) := hown.below fun g hg => Below.heap_setCell _ _ _ _ (fun e => hne (by rw [← hob, hg]; simp only at e; rw [e]))
  have yplc : Row (w.setCell ⟨A.gp, v, none⟩ (.bool true)) A.gp 4 1 nv (pldF (acc ++ [v]) nv) := by
   have := hI.plc.set v (.bool true); rwa [pldF_set] at this
  have ybx : BelX w.heap.size (fun a => visX A a ∨ some a.block = ob) w (w.setCell ⟨A.gp, v, none⟩ (.bool true)) := (BelX.refl _ _ _).setCell (.inr (.inl (.inl rfl))) _
  have y0 : BelX w0.heap.size (visX A) w0 (w.setCell ⟨A.gp, v, none⟩ (.bool true)) := hI.bx.setCell (.inr (.inl rfl)) _
  have hsz : (w.setCell ⟨A.gp, v, none⟩ (.bool true)).heap.size = w.heap.size := by simp
  have HI := Lib.hid hI; have Hyown := Lib.hid yown; have Hyplc := Lib.hid yplc; have Hybx := Lib.hid ybx; have Hy0 := Lib.hid y0; have Hyf := Lib.hid yf; have Hy10 := Lib.hid y10; have Hsz := Lib.hid hsz
  clear hI hd hp hT hown yown yplc ybx y0 hsz fT
  go_enter Tryz.func169, Tryz.ntmps169
  have hAl := Hyown.out.alloc (.cells #[.int .i64 (v : Nat)] 3)
  have qn : ((w.setCell ⟨A.gp, v, none⟩ (.bool true)).alloc (.cells #[.int .i64 (v : Nat)] 3)).cell? ⟨w.heap.size, 0, none⟩ = some (.int .i64 (v : Nat)) := by
   have h : ∀ W : World, (W.alloc (.cells #[.int .i64 (v : Nat)] 3)).cell? ⟨W.heap.size, 0, none⟩ = some (.int .i64 (v : Nat)) := fun W => by simp
   have h2 := h (w.setCell ⟨A.gp, v, none⟩ (.bool true)); rwa [Hsz.out] at h2
  have y10A := keep_cell (bl_alloc (w.setCell ⟨A.gp, v, none⟩ (.bool true)) (.cells #[.int .i64 (v : Nat)] 3)) Hy10.out
  have hszA : A.T < ((w.setCell ⟨A.gp, v, none⟩ (.bool true)).alloc (.cells #[.int .i64 (v : Nat)] 3)).heap.size := World.block_lt_of_cell? _ _ y10A
  have yfA : ((w.setCell ⟨A.gp, v, none⟩ (.bool true)).alloc (.cells #[.int .i64 (v : Nat)] 3)).frozen? ⟨A.T, 10, none⟩ = false := ((bl_alloc _ _).frozen (p := ⟨A.T, 10, none⟩) (World.block_lt_of_cell? _ _ Hy10.out)).trans Hyf.out
  have hneT2 : some A.T ≠ ov.ownBlock := fun e => hneT (by rw [← hob, ← e])
  have hneT3 : ov.ownBlock ≠ some A.T := fun e => hneT (by rw [← hob, e])
  have HAl := Lib.hid hAl; have HszA := Lib.hid hszA; have HyfA := Lib.hid yfA; have Hy10A := Lib.hid y10A
  clear hAl hszA yfA y10A
  go_wp2_with (at_builtin; (refine wpList_append_row _ rfl (.tmp 22) (.tmp 24) 25 rfl 3 (.int .i64 0) 1 8 Tryz.underlying25 int_info rfl ov acc.length _ rfl HAl.out ⟨w.heap.size, 0, none⟩ 1 1 [.int .i64 (v : Nat)] rfl rfl (one_new qn) (one_ok _ _) (by omega) (by unfold maxLen; omega) (by omega) ?_; intro g4 c4 w3 hr4 hc4 hg4 ho4; have z10 := hg4.cell Hy10A.out hneT2; have zf := grown_frozen (b := A.T) (o := 10) hg4 HszA.out HyfA.out hneT3; have Hr4 := Lib.hid hr4; have Hg4 := Lib.hid hg4; have Ho4 := Lib.hid ho4; clear hr4 hg4 ho4))
  go_end0
  have hg4 := Hg4.out
  have ho4 := Ho4.out
  rw [hob] at hg4 ho4
  have hwA := bl_alloc (w.setCell ⟨A.gp, v, none⟩ (.bool true)) (.cells #[.int .i64 (v : Nat)] 3)
  have hszW := HI.out.bx.size
  have hsz := Hsz.out
  have hszA := hwA.size
  have g4n : w0.heap.size ≤ g4 := by
   rcases ho4 with h | h
   · exact HI.out.new _ h
   · omega
  have hgT : g4 ≠ A.T := fun e => by omega
  have hgG : g4 ≠ A.gp := fun e => by omega
  refine ⟨rfl, some g4, ⟨?_, ?_, ?_, fun g hg => by cases hg; exact g4n, ?_, ?_, ?_⟩, ?_, ?_⟩
  · exact ((Hy0.out.below hwA (by omega)).grown hg4 (by omega) (fun k hk => .inl (HI.out.new k hk))).setCell (.inr (.inr rfl)) _
  ·
   refine ⟨_, World.cell?_setCell_same _ _ _ z10, rfl, ?_⟩; have h1 := Hr4.out.own1; rw [List.length_append, List.length_map, List.length_singleton] at h1; have h2 : Own w3 (.slice (some ⟨g4, 0, none⟩) (acc.length + 1) c4) 3 1 (acc ++ [v]).length ((acc ++ [v]).map vN) := by
    rw [List.length_append, List.length_singleton, List.map_append]; exact h1
   exact h2.below fun g hg => Below.heap_setCell _ _ _ _ (fun e => by simp [Value.ownBlock] at hg; subst hg; exact hgT (by simpa using e))
  · exact (World.frozen?_setCell ..).trans zf
  · exact ((Hyplc.out.below hwA Hyplc.out.lt).grown hg4 hne).block (Below.heap_setCell _ _ _ _ (fun e => hTg (by simpa using e)))
  ·
   rw [List.nodup_append]; exact ⟨HI.out.nd, by simp, fun a ha b hb e => by simp at hb; subst hb; subst e; exact hm ha⟩
  ·
   intro x hx; rcases List.mem_append.1 hx with h | h
   · exact HI.out.lt x h
   · simp at h; subst h; exact hv
  · exact ((Hybx.out.below hwA (by omega)).grown hg4 (by omega) (fun k hk => .inr fun o s => .inr hk.symm)).setCell (.inr (.inl (.inr rfl))) _
  ·
   rcases ho4 with h | h
   · exact .inl h.symm
   · exact .inr fun g hg => by cases hg; omega
end Go.Proofs.YtagjdkkfmfombaaGreat
namespace Go.Proofs.YtagjdkkfmfombaaGreat
open Go Go.RowKit
structure VisE (D : Kt) (A : Lay) (nv : Nat) (F : Int → Option Int) (wo : Nat → Nat) (base : Nat) (w0 : World) : Prop where
 ok : D.Ok nv F
 tr : TreeW D nv A F w0
 row : Row w0 A.gw 3 1 D.n (intsF D.n fun k => (wo k : Nat))
 nm : ∀ k, k < D.m → NmAt w0 base (A.bo k) (D.ordB wo k) (fun _ => True)
 bs : base ≤ w0.heap.size
 gp : A.gp < base
 T : A.T < base
 gw : A.gw ≠ A.gp ∧ A.gw ≠ A.T
 bo : ∀ k, k < D.m → A.bo k ≠ A.gp ∧ A.bo k ≠ A.T
namespace VisE
variable {D : Kt} {A : Lay} {nv : Nat} {F : Int → Option Int} {wo : Nat → Nat} {base : Nat} {w0 w : World} {acc : List Nat} {ob : Option Nat}
theorem tree (h : VisE D A nv F wo base w0) (hI : VisI A nv w0 acc ob w) : TreeW D nv A F w := h.tr.keep (hI.bx.mono (fun _ hp => hp.elim (fun e => .inr (.inl e)) fun e => .inr (.inr (.inl e))) (Nat.le_refl _))
theorem rowAt (h : VisE D A nv F wo base w0) (hI : VisI A nv w0 acc ob w) : Row w A.gw 3 1 D.n (intsF D.n fun k => (wo k : Nat)) :=
 hI.bx.row h.row h.row.lt fun o hx => by
  rcases hx with e | e
  · exact h.gw.1 e
  · simp at e; exact h.gw.2 e.1
end VisE
def RetVis (A : Lay) (nv : Nat) (w0 : World) (acc' : List Nat) (ob : Option Nat) (w : World) (e : Ending) (w' : World) : Prop := e = .returned (.tuple #[]) ∧ ∃ ob', VisI A nv w0 acc' ob' w' ∧ VisTo A w ob w' ob'
theorem VisTo.cells {A : Lay} {w w' : World} {ob ob' : Option Nat} {a : Option Addr} {vs : List Value} (h : VisTo A w ob w' ob') (hc : CellsAt w a vs) (hb : ∀ ad, a = some ad → ad.block < w.heap.size ∧ ad.block ≠ A.gp ∧ ad.block ≠ A.T ∧ ob ≠ some ad.block) : CellsAt w' a vs ∧ ∀ ad, a = some ad → ad.block < w'.heap.size ∧ ad.block ≠ A.gp ∧ ad.block ≠ A.T ∧ ob' ≠ some ad.block := by
 refine ⟨h.1.at_ hc fun b o e => ?_, fun ad had => ?_⟩
 ·
  obtain ⟨h1, h2, h3, h4⟩ := hb _ e
  refine ⟨h1, fun o hx => ?_⟩
  rcases hx with (e1 | e1) | e1
  · exact h2 e1
  · simp at e1; exact h3 e1.1
  · exact h4 e1.symm
 ·
  obtain ⟨h1, h2, h3, h4⟩ := hb _ had
  refine ⟨by have := h.1.size; omega, h2, h3, fun e => ?_⟩
  rcases h.2 with e2 | e2
  · exact h4 (e2.symm.trans e)
  · have := e2 _ e; omega
set_option maxRecDepth 100000 in
set_option maxHeartbeats 4000000 in
theorem cutVisit_walk {D : Kt} {A : Lay} {nv : Nat} {F : Int → Option Int} {wo : Nat → Nat} {base : Nat} {w0 : World} (E : VisE D A nv F wo base w0) (f k : Nat) (hm : D.m ≤ k) (hk : k < D.n)
  (ih : ∀ q acc ob w, q < D.n → D.dep q = D.dep k + 1 → VisI A nv w0 acc ob w → Calls Tryz.prog (if q < D.m then 167 else 340) #[.pointer (some ⟨A.bo q, 0, none⟩), .pointer (some ⟨A.T, 0, none⟩)] w (RetVis A nv w0 (D.visit wo f q acc) ob w))
  (acc : List Nat) (ob : Option Nat) (w : World) (hI : VisI A nv w0 acc ob w) :
  Calls Tryz.prog 340 #[.pointer (some ⟨A.bo k, 0, none⟩), .pointer (some ⟨A.T, 0, none⟩)] w (RetVis A nv w0 (D.visit wo (f + 1) k acc) ob w) := by
 have hv : D.visit wo (f + 1) k acc = (D.below wo k).foldl (fun a b => D.visit wo f b a) (Kt.put acc (D.cv k)) := by
  conv => lhs; unfold Kt.visit
  rw [if_neg (by omega)]
 rw [hv]
 have hT := E.tree hI
 have pa := (hT.at_ k hk).1
 have pc := (hT.cut k hm hk).1
 have hcv := E.ok.cv k hm hk
 have hpl := place_walk w0 E.tr (by have := E.gp; have := E.bs; omega) E.ok.nvl hI (D.cv k) hcv
 have hbw := fun w acc ob (h : VisI A nv w0 acc ob w) => below_walk E.ok k hk wo w (E.tree h) (E.rowAt h)
 obtain ⟨v, hvv⟩ : ∃ v, v = D.cv k := ⟨_, rfl⟩
 obtain ⟨L, hL⟩ : ∃ L, L = D.below wo k := ⟨_, rfl⟩
 rw [← hvv] at pc hpl ⊢
 rw [← hL] at hbw ⊢
 have Hpl := Lib.hid hpl; have Hbw := Lib.hid hbw; have HT := Lib.hid hT; have HE := Lib.hid E; have Hih := Lib.hid ih; have HI := Lib.hid hI; have HL := Lib.hid hL; have Hvv := Lib.hid hvv
 clear hpl hbw hT E ih hI hL hvv hv hcv
 go_enter Tryz.func340, Tryz.ntmps340
 go_wp2_with fail
 refine Hpl.out.mono ?_
 rintro e w1 ⟨rfl, ob1, hI1, hV1⟩
 have hT1 := HE.out.tree hI1
 have pa1 := (hT1.at_ k hk).1
 have hcall := Hbw.out w1 _ ob1 hI1
 have Hcall := Lib.hid hcall; have HI1 := Lib.hid hI1; have HV1 := Lib.hid hV1
 clear hcall hI1 hV1 hT1
 go_wp2_with fail
 refine Hcall.out.mono ?_
 rintro e w2 ⟨a, c, rfl, hcl, hnew, hb2⟩
 obtain ⟨hI2, hV2⟩ := HI1.out.below hb2
 have hLm : ∀ q ∈ L, q < D.n ∧ D.dep q = D.dep k + 1 := fun q hq => by
  rw [HL.out] at hq
  unfold Kt.below Kt.kids at hq
  rw [List.mem_mergeSort, List.mem_filter] at hq
  have h1 : ¬ (q : Int) = D.up k := by simpa using hq.2
  exact ⟨HE.out.ok.bs k q hq.1, HE.out.ok.adj k q hk hq.1 h1⟩
 have hLl : L.length ≤ 1000 := by
  rw [HL.out]
  unfold Kt.below Kt.kids
  rw [List.length_mergeSort]
  have h1 := List.length_filter_le (fun x : Nat => !decide ((x : Int) = D.up k)) (D.bs k)
  have h2 := HE.out.ok.bsl k
  have h3 := HE.out.ok.nl
  omega
 have hw0 : base ≤ w1.heap.size := by have := HE.out.bs; have := HI1.out.bx.size; omega
 have hcB : ∀ ad, a = some ad → L ≠ [] → ad.block < w2.heap.size ∧ ad.block ≠ A.gp ∧ ad.block ≠ A.T ∧ ob1 ≠ some ad.block := fun ad had hne => by
  have h1 := hnew ad had
  have h2 := HE.out.gp
  have h3 := HE.out.T
  obtain ⟨q, L', hq⟩ := List.exists_cons_of_ne_nil hne
  obtain ⟨b, o, hb, hc0⟩ := hcl 0 (vN q) (by rw [hq]; rfl)
  have h4 := World.block_lt_of_cell? w2 _ hc0
  simp only at h4
  have h5 : ad.block = b := by rw [had] at hb; cases hb; rfl
  refine ⟨by omega, by omega, by omega, fun e => ?_⟩
  obtain ⟨u, h10, hu, hown⟩ := HI1.out.ord
  have := Own.lt hown (hu.trans e)
  omega
 have hV02 := HV1.out.trans hV2
 have HLm := Lib.hid hLm; have HcB := Lib.hid hcB; have Hcl := Lib.hid hcl; have HI2 := Lib.hid hI2; have HV02 := Lib.hid hV02
 clear hLm hcB hcl hI2 hV02 hV2 hb2 Hcall HI1 HV1 pa1 Hpl Hbw
 go_wp2_with fail
 go_loopg [19] L.length (fun r iv wj => ∃ (i : Nat) (oj : Option Nat), i + r = L.length ∧ iv = .int .i64 (i : Nat) ∧ VisI A nv w0 ((L.take i).foldl (fun a b => D.visit wo f b a) (Kt.put acc v)) oj wj ∧ VisTo A w ob wj oj ∧ CellsAt wj a (L.map vN) ∧ ∀ ad, a = some ad → L ≠ [] → ad.block < wj.heap.size ∧ ad.block ≠ A.gp ∧ ad.block ≠ A.T ∧ oj ≠ some ad.block)
 case atStart => exact ⟨0, ob1, by omega, rfl, by rw [List.take_zero]; exact HI2.out, HV02.out, Hcl.out, HcB.out⟩
 case round =>
  obtain ⟨i, oj, hi, rfl, hIj, hVj, hcj, hbj⟩ := hrel
  by_cases hil : i < L.length
  ·
   obtain ⟨q, hq⟩ : ∃ q, q = L[i] := ⟨_, rfl⟩
   obtain ⟨hqn, hqd⟩ := HLm.out q (by rw [hq]; exact List.getElem_mem _); obtain ⟨b, o, rfl, hc0⟩ := hcj i (vN q) (by rw [List.getElem?_map, List.getElem?_eq_getElem hil, ← hq]; rfl); have hTj := HE.out.tree hIj; obtain ⟨c0, h0⟩ := hTj.t0; have q0 := h0.1; have qk := (hTj.knot q hqn).1; have hcall := Hih.out q _ oj wr hqn hqd hIj; have i0 : (0 : Int) ≤ (i : Int) ∧ (0 : Int) ≤ (q : Int) := by omega
   obtain ⟨i01, i02⟩ := i0; have i1 : (i : Int) < (L.length : Int) := by omega
   have i2 : (q : Int) < (D.n : Int) := by omega
   have hc1 : wr.cell? ⟨b, o + i, none⟩ = some (.int .i64 (q : Nat)) := hc0; have Hcall := Lib.hid hcall; have Hi := Lib.hid hi; have Hq := Lib.hid hq; have HIj := Lib.hid hIj; have HVj := Lib.hid hVj; have Hcj := Lib.hid hcj; have Hbj := Lib.hid hbj; clear hcall hi hq hIj hVj hcj hbj hc0 hTj h0; have hfin : ∀ e w5, RetVis A nv w0 (D.visit wo f q ((L.take i).foldl (fun a b => D.visit wo f b a) (Kt.put acc v))) oj wr e w5 → e = .returned (.tuple #[]) ∧ ∃ o5, VisI A nv w0 ((L.take (i + 1)).foldl (fun a b => D.visit wo f b a) (Kt.put acc v)) o5 w5 ∧ VisTo A w ob w5 o5 ∧ CellsAt w5 (some ⟨b, o, none⟩) (L.map vN) ∧ ∀ ad, some (⟨b, o, none⟩ : Addr) = some ad → L ≠ [] → ad.block < w5.heap.size ∧ ad.block ≠ A.gp ∧ ad.block ≠ A.T ∧ o5 ≠ some ad.block := by
    rintro e w5 ⟨rfl, o5, hI5, hV5⟩; have hLn : L ≠ [] := fun e => by rw [e] at hil; simp at hil
    have htk : L.take (i + 1) = L.take i ++ [q] := by rw [Hq.out, List.take_add_one, List.getElem?_eq_getElem hil]; rfl
    obtain ⟨hc5, hb5⟩ := hV5.cells Hcj.out fun ad had => Hbj.out ad had hLn; refine ⟨rfl, o5, ?_, HVj.out.trans hV5, hc5, fun ad had _ => hb5 ad had⟩; rw [htk, List.foldl_append]; exact hI5
   have Hfin := Lib.hid hfin; clear hfin; by_cases hqm : q < D.m
   ·
    rw [if_pos hqm] at qk Hcall; have hmB : ∀ (w : World) (b : Nat), (method 533 115 (.pointer (some ⟨b, 0, none⟩)) "fretwork/bough.visit").run Tryz.prog w = .ok (167, .pointer (some ⟨b, 0, none⟩)) w := fun _ _ => by kernel_rfl
    go_wp2_with fail; refine Hcall.out.mono ?_; rintro e w5 hr; obtain ⟨rfl, o5, h5⟩ := Hfin.out e w5 hr; have H5 := Lib.hid h5; clear h5 hr Hfin Hcall; go_wp2_with fail; go_roundg (gk - 1)
    case measure => have := Hi.out; omega
    case rel => exact ⟨i + 1, o5, by have := Hi.out; omega, by go_num, H5.out⟩
   ·
    rw [if_neg hqm] at qk Hcall; have hmC : ∀ (w : World) (b : Nat), (method 533 121 (.pointer (some ⟨b, 0, none⟩)) "fretwork/bough.visit").run Tryz.prog w = .ok (340, .pointer (some ⟨b, 0, none⟩)) w := fun _ _ => by kernel_rfl
    go_wp2_with fail; refine Hcall.out.mono ?_; rintro e w5 hr; obtain ⟨rfl, o5, h5⟩ := Hfin.out e w5 hr; have H5 := Lib.hid h5; clear h5 hr Hfin Hcall; go_wp2_with fail; go_roundg (gk - 1)
    case measure => have := Hi.out; omega
    case rel => exact ⟨i + 1, o5, by have := Hi.out; omega, by go_num, H5.out⟩
  ·
   have i4 : ¬ (i : Int) < (L.length : Int) := by omega
   have hte : L.take i = L := List.take_of_length_le (by omega); rw [hte] at hIj; have HIj := Lib.hid hIj; have HVj := Lib.hid hVj; clear hIj hVj hcj hbj hte hi; go_wp2_with fail; go_end0; exact ⟨rfl, oj, HIj.out, HVj.out⟩
end Go.Proofs.YtagjdkkfmfombaaGreat
