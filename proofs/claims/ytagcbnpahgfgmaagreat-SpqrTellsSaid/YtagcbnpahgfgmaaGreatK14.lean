/- Facts that the claim rests on, part 15. -/
import Derived.Test.YtagcbnpahgfgmaaGreatK13
namespace Go.Proofs.YtagcbnpahgfgmaaGreat
open Go Go.RowKit Go.Sort
section
variable {α : Type}
theorem flat_get (enc : α → List Value) (k : Nat) (hk : ∀ x, (enc x).length = k) : ∀ (ls : List α) (j t : Nat) (hj : j < ls.length), t < k → (ls.flatMap enc)[j * k + t]? = (enc ls[j])[t]?
 | [], j, t, hj, _ => by simp at hj
 | a :: ls, 0, t, _, ht => by
  rw [List.flatMap_cons, List.getElem?_append_left (by rw [hk]; omega)]; simp
 | a :: ls, j + 1, t, hj, ht => by
  rw [List.flatMap_cons, List.getElem?_append_right (by rw [hk, Nat.add_mul]; omega), hk, Nat.add_mul, Nat.one_mul, show j * k + k + t - k = j * k + t by omega]
  exact flat_get enc k hk ls j t (by simpa using hj) ht
theorem flat_len (enc : α → List Value) (k : Nat) (hk : ∀ x, (enc x).length = k) (ls : List α) : (ls.flatMap enc).length = ls.length * k := by
 induction ls with
 | nil => simp
 | cons a ls ih => rw [List.flatMap_cons, List.length_append, hk, ih, List.length_cons, Nat.add_mul, Nat.one_mul]; omega
variable [Inhabited α]
theorem flatK_gen (enc : α → List Value) (k : Nat) (hk : ∀ x, (enc x).length = k) (h0 : 0 < k) (ls : List α) : (flatK enc k ls.toArray).toList = ls.flatMap enc := by
 apply List.ext_getElem?
 intro i
 by_cases hi : i < ls.length * k
 ·
  have hj : i / k < ls.length := Nat.div_lt_of_lt_mul (by rw [Nat.mul_comm]; exact hi)
  have ht : i % k < k := Nat.mod_lt _ h0
  have h1 : (flatK enc k ls.toArray).toList[i]? = some ((enc ls[i / k])[i % k]!) := by
   rw [Array.getElem?_toList, Array.getElem?_eq_getElem (by simpa using hi)]; simp [flatK, hj]
  have h2 := flat_get enc k hk ls (i / k) (i % k) hj ht
  rw [show i / k * k + i % k = i by rw [Nat.mul_comm]; exact Nat.div_add_mod i k] at h2
  rw [h1, h2, List.getElem?_eq_getElem (by rw [hk]; exact ht), getElem!_pos _ _ (by rw [hk]; exact ht)]
 · rw [List.getElem?_eq_none (by simp; omega), List.getElem?_eq_none (by rw [flat_len enc k hk]; omega)]
theorem Row.holdsG {w : World} {g cap k : Nat} {e : TypeId} (enc : α → List Value) (hk : ∀ x, (enc x).length = k) (h0 : 0 < k) {ls : List α} (h : Row w g e k cap (ls.flatMap enc)) : HoldsK enc k w g 0 ls.toArray := by
 intro j hj
 have hj' : j < (ls.flatMap enc).length := by rw [flat_len enc k hk]; simpa using hj
 refine ⟨?_, h.frozen _⟩
 rw [Nat.zero_add, h.cell j hj']
 have := flatK_gen enc k hk h0 ls
 congr 1
 have h2 : (flatK enc k ls.toArray).toList[j]? = some ((ls.flatMap enc)[j]) := by rw [this]; simp [hj']
 rw [Array.getElem?_toList] at h2
 simp [getElem!_def, h2]
theorem Row.sortedG {w : World} {g cap n k : Nat} {e : TypeId} {os : Array Obj} (enc : α → List Value) (hk : ∀ x, (enc x).length = k) (h0 : 0 < k) {ls ts : List α} (h : Row w g e k cap (ls.flatMap enc)) (hl : ts.length = ls.length) :
  Row (sortWorldK enc k w g 0 n ts.toArray os) g e k cap (ts.flatMap enc) ∧ w.grownBy (sortWorldK enc k w g 0 n ts.toArray os) (some g) := by
 obtain ⟨cur, hg, hs, hle, hm, ht⟩ := h
 have hlt : g < w.heap.size := (Array.getElem?_eq_some_iff.1 hg).1
 have hcur : (sortWorldK enc k w g 0 n ts.toArray os).heap[g]? = some (.cells (putCells id 0 (flatK enc k ts.toArray) cur) e (0, 0)) := by
  unfold sortWorldK
  rw [heap_grow_old _ _ (by simpa [putRowK, putRow, mapBlock, Sort.ahead] using hlt)]
  simp [putRowK, putRow, mapBlock, Sort.ahead, Array.getElem?_modify, hg, onCells]
 have hlen : (ts.flatMap enc).length = (ls.flatMap enc).length := by rw [flat_len enc k hk, flat_len enc k hk, hl]
 refine ⟨⟨_, hcur, by simpa [putCells] using hs, by rw [hlen]; exact hle, hm, ?_⟩, ⟨rfl, rfl, rfl, by simp [sortWorldK, grow, putRowK, putRow, mapBlock, Sort.ahead], fun q hq hne => ?_⟩⟩
 ·
  apply List.ext_getElem?
  intro j
  by_cases hj : j < (ts.flatMap enc).length
  ·
   rw [List.getElem?_take_of_lt hj, Array.getElem?_toList]; have hjc : j < cur.size := by rw [hlen] at hj; omega
   have h2 : (flatK enc k ts.toArray)[j]? = (ts.flatMap enc)[j]? := by rw [← Array.getElem?_toList, flatK_gen enc k hk h0]
   rw [← h2]; have hf' : j < ts.length * k := by rw [← flat_len enc k hk]; exact hj
   simp [putCells, hf', hjc]
  · rw [List.getElem?_take_eq_none (by omega), List.getElem?_eq_none (by omega)]
 ·
  unfold sortWorldK
  rw [heap_grow_old _ _ (by simpa [putRowK, putRow, mapBlock, Sort.ahead] using hq)]
  have : g ≠ q := fun e => hne (by rw [e])
  simp [putRowK, putRow, mapBlock, Sort.ahead, Array.getElem?_modify, this]
end
theorem cmpT_walk (k1 k2 : Int) (a b : Option Addr) (ca cb : Nat) (x y : List Lk) (w : World) (hx : RdL w a x) (hy : RdL w b y) (hxl : x.length ≤ 9223372036854775807) (hyl : y.length ≤ 9223372036854775807) :
  Calls Tryz.prog 38 #[.agg #[.int .i64 k1, .slice a x.length ca], .agg #[.int .i64 k2, .slice b y.length cb]] w (RetG w (cmpLs x y)) := by
 obtain ⟨z, hz⟩ : ∃ z, z = cmpLs x y := ⟨_, rfl⟩
 have hcon := fun (w : World) (hx : RdL w a x) (hy : RdL w b y) => compareP_walkG a b ca cb x y w hx hy hxl hyl
 rw [← hz] at hcon ⊢
 have hx2 := (hx.below (bl_alloc w (.cells #[.int .i64 k1, .slice a x.length ca] 49))).below (bl_alloc _ (.cells #[.int .i64 k2, .slice b y.length cb] 49))
 have hy2 := (hy.below (bl_alloc w (.cells #[.int .i64 k1, .slice a x.length ca] 49))).below (bl_alloc _ (.cells #[.int .i64 k2, .slice b y.length cb] 49))
 have hgr := gr_trans (gr_alloc w (.cells #[.int .i64 k1, .slice a x.length ca] 49)) (gr_alloc _ (.cells #[.int .i64 k2, .slice b y.length cb] 49))
 have Hcon := Lib.hid hcon
 clear hz hcon hx hy hxl hyl
 go_enter Tryz.func38, Tryz.ntmps38
 go_wp2_with fail
 refine (Hcon.out _ hx2 hy2).mono ?_
 rintro e w' ⟨rfl, hg⟩
 have hg2 := gr_trans hgr hg
 clear hgr hx2 hy2 hg
 go_wp2_with fail
 go_ret
 exact ⟨rfl, hg2⟩
theorem sortP_walk (B g cap : Nat) (ps : List PtR) (w : World) (h : PtI w B g cap ps) (hd : ∀ x ∈ ps, ∀ y ∈ ps, x.1.2 = y.1.2 → x = y) (hne : ps ≠ []) (hsz : ps.length ≤ 1000000) :
  Calls Tryz.prog 37 #[.slice (some ⟨g, 0, none⟩) ps.length cap, .func (.func 38) #[] #[]] w
   fun e w' => e = .returned (.tuple #[]) ∧ ∃ ts, ts.Perm ps ∧ (ptQ ts).Pairwise LeP ∧ PtI w' B g cap ts ∧ w.grownBy w' (some g) := by
 have eg : ∀ args w, (callFunc 38 args).run Tryz.prog w = .ok (.enter 38 args) w := enters_of Tryz.func38 (by kernel_rfl) rfl
 obtain ⟨p0, hp0⟩ := List.exists_mem_of_ne_nil _ hne
 letI : Inhabited {p : PtR // p ∈ ps} := ⟨⟨p0, hp0⟩⟩
 obtain ⟨enc, henc⟩ : ∃ enc : {p : PtR // p ∈ ps} → List Value, enc = fun p => [.int .i64 p.1.1.1, ptV p.1] := ⟨_, rfl⟩
 obtain ⟨cf, hcf⟩ : ∃ cf : {p : PtR // p ∈ ps} → {p : PtR // p ∈ ps} → Int, cf = fun x y => cmpLs x.1.1.2 y.1.1.2 := ⟨_, rfl⟩
 have hk : ∀ x, (enc x).length = 2 := fun x => by rw [henc]; rfl
 have hcells : ∀ l : List {p : PtR // p ∈ ps}, l.flatMap enc = ptC (l.map fun p => p.1) := fun l => by
  rw [henc]
  unfold ptC
  rw [List.flatMap_map]
 have hatt : ps.attach.map (fun p => p.1) = ps := List.attach_map_subtype_val ps
 have hrow : Row w g 49 2 cap (ps.attach.flatMap enc) := by rw [hcells, hatt]; exact h.row
 have hlt : ∀ x y, ltOf cf x y = decide (cmpLs x.1.1.2 y.1.1.2 < 0) := fun x y => by rw [hcf]; rfl
 have hO : SWO (ltOf cf) := by
  refine ⟨fun x => ?_, fun x y z h1 h2 => ?_, fun x y z h1 h2 => ?_⟩
  · rw [hlt, cmpLs_self]; rfl
  ·
   rw [hlt, decide_eq_true_eq] at *
   have a1 := cmpLs_lt_trans (a := x.1.1.2) (b := y.1.1.2) (c := z.1.1.2) (by omega) (by omega); refine Classical.byContradiction fun hno => ?_; have h0 : cmpLs x.1.1.2 z.1.1.2 = 0 := by omega
   rw [cmpLs_zero] at h0; rw [h0] at h1; have := cmpLs_swap y.1.1.2 z.1.1.2; omega
  ·
   rw [hlt, decide_eq_false_iff_not] at *
   have b1 := cmpLs_swap x.1.1.2 y.1.1.2; have b2 := cmpLs_swap y.1.1.2 z.1.1.2; have b3 := cmpLs_swap x.1.1.2 z.1.1.2; have a1 := cmpLs_lt_trans (a := z.1.1.2) (b := y.1.1.2) (c := x.1.1.2) (by omega) (by omega); omega
 have hcmp : CmpLays Tryz.prog 38 #[] enc 2 cf g 0 ps.attach.toArray.size w := by
  intro m os dk hdk x y
  have hg := (Row.sortedG (n := m) (os := os) enc hk (by omega) hrow (ts := dk.toList) (by simpa using hdk)).2
  have hx := h.each x.1 x.2
  have hy := h.each y.1 y.2
  have rx := hx.1.grown hg fun ad ha e => hx.2 ad ha (by cases e; rfl)
  have ry := hy.1.grown hg fun ad ha e => hy.2 ad ha (by cases e; rfl)
  have hxl := hx.1.2; have hyl := hy.1.2
  unfold maxLen at hxl hyl
  have hc := cmpT_walk x.1.1.1 y.1.1.1 x.1.2.1 y.1.2.1 x.1.2.2 y.1.2.2 x.1.1.2 y.1.1.2 _ rx.1 ry.1 (by omega) (by omega)
  rw [Array.toArray_toList] at hc
  have hc2 : Calls Tryz.prog 38 (#[.agg (enc x).toArray, .agg (enc y).toArray] ++ #[]) (sortWorldK enc 2 w g 0 m dk os) (RetG (sortWorldK enc 2 w g 0 m dk os) (cmpLs x.1.1.2 y.1.1.2)) := by
   have e1 : ∀ z, enc z = [.int .i64 z.1.1.1, .slice z.1.2.1 z.1.1.2.length z.1.2.2] := fun z => by rw [henc]; rfl
   rw [e1, e1]; exact hc
  refine hc2.mono ?_
  rintro e w' ⟨rfl, q, os', rfl⟩
  exact ⟨by rw [hcf], q, os', rfl⟩
 have hcon := AnyQ.slices_SortFunc_total Tryz.laySortP 2 Tryz.isAgg49 Tryz.sizeOf49 enc hk (fun x v hv => by rw [henc] at hv; simp at hv; rcases hv with rfl | rfl <;> rfl) cf hO 38 #[] g 0 cap ps.attach.toArray w eg
  hcmp (Row.holdsG enc hk (by omega) hrow) h.lt (by simp; omega) (fun x y h1 h2 => by
   rw [hlt, decide_eq_false_iff_not] at h1 h2; have := cmpLs_swap x.1.1.2 y.1.1.2; have h0 : cmpLs x.1.1.2 y.1.1.2 = 0 := by omega
   rw [cmpLs_zero] at h0
   exact Subtype.ext (hd x.1 x.2 y.1 y.2 h0))
 change Calls Tryz.prog 37 _ _ _ at hcon
 simp only [List.size_toArray, List.length_attach] at hcon
 refine hcon.mono ?_
 rintro e w' ⟨rfl, n, os, rfl⟩
 obtain ⟨ts, hts⟩ : ∃ ts, ts = ps.attach.mergeSort fun x y => !ltOf cf y x := ⟨_, rfl⟩
 have hperm : ts.Perm ps.attach := by rw [hts]; exact List.mergeSort_perm _ _
 have hsort : ts.Pairwise fun x y => cmpLs x.1.1.2 y.1.1.2 ≤ 0 := by
  have h1 := List.pairwise_mergeSort (le := fun x y => !ltOf cf y x) (fun a b c h1 h2 => by
   simp only [hlt, Bool.not_eq_true', decide_eq_false_iff_not] at *
   have b1 := cmpLs_swap a.1.1.2 b.1.1.2; have b2 := cmpLs_swap b.1.1.2 c.1.1.2; have b3 := cmpLs_swap a.1.1.2 c.1.1.2; have a1 := cmpLs_lt_trans (a := a.1.1.2) (b := b.1.1.2) (c := c.1.1.2) (by omega) (by omega)
   omega) (fun a b => by
   simp only [hlt, Bool.or_eq_true, Bool.not_eq_true', decide_eq_false_iff_not]; have b1 := cmpLs_swap a.1.1.2 b.1.1.2
   omega) ps.attach
  rw [← hts] at h1
  exact h1.imp fun {a b} hab => by
   simp only [hlt, Bool.not_eq_true', decide_eq_false_iff_not] at hab; have b1 := cmpLs_swap a.1.1.2 b.1.1.2; omega
 obtain ⟨r1, r2⟩ := Row.sortedG (n := n) (os := os) enc hk (by omega) hrow (ts := ts) (by rw [hperm.length_eq])
 rw [hts] at r1 r2
 have hpm : (ts.map fun p => p.1).Perm ps := by
  have := hperm.map fun p => p.1
  rw [hatt] at this; exact this
 refine ⟨rfl, ts.map fun p => p.1, hpm, ?_, ⟨?_, ?_, h.lo, fun p hp => ?_⟩, r2⟩
 ·
  unfold ptQ LeP
  rw [List.map_map, List.pairwise_map]
  exact hsort
 · rw [← hcells, hts]; exact r1
 · rw [hpm.length_eq]; exact h.len
 ·
  obtain ⟨e1, e2⟩ := h.each p (hpm.mem_iff.1 hp)
  exact ⟨e1.grown r2 fun ad ha e => e2 ad ha (by cases e; rfl), e2⟩
end Go.Proofs.YtagcbnpahgfgmaaGreat
namespace Go.Proofs.YtagcbnpahgfgmaaGreat
open Go Go.RowKit
def wantT (ls : List Lk) : Bool := twoL ls && (!(ls.any fun k => k.2.2 != 0) && decide (3 ≤ (vertsL ls).length))
def RetTe (w : World) (ls : List Lk) (e : Ending) (w' : World) : Prop :=
 Below w.heap.size w w' ∧ ((wantT ls = true ∧ ∃ a c T, e = .returned (.tuple #[.slice a T.length c, .int .i64 0]) ∧ RdQ w' a T ∧ TreeTo kindL ls T ∧ T.length ≤ c ∧ c ≤ maxLen) ∨ (wantT ls = false ∧ e = .returned (.tuple #[.slice none 0 0, .int .i64 150])))
theorem virtual_walk (k : Lk) (w : World) :
  Calls Tryz.prog 32 #[.agg #[.int .i64 k.1, .int .i64 k.2.1, .int .i64 k.2.2]] w fun e w' => e = .returned (.bool (k.2.2 != 0)) ∧ Below w.heap.size w w' := by
 obtain ⟨x, y, v⟩ := k
 simp only
 obtain ⟨t, ht⟩ : ∃ t, t = (v != 0) := ⟨_, rfl⟩
 rw [← ht]
 cases t with
 | true =>
  have e1 : (v != 0) = true := ht.symm
  clear ht
  go_enter Tryz.func32, Tryz.ntmps32
  go_wp2_with fail
  go_ret
  exact ⟨by first | rfl | (rw [e1]; rfl), bl_alloc w _⟩
 | false =>
  have e1 : (v != 0) = false := ht.symm
  clear ht
  go_enter Tryz.func32, Tryz.ntmps32
  go_wp2_with fail
  go_ret
  exact ⟨by first | rfl | (rw [e1]; rfl), bl_alloc w _⟩
theorem cell_lt {w : World} {a : Addr} {v : Value} (h : w.cell? a = some v) : a.block < w.heap.size := by
 rcases Nat.lt_or_ge a.block w.heap.size with h' | h'
 · exact h'
 · simp [World.cell?, Array.getElem?_eq_none h'] at h
theorem news2 (W : World) (t : TypeId) (x y : Value) : ∀ (j : Nat) v, [x, y][j]? = some v → (W.alloc (.cells #[x, y] t)).cell? ((⟨W.heap.size, 0, none⟩ : Addr).add j) = some v := by
 intro j v hj
 match j with
 | 0 => simp at hj; subst hj; simp [Addr.add]
 | 1 => simp at hj; subst hj; simp [Addr.add]
 | j + 2 => simp at hj
def PtsI (w0 wj : World) (vo : Value) (ps : List PtR) : Prop :=
 Own wj vo 49 2 ps.length (ptC ps) ∧ (∀ p ∈ ps, RowP wj p ∧ ∀ ad, p.2.1 = some ad → ad.block < w0.heap.size) ∧ (∀ g, vo.ownBlock = some g → w0.heap.size ≤ g) ∧ Below w0.heap.size w0 wj
theorem PtsI.pt {w0 wj : World} {vo : Value} {ps : List PtR} (h : PtsI w0 wj vo ps) (hn : ps ≠ []) : ∃ g cap, vo = .slice (some ⟨g, 0, none⟩) ps.length cap ∧ PtI wj w0.heap.size g cap ps := by
 obtain ⟨h1, h2, h3, h4⟩ := h
 rcases h1.2 with ⟨rfl, h0⟩ | ⟨g, cap, rfl, hc, hr⟩
 · exact absurd (List.eq_nil_of_length_eq_zero h0) hn
 ·
  have hg := h3 g rfl
  exact ⟨g, cap, rfl, hr, hc, hg, fun p hp => ⟨(h2 p hp).1, fun ad ha => by have := (h2 p hp).2 ad ha; omega⟩⟩
theorem tree_distinct {ls : List Lk} {ps : List PtR} (h : QI ls (ptQ ps)) : ∀ x ∈ ps, ∀ y ∈ ps, x.1.2 = y.1.2 → x = y := by
 intro x hx y hy he
 obtain ⟨i, hi, rfl⟩ := List.getElem_of_mem hx
 obtain ⟨j, hj, rfl⟩ := List.getElem_of_mem hy
 by_cases hij : i = j
 · subst hij; rfl
 ·
  obtain ⟨R, hR⟩ := perm_any (Q := ptQ ps) hij (by rw [ptQ_len]; exact hi) (by rw [ptQ_len]; exact hj)
  exact absurd (by simpa [ptQ] using he) (h.distinct hR)
theorem qi_ne {ls : List Lk} {Q : List Pt} (h : QI ls Q) : Q ≠ [] := fun e => by
 obtain ⟨D, hT, _⟩ := h.tree
 have := hT.len
 rw [e] at this
 simp at this
theorem three_links {ls : List Lk} (h : twoL ls = true) (h3 : 3 ≤ (vertsL ls).length) : 3 ≤ ls.length := by
 refine Classical.byContradiction fun hno => ?_
 have h1 := vertsL_length ls
 match ls, h1, hno with
 | [], h1, _ => have e : ([] : List Lk).length = 0 := rfl; omega
 | [x], h1, _ => have e : [x].length = 1 := rfl; omega
 | _ :: _ :: _ :: _, _, hno => simp only [List.length_cons] at hno; omega
 | [e, f], _, _ =>
  obtain ⟨g1, m1, n1, v1⟩ := two_deg h h3 (e := e) (by simp) (.inl rfl)
  obtain ⟨g2, m2, n2, v2⟩ := two_deg h h3 (e := e) (by simp) (.inr rfl)
  have e1 : g1 = f := by simp at m1; exact m1.resolve_left n1
  have e2 : g2 = f := by simp at m2; exact m2.resolve_left n2
  rw [e1] at v1
  rw [e2] at v2
  have hR := (two_right h).2.1
  have ok1 := hR e (by simp); have ok2 := hR f (by simp)
  unfold OkL at ok1 ok2
  have hsub := RightQ.sub_len (verts_nodup [e, f]) (m := [e.1, e.2.1]) fun x hx => by
   obtain ⟨k, hk, hx⟩ := (mem_vertsL _ _).1 hx; simp at hk ⊢; rcases hk with rfl | rfl <;> omega
  simp only [List.length_cons, List.length_nil] at hsub
  omega
set_option maxRecDepth 100000 in
set_option maxHeartbeats 8000000 in
theorem stree_walk (a : Option Addr) (cap : Nat) (ls : List Lk) (w : World) (hr : RdL w a ls) (hcap : ls.length ≤ 9223372036854775807) :
  Calls Tryz.prog 7 #[.slice a ls.length cap] w (RetTe w ls) := by
 cases h2 : twoL ls with
 | false =>
  have hw : wantT ls = false := by unfold wantT; rw [h2]; rfl
  have H2 := Lib.hid h2; have Hw := Lib.hid hw
  clear h2 hw
  go_enter Tryz.func7, Tryz.ntmps7
  go_wp2_with fail
  refine (two_walk a cap ls _ hr hcap).mono ?_
  rw [H2.out]
  rintro e w1 ⟨rfl, hb1⟩
  go_wp2_with fail
  go_ret2
  exact ⟨hb1, .inr ⟨Hw.out, rfl⟩⟩
 | true =>
  have hRl := two_right h2
  have hn := hRl.1
  cases hv : ls.any (fun k => k.2.2 != 0) with
  | true =>
   have hw : wantT ls = false := by unfold wantT; rw [h2, hv]; rfl
   have H2 := Lib.hid h2; have Hw := Lib.hid hw; have Hv := Lib.hid hv; clear h2 hw hv hRl; go_enter Tryz.func7, Tryz.ntmps7; go_wp2_with fail; refine (two_walk a cap ls _ hr hcap).mono ?_; rw [H2.out]; rintro e w1 ⟨rfl, hb1⟩; have hr1 := hr.below hb1; go_wp2_with fail; refine (contains_walk0 (fun k => k.2.2 != 0) a cap ls _ hr1 (by omega) (fun k _ w1 _ => virtual_walk k w1)).mono ?_; rw [Hv.out]; rintro e w2 ⟨rfl, hb2⟩; have hB2 := bl_trans hb1 hb2; go_wp2_with fail; go_ret2; exact ⟨hB2, .inr ⟨Hw.out, rfl⟩⟩
  | false =>
   have hvl : (vertsL ls).length ≤ 2000 := by have := vertsL_length ls; omega
   have hv0 : ∀ k ∈ ls, k.2.2 = 0 := fun k hk => by
    have := List.any_eq_false.1 hv k hk; simpa using this
   by_cases h3 : (vertsL ls).length < 3
   ·
    have hw : wantT ls = false := by
     unfold wantT; rw [h2, hv, decide_eq_false (by omega)]; rfl
    obtain ⟨vs, hvs⟩ : ∃ vs, vs = vertsL ls := ⟨_, rfl⟩
    rw [← hvs] at h3 hvl; have e3 : decide ((vs.length : Int) < 3) = true := by simp; omega
    have H2 := Lib.hid h2; have Hw := Lib.hid hw; have Hv := Lib.hid hv; have Hvs := Lib.hid hvs; clear h2 hw hv h3 hv0 hvs hRl; go_enter Tryz.func7, Tryz.ntmps7; go_wp2_with fail; refine (two_walk a cap ls _ hr hcap).mono ?_; rw [H2.out]; rintro e w1 ⟨rfl, hb1⟩; have hr1 := hr.below hb1; go_wp2_with fail; refine (contains_walk0 (fun k => k.2.2 != 0) a cap ls _ hr1 (by omega) (fun k _ w1 _ => virtual_walk k w1)).mono ?_; rw [Hv.out]; rintro e w2 ⟨rfl, hb2⟩; have hB2 := bl_trans hb1 hb2; have hr2 := hr1.below hb2; go_wp2_with fail; refine (verts_walk a cap ls _ hr2 (by omega)).mono ?_; rw [← Hvs.out]; rintro e w3 ⟨av, cv, rfl, _, _, _, _, hb3⟩; have hB3 := bl_trans hB2 hb3; go_wp2_with fail; go_ret2; exact ⟨hB3, .inr ⟨Hw.out, rfl⟩⟩
   ·
    have hw : wantT ls = true := by
     unfold wantT; rw [h2, hv, decide_eq_true (by omega)]; rfl
    obtain ⟨vs, hvs⟩ : ∃ vs, vs = vertsL ls := ⟨_, rfl⟩
    rw [← hvs] at h3 hvl; have e3 : decide ((vs.length : Int) < 3) = false := by simp; omega
    have hl3 : 3 ≤ ls.length := three_links h2 (by rw [← hvs]; omega); have hspl := fun (w : World) (hr : RdL w a ls) => split_walk a cap ls 1 w hr h2 (by omega) (by omega) (fun k hk => by rw [hv0 k hk]; omega); have hok := fun (out : List (List Lk)) (n : Int) (h : SplitTo ls 1 out n) => h.ok hRl hv0 hl3; have H2 := Lib.hid h2; have Hw := Lib.hid hw; have Hv := Lib.hid hv; have Hvs := Lib.hid hvs; have Hok := Lib.hid hok; have Hspl := Lib.hid hspl; have HRl := Lib.hid hRl; clear h2 hw hv h3 hv0 hvs hok hspl hRl; go_enter Tryz.func7, Tryz.ntmps7; go_wp2_with fail; refine (two_walk a cap ls _ hr hcap).mono ?_; rw [H2.out]; rintro e w1 ⟨rfl, hb1⟩; have hr1 := hr.below hb1; go_wp2_with fail; refine (contains_walk0 (fun k => k.2.2 != 0) a cap ls _ hr1 (by omega) (fun k _ w1 _ => virtual_walk k w1)).mono ?_; rw [Hv.out]; rintro e w2 ⟨rfl, hb2⟩; have hB2 := bl_trans hb1 hb2; have hr2 := hr1.below hb2; clear hb1 hb2 hr1; go_wp2_with fail; refine (verts_walk a cap ls _ hr2 (by omega)).mono ?_; rw [← Hvs.out]; rintro e w3 ⟨av, cv, rfl, _, _, _, _, hb3⟩; have hB3 := bl_trans hB2 hb3; have hr3 := hr2.below hb3; clear hB2 hb3 hr2; go_wp2_with fail; refine (Hspl.out _ hr3).mono ?_; rintro e w4 ⟨a4, c4, out, n, rfl, hro, hso, hol, hoe, hb4⟩; have hB4 := bl_trans hB3 hb4; have hpo := Hok.out out n hso; have Hso := Lib.hid hso; have Hpo := Lib.hid hpo; clear hb4 hr3 hB3 hso hpo hr; have hI0 : PtsI w4 w4 (.slice none 0 0) [] := ⟨own_nil _ _ _, fun p hp => by simp at hp, fun g hg => by simp [Value.ownBlock] at hg, bl_refl w4⟩
    go_wp2_with fail; go_loopg [8, 35] out.length (fun r vo iv wj => ∃ (i : Nat) (ps : List PtR), i + r = out.length ∧ iv = .int .i64 i ∧ ps.length = i ∧ ptQ ps = (out.take i).map (fun p => (kindL p, p)) ∧ PtsI w4 wj vo ps)
    case atStart => exact ⟨0, [], by omega, rfl, rfl, by simp [ptQ], hI0⟩
    case round =>
     clear hI0; obtain ⟨i, ps, hi, rfl, hpl, hpq, hI⟩ := hrel; have Hi := Lib.hid hi; have Hpq := Lib.hid hpq; have Hpl := Lib.hid hpl; have HI := Lib.hid hI; by_cases hil : i < out.length
     ·
      obtain ⟨r, hrr⟩ : ∃ r, r = out[i] := ⟨_, rfl⟩
      have hoi : out[i]? = some r := by rw [hrr]; exact List.getElem?_eq_getElem hil
      have hrm : r ∈ out := by rw [hrr]; exact List.getElem_mem hil
      obtain ⟨bo, oo, au, cu, rfl, c0, rl0, cu1, cu2⟩ := hro i r hoi; have c1 := keep_cell hI.2.2.2 c0; have rl1 := rl0.below hI.2.2.2; have hr3 := Hpo.out.three r hrm; have hre := hoe r hrm; have haul : ∀ ad, au = some ad → ad.block < w4.heap.size := fun ad ha => by
       obtain ⟨b, o, h1, h2, -⟩ := rl0.at 0 (by omega); rw [ha] at h1; cases h1; exact cell_lt h2
      have htk : (out.take (i + 1)).map (fun p => (kindL p, p)) = (out.take i).map (fun p => (kindL p, p)) ++ [(kindL r, r)] := by
       rw [List.take_succ_eq_append_getElem hil, List.map_append, ← hrr]; rfl
      have Htk := Lib.hid htk; have i1 : (i : Int) < (out.length : Int) := by omega
      have Haul := Lib.hid haul; have Hrl0 := Lib.hid rl0; clear hi hpq hpl hI hrr hoi hrm c0 rl0 haul htk; go_wp2_with fail; refine (kind_walk au cu r _ rl1 (by omega)).mono ?_; rintro e w5 ⟨rfl, hb5⟩; obtain ⟨kd, hkd⟩ : ∃ kd, kd = kindL r := ⟨_, rfl⟩
      rw [← hkd]; have Hkd := Lib.hid hkd; have hown5 : Own w5 u8 49 2 ps.length (ptC ps) := HI.out.1.below fun g hg => hb5.block g (Own.lt HI.out.1 hg); have hB5 : Below w4.heap.size w4 w5 := bl_trans HI.out.2.2.2 hb5; have hps : ps.length ≤ 1001 := by rw [Hpl.out]; omega
      have hold : ∀ p ∈ ps, RowP w5 p ∧ ∀ ad, p.2.1 = some ad → ad.block < w4.heap.size := fun p hp => ⟨(HI.out.2.1 p hp).1.below hb5, (HI.out.2.1 p hp).2⟩
      have hlo := HI.out.2.2.1; clear hkd hb5 HI c1 rl1; have hlr : RdL w5 au r := Hrl0.out.below hB5; have hA5 := hown5.alloc (.cells #[.int .i64 kd, .slice au r.length cu] 49); go_wp2_with (at_builtin; refine wpList_append_row _ rfl (.tmp 39) (.tmp 44) 24 rfl 49 (.agg #[.int .i64 0, .slice none 0 0]) 2 32 Tryz.underlying24 info_part (by decide +kernel) u8 ps.length _ rfl hA5 ⟨w5.heap.size, 0, none⟩ 1 1 [.int .i64 kd, .slice au r.length cu] rfl rfl (news2 w5 _ _ _) (by intro u hu; simp at hu; rcases hu with rfl | rfl <;> rfl) (by omega) (by unfold maxLen; omega) (by omega) ?_; intro g6 c6 w6 hr6 hc6 hg6 hor6); have hb56 : Below w4.heap.size w4 w6 := (bl_trans hB5 (bl_alloc w5 _)).grown hg6 (by have := hB5.size; simp; omega) hlo; have hg56 : w5.grownBy w6 u8.ownBlock := ⟨hg6.os, hg6.tape, hg6.output, by have := hg6.size; simp at this; omega, fun k hk hne => (hg6.block k (by simp; omega) hne).trans (Below.heap_alloc w5 _ k hk)⟩
      have hlo6 : w4.heap.size ≤ g6 := by
       rcases hor6 with h | h
       · exact hlo g6 h
       · have := hB5.size; simp at h; omega
      have hI6 : PtsI w4 w6 (.slice (some ⟨g6, 0, none⟩) (ps.length + 1) c6) (ps ++ [((kd, r), au, cu)]) := by
       refine ⟨⟨by rw [ptC_len], .inr ⟨g6, c6, by simp, by simpa using hc6, ?_⟩⟩, fun p hp => ?_, fun g hg => by cases hg; exact hlo6, hb56⟩
       · rw [ptC_append]; exact hr6
       ·
        rcases List.mem_append.1 hp with hp | hp
        · exact ⟨(hold p hp).1.grown hg56 (fun ad ha e => by have h1 := (hold p hp).2 ad ha; have h2 := hlo _ e; omega), (hold p hp).2⟩
        ·
         simp at hp; subst hp; exact ⟨⟨Hrl0.out.below hb56, cu1, cu2, fun ad ha => by have := Haul.out ad ha; have := hb56.size; omega⟩, Haul.out⟩
      have HI6 := Lib.hid hI6; clear hI6 hr6 hc6 hg6 hor6 hb56 hg56 hlo6 hA5 hlr hown5 hB5 hold hlo; go_wp2_with fail; go_roundg (gk - 1)
      case measure => have := Hi.out; omega
      case rel => exact ⟨i + 1, ps ++ [((kd, r), au, cu)], by have := Hi.out; omega, by go_num, by rw [List.length_append, Hpl.out]; rfl, by rw [Htk.out, ← Hpq.out, ← Hkd.out]; simp [ptQ], HI6.out⟩
     ·
      have hin : i = out.length := by omega
      have hq := Hpo.out.qi (by exact HRl.out.1) kindL; rw [hin, List.take_length] at hpq; rw [← hpq] at hq; have hne : ps ≠ [] := fun e => qi_ne hq (by rw [e]; rfl); obtain ⟨g, cp, rfl, hP⟩ := hI.pt hne; have hp1000 : ps.length ≤ 1000 := by
       have h1 := hq.len; rw [ptQ_len] at h1; have := HRl.out.1; omega
      have hB := hI.2.2.2; have Hq := Lib.hid hq; have HP := Lib.hid hP; have HB := Lib.hid hB; rw [hpl, hin] at hp1000; have e9 : ps.length = out.length := by rw [hpl, hin]
      have hmg := merged_walk w4.heap.size g cp ps ls wr hP hq HRl.out.1 (by rw [e9]; exact hp1000); have E9 := Lib.hid e9; have Hmg := Lib.hid hmg; clear hq hP hB HI hI hpq hpl hi e9 hmg hne hp1000 Hpl; subst hin; go_wp2_with fail; refine Hmg.out.mono ?_; rintro e w5 ⟨pm, rfl, hP5, hto, hnm, hB5⟩; have hqm := hto.qi HRl.out.1 Hq.out; have hnem : pm ≠ [] := fun e => qi_ne hqm (by rw [e]; rfl); have hlm : pm.length ≤ 1000 := by
       have h1 := hqm.len; rw [ptQ_len] at h1; have := HRl.out.1; omega
      have hsort := sortP_walk w4.heap.size g cp pm w5 hP5 (tree_distinct hqm) hnem (by omega); have hlo5 := hP5.lo; have hsz5 : w4.heap.size ≤ w5.heap.size := by have := hP5.lt; omega
      have HB5 := Lib.hid (HB.out.trans hB5); have Hto := Lib.hid hto; have Hnm := Lib.hid hnm; clear hqm hnem hP5 hto hnm hB5 Hmg HB; go_wp2_with fail; refine hsort.mono ?_; rintro e w6 ⟨rfl, ts, hpt, hso, hP6, hg6⟩; have hB6 : Below w4.heap.size w4 w6 := HB5.out.grown hg6 hsz5 (fun k hk => by cases hk; exact hlo5); have hBw := bl_trans hB4 hB6; have hlen6 : ts.length = pm.length := hpt.length_eq; have hfin : TreeTo kindL ls (ptQ ts) := ⟨out, n, ptQ pm, Hso.out, by have := Hpq.out; rw [List.take_length] at this; rw [← this]; exact Hto.out, Hnm.out, (hpt.map _).symm, hso⟩
      have Hfin := Lib.hid hfin; have HP6 := Lib.hid hP6; clear hfin hP6 hB6 hg6 hso hsort hpt HB5 hB4; go_wp2_with fail; go_ret2; exact ⟨hBw, .inl ⟨Hw.out, some ⟨g, 0, none⟩, cp, ptQ ts, by rw [ptQ_len, hlen6]; rfl, HP6.out.rdq, Hfin.out, by rw [ptQ_len]; exact HP6.out.len, HP6.out.cap_le⟩⟩
end Go.Proofs.YtagcbnpahgfgmaaGreat
namespace Go.Proofs.YtagcbnpahgfgmaaGreat
def normB (Q : List Pt) : Bool := Q.all fun x => Q.all fun y => decide (x = y) || (decide (x.1 ≠ y.1) || (decide (x.1 = 3) || (virtL x.2).all fun e => decide (e ∉ virtL y.2)))
theorem normal_of {Q : List Pt} (hn : Q.Nodup) (hb : normB Q = true) : MNormal Q := fun e Q' hs => by
 have h : ∀ x ∈ Q, ∀ y ∈ Q, x ≠ y → x.1 = y.1 → x.1 ≠ 3 → ∀ e ∈ virtL x.2, e ∉ virtL y.2 := fun x hx y hy h1 h2 h3 e he => by
  have := List.all_eq_true.1 (List.all_eq_true.1 hb x hx) y hy
  simp only [Bool.or_eq_true, decide_eq_true_eq, List.all_eq_true] at this
  rcases this with h | h | h | h
  · exact absurd h h1
  · exact absurd h2 h
  · exact absurd h h3
  · exact h e he
 obtain ⟨x, y, R, hp, hex, hey, hk, h3, _⟩ := hs
 have hxy : x ≠ y := fun he => by
  have := hp.nodup_iff.1 hn
  rw [he] at this
  simp at this
 exact h x (hp.mem_iff.2 (by simp)) y (hp.mem_iff.2 (by simp)) hxy hk h3 e hex hey
def okC (Q : List Pt) (v : Int) : Bool := decide ((atV v (allQ Q)).length = 2) && pairB Q (atV v (allQ Q))
def seenC (Q : List Pt) : Bool := (List.range Q.length).all fun j => match Q[j]? with
 | none => true
 | some q => decide (q.1 ≠ 0) && (decide (q.1 = kindL q.2) && (decide (j = 0) || decide (cmpLs (lnQ Q (j - 1)) q.2 < 0)))
def rightC (Q : List Pt) : Bool := decide (0 < Q.length) && (seenC Q && ((allQ Q).all (fun p => decide (p.2.2.2 = 0) || okC Q p.2.2.2) && (decide (realsO (allQ Q)).Nodup && (decide (nvO (allQ Q) + 2 = 2 * Q.length) && (List.range Q.length).all fun j => roundS Q Q.length j))))
theorem rightC_right {Q : List Pt} (h : rightC Q = true) : RightQ Q := by
 unfold rightC at h
 simp only [Bool.and_eq_true, decide_eq_true_eq, List.all_eq_true, List.mem_range, Bool.or_eq_true] at h
 obtain ⟨h0, h1, h2, h3, h4, h5⟩ := h
 refine (right_doc h0).2 ⟨fun j hj _ => ?_, fun p hp hv => ?_, h3, h4, h5⟩
 ·
  unfold seenC at h1
  have := List.all_eq_true.1 h1 j (List.mem_range.2 hj)
  rw [List.getElem?_eq_getElem hj] at this
  simp only [Bool.and_eq_true, decide_eq_true_eq, Bool.or_eq_true] at this
  obtain ⟨a1, a2, a3⟩ := this
  refine ⟨a1, by rw [kind_same]; exact a2, fun hj0 => ?_⟩
  have a4 := a3.resolve_left (by omega)
  rw [lnQ_at (by omega)] at a4
  exact a4
 ·
  have := (h2 p hp).resolve_left hv
  unfold okC at this
  simp only [Bool.and_eq_true, decide_eq_true_eq] at this
  exact this
theorem tree_ex {ls : List Lk} {out : List (List Lk)} {n : Int} {k : Nat} {T : List Pt} (h1 : (SpS.steps k ⟨[ls], [], 1⟩).todo = []) (h2 : (SpS.steps k ⟨[ls], [], 1⟩).out = out) (h3 : (SpS.steps k ⟨[ls], [], 1⟩).next = n)
  (hm : MTo (out.map fun p => (kindL p, p)) T) (hn : MNormal T) (hs : T.Pairwise LeP) : TreeTo kindL ls T := by
 refine ⟨out, n, T, ⟨k, ?_⟩, hm, hn, .refl _, hs⟩
 obtain ⟨s, hs⟩ : ∃ s, s = SpS.steps k ⟨[ls], [], 1⟩ := ⟨_, rfl⟩
 rw [← hs] at h1 h2 h3 ⊢
 cases s
 simp only at h1 h2 h3
 subst h1; subst h2; subst h3; rfl
def exA : List Lk := [(0, 1, 0), (0, 3, 0), (1, 2, 0), (2, 3, 0)]
def exB : List Lk := [(0, 1, 0), (0, 2, 0), (0, 3, 0), (1, 2, 0), (1, 3, 0), (2, 3, 0)]
def exC : List Lk := [(0, 1, 0), (0, 2, 0), (0, 3, 0), (1, 2, 0), (1, 3, 0)]
def tA : List Pt := [(1, exA)]
def tB : List Pt := [(3, exB)]
def tC : List Pt := [(2, [(0, 1, 0), (0, 1, 1), (0, 1, 2)]), (1, [(0, 1, 1), (0, 2, 0), (1, 2, 0)]), (1, [(0, 1, 2), (0, 3, 0), (1, 3, 0)])]
theorem exA_s : sortL ([(0, 1), (1, 2), (2, 3), (0, 3)].map fun e : Int × Int => ((e.1, e.2, 0) : Lk)) = exA := by decide +kernel
theorem exB_s : sortL ([(0, 1), (0, 2), (0, 3), (1, 2), (1, 3), (2, 3)].map fun e : Int × Int => ((e.1, e.2, 0) : Lk)) = exB := by decide +kernel
theorem exC_s : sortL ([(0, 1), (0, 2), (1, 2), (0, 3), (1, 3)].map fun e : Int × Int => ((e.1, e.2, 0) : Lk)) = exC := by decide +kernel
theorem exA_w : wantT exA = true := by decide +kernel
theorem exB_w : wantT exB = true := by decide +kernel
theorem exC_w : wantT exC = true := by decide +kernel
theorem exA_r : RightL exA := (rightL_iff _).1 (by decide +kernel)
theorem exB_r : RightL exB := (rightL_iff _).1 (by decide +kernel)
theorem exC_r : RightL exC := (rightL_iff _).1 (by decide +kernel)
theorem one_normal (q : Pt) : MNormal [q] := fun e Q' hs => by
 obtain ⟨x, y, R, hp, _⟩ := hs
 have := hp.length_eq
 simp at this
instance instLeP (a b : Pt) : Decidable (LeP a b) := by unfold LeP; infer_instance
theorem exA_t : TreeTo kindL exA tA := by
 refine tree_ex (k := 3) (out := [[(0, 1, 0), (0, 2, 1), (1, 2, 0)], [(0, 2, 1), (0, 3, 0), (2, 3, 0)]]) (n := 2) (by decide +kernel) (by decide +kernel) (by decide +kernel) (.step (e := (0, 2, 1)) (Q1 := tA) ⟨(1, [(0, 1, 0), (0, 2, 1), (1, 2, 0)]), (1, [(0, 2, 1), (0, 3, 0), (2, 3, 0)]), [], ?_, by decide +kernel, by decide +kernel, rfl, by decide, ?_⟩ (.done (.refl _))) (one_normal _) (by decide +kernel)
 ·
  have h1 : kindL [(0, 1, 0), (0, 2, 1), (1, 2, 0)] = 1 := by decide +kernel
  have h2 : kindL [(0, 2, 1), (0, 3, 0), (2, 3, 0)] = 1 := by decide +kernel
  simp only [List.map_cons, List.map_nil, h1, h2]
  exact .refl _
 ·
  have h3 : joinL [(0, 1, 0), (0, 2, 1), (1, 2, 0)] [(0, 2, 1), (0, 3, 0), (2, 3, 0)] 1 = exA := by decide +kernel
  simp only [h3]
  exact .refl _
theorem exB_t : TreeTo kindL exB tB := by
 refine tree_ex (k := 1) (out := [exB]) (n := 1) (by decide +kernel) (by decide +kernel) (by decide +kernel) (.done ?_) (one_normal _) (by decide +kernel)
 have h1 : kindL exB = 3 := by decide +kernel
 simp only [List.map_cons, List.map_nil, h1]
 exact .refl _
theorem exC_t : TreeTo kindL exC tC := by
 refine tree_ex (k := 5) (out := [[(0, 1, 1), (0, 2, 0), (1, 2, 0)], [(0, 1, 2), (0, 3, 0), (1, 3, 0)], [(0, 1, 0), (0, 1, 1), (0, 1, 2)]]) (n := 3) (by decide +kernel) (by decide +kernel) (by decide +kernel) (.done ?_) (normal_of (by decide +kernel) (by decide +kernel)) (by decide +kernel)
 have h1 : kindL [(0, 1, 1), (0, 2, 0), (1, 2, 0)] = 1 := by decide +kernel
 have h2 : kindL [(0, 1, 2), (0, 3, 0), (1, 3, 0)] = 1 := by decide +kernel
 have h3 : kindL [(0, 1, 0), (0, 1, 1), (0, 1, 2)] = 2 := by decide +kernel
 simp only [List.map_cons, List.map_nil, h1, h2, h3]
 decide +kernel
theorem exC_right : RightQ tC := rightC_right (by decide +kernel)
theorem exC_c : centreL tC = [0] := by
 have hb : rightB tC = true := rightB_iff.2 exC_right
 have he : besQ tC = nbQ tC := funext fun i => (nb_bes exC_right i).symm
 unfold centreL
 rw [hb]
 unfold centreQ
 rw [he]
 decide +kernel
theorem exC_w2 : wholeL tC = exC := by
 have hb : rightB tC = true := rightB_iff.2 exC_right
 unfold wholeL
 rw [hb]
 decide +kernel
end Go.Proofs.YtagcbnpahgfgmaaGreat
namespace Go.Proofs.YtagcbnpahgfgmaaGreat
open Go Go.RowKit
def greatB (Q : List Pt) : Bool := (Q.any fun q => decide (40 < q.2.length)) || decide (30 < Q.length)
theorem great_no {Q : List Pt} (h : greatB Q = false) : Q.length ≤ 30 ∧ ∀ q ∈ Q, q.2.length ≤ 40 := by
 unfold greatB at h
 simp only [Bool.or_eq_false_iff, List.any_eq_false, decide_eq_true_eq, decide_eq_false_iff_not] at h
 exact ⟨by omega, fun q hq => by have := h.1 q hq; omega⟩
set_option maxHeartbeats 1000000 in
theorem great15_walk (a : Option Addr) (cap : Nat) (Q : List Pt) (w : World) (hr : RdQ w a Q) (hQ : Q.length ≤ 9223372036854775807) :
  Calls Tryz.prog 19 #[.slice a Q.length cap] w fun e w' => e = .returned (.bool (greatB Q)) ∧ w = w' := by
 obtain ⟨t, ht⟩ : ∃ t, t = greatB Q := ⟨_, rfl⟩
 rw [← ht]
 have Ht := Lib.hid ht; clear ht
 go_enter Tryz.func19, Tryz.ntmps19
 go_wp2_with fail
 go_loopg [6] Q.length (fun r iv wj => ∃ i : Nat, i + r = Q.length ∧ iv = .int .i64 i ∧ (∀ j (h : j < Q.length), j < i → ¬ 40 < Q[j].2.length) ∧ w = wj)
 case atStart => exact ⟨0, by omega, rfl, fun j _ hj => absurd hj (by omega), rfl⟩
 case round =>
  obtain ⟨i, hi, rfl, hall, rfl⟩ := hrel
  have Hi := Lib.hid hi; have Hall := Lib.hid hall
  clear hall
  by_cases hil : i < Q.length
  ·
   clear hi; have hqi : Q[i]? = some Q[i] := List.getElem?_eq_getElem hil; obtain ⟨bp, op, au, cu, rfl, p0, p1, hrq, hcu, hcm⟩ := hr i _ hqi; have hmem := List.getElem_mem hil; obtain ⟨⟨kd, ls⟩, hq⟩ : ∃ q : Pt, Q[i] = q := ⟨_, rfl⟩
   rw [hq] at p0 p1 hrq hcu hmem; simp only at p0 p1 hrq hcu; have Hq := Lib.hid hq; have Hmem := Lib.hid hmem; have iI : (i : Int) < (Q.length : Int) := by omega
   clear hqi hq hmem; by_cases h4 : 40 < ls.length
   ·
    have e1 : decide ((40 : Int) < (ls.length : Int)) = true := by simp; omega
    have hfin : t = true := by
     rw [Ht.out]; unfold greatB; rw [Bool.or_eq_true, List.any_eq_true]; exact .inl ⟨_, Hmem.out, by simpa using h4⟩
    subst hfin; clear h4; go_wp2_with fail; go_ret; exact ⟨rfl, rfl⟩
   ·
    have e1 : decide ((40 : Int) < (ls.length : Int)) = false := by simp; omega
    have H4 := Lib.hid h4; clear h4; go_wp2_with fail; go_roundg (gk - 1)
    case measure => have := Hi.out; omega
    case rel => exact ⟨i + 1, by have := Hi.out; omega, by go_num, fun j hj hji => (by
     by_cases e : j = i
     · subst e; rw [Hq.out]; exact H4.out
     · exact Hall.out j hj (by omega)), rfl⟩
  ·
   have hin : i = Q.length := by omega
   subst hin; have hfin : t = decide ((30 : Int) < (Q.length : Int)) := by
    rw [Ht.out]; unfold greatB; have h1 : (Q.any fun q => decide (40 < q.2.length)) = false := by
     rw [List.any_eq_false]; intro q hq; obtain ⟨j, hj, rfl⟩ := List.getElem_of_mem hq; simpa using Hall.out j hj hj
    rw [h1, Bool.false_or, decide_eq_decide]; omega
   have Hfin := Lib.hid hfin; clear hi Hi hfin; go_wp2_with fail; go_ret; exact ⟨by rw [Hfin.out] <;> rfl, rfl⟩
set_option maxHeartbeats 1000000 in
theorem sameInts15_walk (a b : Option Addr) (ca cb : Nat) (xs ys : List Nat) (w : World) (hx : CellsAt w a (xs.map vN)) (hy : CellsAt w b (ys.map vN)) (hxl : xs.length ≤ 4000000) (hyl : ys.length ≤ 4000000) :
  Calls Tryz.prog 25 #[.slice a xs.length ca, .slice b ys.length cb] w fun e w' => e = .returned (.bool (decide (xs = ys))) ∧ ∃ d, w' = w.drewN d := by
 obtain ⟨t, ht⟩ : ∃ t, t = decide (xs = ys) := ⟨_, rfl⟩
 rw [← ht]
 have Ht := Lib.hid ht; clear ht
 by_cases hl : xs.length = ys.length
 ·
  have e0 : ((xs.length : Int) != (ys.length : Int)) = false := by simp; omega
  go_enter Tryz.func25, Tryz.ntmps25
  go_wp2_with fail
  clear e0
  go_loopg [13] xs.length (fun r iv wj => ∃ i : Nat, i + r = xs.length ∧ iv = .int .i64 i ∧ (∀ j : Nat, j < i → xs[j]? = ys[j]?) ∧ ∃ d, wj = w.drewN d)
  case atStart => exact ⟨0, by omega, rfl, fun j hj => absurd hj (by omega), 0, rfl⟩
  case round =>
   obtain ⟨i, hi, rfl, hall, d, rfl⟩ := hrel; have Hi := Lib.hid hi; have Hall := Lib.hid hall; clear hall; by_cases hil : i < xs.length
   ·
    clear hi; have hiy : i < ys.length := by omega
    obtain ⟨x, hxi⟩ : ∃ x, xs[i]? = some x := ⟨_, List.getElem?_eq_getElem hil⟩
    obtain ⟨y, hyi⟩ : ∃ y, ys[i]? = some y := ⟨_, List.getElem?_eq_getElem hiy⟩
    obtain ⟨b1, o1, rfl, c1⟩ := hx i (vN x) (by rw [List.getElem?_map, hxi]; rfl); obtain ⟨b2, o2, rfl, c2⟩ := hy i (vN y) (by rw [List.getElem?_map, hyi]; rfl); replace c1 : w.cell? ⟨b1, o1 + i, none⟩ = some (.int .i64 (x : Nat)) := c1; replace c2 : w.cell? ⟨b2, o2 + i, none⟩ = some (.int .i64 (y : Nat)) := c2; have Hx := Lib.hid hxi; have Hy := Lib.hid hyi; have i1 : (i : Int) < (xs.length : Int) := by omega
    have i2 : (i : Int) < (ys.length : Int) := by omega
    clear hxi hyi; by_cases he : x = y
    ·
     have e1 : ((x : Int) != (y : Int)) = false := by simp; omega
     have He := Lib.hid he; clear he; go_wp2_with fail; go_quiet (fail)
     go_wp2_with fail; go_roundg (gk - 1)
     case measure => have := Hi.out; omega
     case rel => exact ⟨i + 1, by have := Hi.out; omega, by go_num, fun j hj => (by
      by_cases e : j = i
      · subst e; rw [Hx.out, Hy.out, He.out]
      · exact Hall.out j (by omega)), _, rfl⟩
    ·
     have e1 : ((x : Int) != (y : Int)) = true := by simp; omega
     have hfin : t = false := by
      rw [Ht.out, decide_eq_false_iff_not]; intro h; have h1 := Hx.out; rw [h, Hy.out] at h1; exact he (Option.some.inj h1).symm
     subst hfin; clear he; go_wp2_with fail; go_quiet (fail)
     go_wp2_with fail; go_ret; exact ⟨rfl, d + nq, by simp [World.drewN, Nat.add_assoc]⟩
   ·
    have hin : i = xs.length := by omega
    subst hin; have hfin : t = true := by
     rw [Ht.out, decide_eq_true_eq]; apply List.ext_getElem? ; intro j; by_cases hj : j < xs.length
     · exact Hall.out j hj
     · rw [List.getElem?_eq_none (by omega), List.getElem?_eq_none (by omega)]
    subst hfin; clear hi Hi; go_wp2_with fail; go_ret; exact ⟨rfl, _, rfl⟩
 ·
  have e0 : ((xs.length : Int) != (ys.length : Int)) = true := by simp; omega
  have hfin : t = false := by
   rw [Ht.out, decide_eq_false_iff_not]; intro h; exact hl (by rw [h])
  subst hfin
  clear hl
  go_enter Tryz.func25, Tryz.ntmps25
  go_wp2_with fail
  go_ret
  exact ⟨rfl, 0, rfl⟩
set_option maxRecDepth 100000 in
set_option maxHeartbeats 4000000 in
theorem same15_walk (a b : Option Addr) (ca cb : Nat) (P Q : List Pt) (w : World) (hx : RdQ w a P) (hy : RdQ w b Q) (hxl : P.length ≤ 1000000) (hyl : Q.length ≤ 1000000) :
  Calls Tryz.prog 16 #[.slice a P.length ca, .slice b Q.length cb] w (RetQ w (decide (P = Q))) := by
 obtain ⟨t, ht⟩ : ∃ t, t = decide (P = Q) := ⟨_, rfl⟩
 rw [← ht]
 have Ht := Lib.hid ht; clear ht
 by_cases hl : P.length = Q.length
 ·
  have e0 : ((P.length : Int) != (Q.length : Int)) = false := by simp; omega
  go_enter Tryz.func16, Tryz.ntmps16
  go_wp2_with fail
  clear e0
  go_loopg [13] P.length (fun r iv wj => ∃ i : Nat, i + r = P.length ∧ iv = .int .i64 i ∧ (∀ j : Nat, j < i → P[j]? = Q[j]?) ∧ ∃ d, wj = w.drewN d)
  case atStart => exact ⟨0, by omega, rfl, fun j hj => absurd hj (by omega), 0, rfl⟩
  case round =>
   obtain ⟨i, hi, rfl, hall, d, hwr⟩ := hrel; have hx' : RdQ wr a P := by rw [hwr]; exact hx.below (below_drewN (bl_refl w) d)
   have hy' : RdQ wr b Q := by rw [hwr]; exact hy.below (below_drewN (bl_refl w) d)
   have Hwr := Lib.hid hwr; clear hwr; have Hi := Lib.hid hi; have Hall := Lib.hid hall; clear hall; by_cases hil : i < P.length
   ·
    clear hi; have hiy : i < Q.length := by omega
    obtain ⟨⟨k1, l1⟩, hxi⟩ : ∃ x : Pt, P[i]? = some x := ⟨_, List.getElem?_eq_getElem hil⟩
    obtain ⟨⟨k2, l2⟩, hyi⟩ : ∃ y : Pt, Q[i]? = some y := ⟨_, List.getElem?_eq_getElem hiy⟩
    obtain ⟨b1, o1, a1, c1, rfl, p0, p1, hr1, hc1, hm1⟩ := hx' i _ hxi; obtain ⟨b2, o2, a2, c2, rfl, q0, q1, hr2, hc2, hm2⟩ := hy' i _ hyi; simp only at p0 p1 hr1 hc1 q0 q1 hr2 hc2; have Hx := Lib.hid hxi; have Hy := Lib.hid hyi; have i1 : (i : Int) < (P.length : Int) := by omega
    have i2 : (i : Int) < (Q.length : Int) := by omega
    have hll1 : l1.length ≤ 9223372036854775807 := by unfold maxLen at hm1; omega
    have hll2 : l2.length ≤ 9223372036854775807 := by unfold maxLen at hm2; omega
    clear hxi hyi hx' hy'; by_cases hk : k1 = k2
    ·
     have e1 : (k1 != k2) = false := by simpa using hk
     have Hk := Lib.hid hk; have hcall := fun n => (same_walk a1 a2 c1 c2 l1 l2 (wr.drewN n) (hr1.below (below_drewN (bl_refl wr) n)) (hr2.below (below_drewN (bl_refl wr) n)) hll1 hll2)
     clear hk hr1 hr2 hx hy; by_cases he : l1 = l2
     ·
      rw [show decide (l1 = l2) = true by simpa using he] at hcall; have He := Lib.hid he; clear he; go_wp2_with fail; go_quiet ((go_at_call 11; exact Calls.quiet_of (hcall _)))
      go_wp2_with fail; go_roundg (gk - 1)
      case measure => have := Hi.out; omega
      case rel => exact ⟨i + 1, by have := Hi.out; omega, by go_num, fun j hj => (by
       by_cases e : j = i
       · subst e; rw [Hx.out, Hy.out, He.out, Hk.out]
       · exact Hall.out j (by omega)), d + nq, by rw [Hwr.out, World.drewN_drewN]⟩
     ·
      rw [show decide (l1 = l2) = false by simpa using he] at hcall; have hfin : t = false := by
       rw [Ht.out, decide_eq_false_iff_not]; intro h; have h1 := Hx.out; rw [h, Hy.out] at h1; have := Option.some.inj h1; exact he (by cases this; rfl)
      subst hfin; clear he; go_wp2_with fail; go_quiet ((go_at_call 11; exact Calls.quiet_of (hcall _)))
      go_wp2_with fail; go_ret; exact ⟨rfl, d + nq, by rw [Hwr.out, World.drewN_drewN]⟩
    ·
     have e1 : (k1 != k2) = true := by simpa using hk
     have hfin : t = false := by
      rw [Ht.out, decide_eq_false_iff_not]; intro h; have h1 := Hx.out; rw [h, Hy.out] at h1; have := Option.some.inj h1; exact hk (by cases this; rfl)
     subst hfin; clear hk; go_wp2_with fail; go_quiet (fail)
     go_wp2_with fail; go_ret; exact ⟨rfl, d + nq, by rw [Hwr.out, World.drewN_drewN]⟩
   ·
    have hin : i = P.length := by omega
    subst hin; have hfin : t = true := by
     rw [Ht.out, decide_eq_true_eq]; apply List.ext_getElem?; intro j; by_cases hj : j < P.length
     · exact Hall.out j hj
     · rw [List.getElem?_eq_none (by omega), List.getElem?_eq_none (by omega)]
    subst hfin; clear hi Hi; go_wp2_with fail; go_ret; exact ⟨rfl, d, Hwr.out⟩
 ·
  have e0 : ((P.length : Int) != (Q.length : Int)) = true := by simp; omega
  have hfin : t = false := by
   rw [Ht.out, decide_eq_false_iff_not]; intro h; exact hl (by rw [h])
  subst hfin
  clear hl
  go_enter Tryz.func16, Tryz.ntmps16
  go_wp2_with fail
  go_ret
  exact ⟨rfl, 0, rfl⟩
end Go.Proofs.YtagcbnpahgfgmaaGreat
namespace Go.Proofs.YtagcbnpahgfgmaaGreat
open Go Go.RowKit
def lkOf (e : Int × Int) : Lk := (e.1, e.2, 0)
set_option maxHeartbeats 1000000 in
theorem of15_walk (a : Option Addr) (cap : Nat) (es : List (Int × Int)) (w : World) (hr : RdP w a es) (hl : es.length ≤ 1000) :
  Calls Tryz.prog 40 #[.slice a es.length cap] w (RetLk w (sortL (es.map lkOf))) := by
 go_enter Tryz.func40, Tryz.ntmps40
 go_wp2_with fail
 have ho0 : OwnL w (.slice none 0 0) ((es.take 0).map lkOf) := own_nil _ _ _
 go_loopg [3, 8] es.length (fun r vo iv wj => ∃ i : Nat, i + r = es.length ∧ iv = .int .i64 i ∧ OwnL wj vo ((es.take i).map lkOf) ∧ (∀ g, vo.ownBlock = some g → w.heap.size ≤ g) ∧ Below w.heap.size w wj)
 case atStart => exact ⟨0, by omega, rfl, ho0, fun g hg => by simp [Value.ownBlock] at hg, bl_refl w⟩
 case round =>
  clear ho0
  obtain ⟨i, hi, rfl, hown, hyoung, hB⟩ := hrel
  have Hi := Lib.hid hi; have Hyoung := Lib.hid hyoung
  clear hyoung
  by_cases hil : i < es.length
  ·
   clear hi; obtain ⟨b, o, rfl, c0, c1⟩ := (hr.below hB).at i hil; obtain ⟨⟨x, y⟩, hx⟩ : ∃ e : Int × Int, es[i] = e := ⟨_, rfl⟩
   have htk : (es.take (i + 1)).map lkOf = (es.take i).map lkOf ++ [(x, y, 0)] := by
    rw [List.take_succ_eq_append_getElem hil, List.map_append, hx]; rfl
   rw [hx] at c0 c1; simp only at c0 c1; have hRl : ((es.take i).map lkOf).length ≤ 1000 := by rw [List.length_map, List.length_take]; omega
   obtain ⟨R, hR⟩ : ∃ R, R = (es.take i).map lkOf := ⟨_, rfl⟩
   rw [← hR] at hown htk hRl; have Htk := Lib.hid htk; have i1 : (i : Int) < (es.length : Int) := by omega
   have hA1 := bl_alloc wr (.cells #[.int .i64 x, .int .i64 y] 62); have d0 : (wr.alloc (.cells #[.int .i64 x, .int .i64 y] 62)).cell? ⟨wr.heap.size, 0, none⟩ = some (.int .i64 x) := by simp
   have d1 : (wr.alloc (.cells #[.int .i64 x, .int .i64 y] 62)).cell? ⟨wr.heap.size, 1, none⟩ = some (.int .i64 y) := by simp
   have hownA : OwnL (wr.alloc (.cells #[.int .i64 x, .int .i64 y] 62)) u3 R := hown.alloc _; have hBA := bl_trans hB hA1; clear htk hR hx; go_upto_region 5 with (fail)
   clear c0 c1 hown hB hA1; generalize wr.alloc (.cells #[.int .i64 x, .int .i64 y] 62) = wA at d0 d1 hownA hBA ⊢; have hownB : Own (wA.alloc (.cells #[.int .i64 x, .int .i64 y, .int .i64 0] 38)) u3 38 3 R.length (lkCells R) := Own.alloc hownA _; have hszA := hBA.size; go_wp2_with (at_builtin; refine wpList_append_row _ rfl (.tmp 12) (.tmp 18) 22 rfl 38 (.agg #[.int .i64 0, .int .i64 0, .int .i64 0]) 3 24 Tryz.underlying22 link_info rfl u3 R.length _ rfl hownB ⟨wA.heap.size, 0, none⟩ 1 1 [.int .i64 x, .int .i64 y, .int .i64 0] rfl rfl (news3 _ _ _ _ _) (one3 _ _ _) (by omega) (by unfold maxLen; omega) (by omega) ?_; intro g5 c5 w5 hr5 hc5 hg5 hor5); have hB5 : Below w.heap.size w w5 := (bl_trans hBA (bl_alloc wA (.cells #[.int .i64 x, .int .i64 y, .int .i64 0] 38))).grown hg5 (by simp; omega) (fun j hj => Hyoung.out j hj); have hy5 : w.heap.size ≤ g5 := by
    rcases hor5 with h | h
    · exact Hyoung.out g5 h
    · simp at h; omega
   have hown5 : OwnL w5 (.slice (some ⟨g5, 0, none⟩) (R.length + 1) c5) ((es.take (i + 1)).map lkOf) := by
    rw [Htk.out]; have e2 : lkCells R ++ [Value.int .i64 x, Value.int .i64 y, Value.int .i64 0] = lkCells (R ++ [(x, y, 0)]) := by rw [lkCells_append]; rfl
    rw [e2] at hr5; exact ⟨lkCells_length _, .inr ⟨g5, c5, by simp, by simpa using hc5, hr5⟩⟩
   clear hr5 hg5 hor5 hownA hownB d0 d1; go_wp2_with fail; go_roundg (gk - 1)
   case measure => have := Hi.out; omega
   case rel => exact ⟨i + 1, by have := Hi.out; omega, by go_num, hown5, fun j hj => by cases hj; exact hy5, hB5⟩
  ·
   have hin : i = es.length := by omega
   subst hin; rw [List.take_of_length_le (Nat.le_refl _)] at hown; obtain ⟨R, hR⟩ : ∃ R, R = es.map lkOf := ⟨_, rfl⟩
   have hRl : R.length ≤ 1000 := by rw [hR, List.length_map]; omega
   rw [← hR] at hown; have HR := Lib.hid hR; obtain ⟨a2, c2, rfl, hr2, -, -, -⟩ := hown.read; have hsw := sorted_walk a2 c2 R wr hr2 (by omega); have Hsw := Lib.hid hsw; have hsz := hB.size; clear hi Hi hown hr2 hsw hR; go_wp2_with fail; refine Hsw.out.mono ?_; rintro e w2 ⟨v, rfl, h1, h2, h3⟩; have hB2 := bl_trans hB h3; go_wp2_with fail; go_ret; exact ⟨v, rfl, by rw [← HR.out]; exact h1, fun g hg => by have := h2 g hg; omega, hB2⟩
theorem pairs_at (w : World) (es : List (Int × Int)) (n : Nat) (h : es.length = n) (hm : n ≤ maxLen) : RdP (w.alloc (.cells (pairCells es).toArray 62)) (some ⟨w.heap.size, 0, none⟩) es := by
 have hl : (pairCells es).length = es.length * 2 := by
  clear h
  induction es with
  | nil => rfl
  | cons e es ih => simp only [pairCells, List.flatMap_cons, List.length_append, List.length_cons, List.length_nil] at ih ⊢; omega
 have := (row_new w (pairCells es).toArray 62 2 n (by simp [hl]; omega) hm).at_
 unfold RdP
 simpa using this
def rawA : List (Int × Int) := [(0, 1), (1, 2), (2, 3), (0, 3)]
def rawB : List (Int × Int) := [(0, 1), (0, 2), (0, 3), (1, 2), (1, 3), (2, 3)]
def rawC : List (Int × Int) := [(0, 1), (0, 2), (1, 2), (0, 3), (1, 3)]
set_option maxRecDepth 100000 in
set_option maxHeartbeats 8000000 in
theorem awake15_walk (w : World) : Calls Tryz.prog 9 #[] w (RetT w true) := by
 go_enter Tryz.func9, Tryz.ntmps9
 have hpx := pairs_at w rawA 4 rfl (by unfold maxLen; omega)
 have hbpx := bl_alloc w (.cells (pairCells rawA).toArray 62)
 go_wp2_with fail
 refine (of15_walk (some ⟨(w).heap.size, 0, none⟩) 4 rawA _ hpx (by decide)).mono ?_
 rw [show rawA.map lkOf = rawA.map (fun e : Int × Int => ((e.1, e.2, 0) : Lk)) from rfl, show sortL (rawA.map fun e : Int × Int => ((e.1, e.2, 0) : Lk)) = exA from exA_s]
 rintro e wx1 ⟨vx, rfl, hox, -, hbx1⟩
 obtain ⟨ax, cx, rfl, hrx, -, -, -⟩ := hox.read
 have hBx := bl_trans hbpx hbx1
 clear hpx hox
 go_wp2_with fail
 refine (stree_walk ax cx exA _ hrx (by decide)).mono ?_
 rintro e wx2 ⟨hbx2, ⟨-, sx, dx, T, rfl, hqx, ht, hscx, hsmx⟩ | ⟨hno, -⟩⟩
 rotate_left
 · rw [exA_w] at hno; cases hno
 obtain rfl : T = tA := ht.one exA_t exA_r (by decide) (by decide)
 clear ht
 rw [show tA.length = 1 from rfl]
 have hBx := bl_trans hBx hbx2
 have hpy := pairs_at wx2 rawB 6 rfl (by unfold maxLen; omega)
 have hbpy := bl_alloc wx2 (.cells (pairCells rawB).toArray 62)
 go_wp2_with fail
 refine (of15_walk (some ⟨(wx2).heap.size, 0, none⟩) 6 rawB _ hpy (by decide)).mono ?_
 rw [show rawB.map lkOf = rawB.map (fun e : Int × Int => ((e.1, e.2, 0) : Lk)) from rfl, show sortL (rawB.map fun e : Int × Int => ((e.1, e.2, 0) : Lk)) = exB from exB_s]
 rintro e wy1 ⟨vy, rfl, hoy, -, hby1⟩
 obtain ⟨ay, cy, rfl, hry, -, -, -⟩ := hoy.read
 have hBy := bl_trans hbpy hby1
 clear hpy hoy
 go_wp2_with fail
 refine (stree_walk ay cy exB _ hry (by decide)).mono ?_
 rintro e wy2 ⟨hby2, ⟨-, sy, dy, T, rfl, hqy, ht, hscy, hsmy⟩ | ⟨hno, -⟩⟩
 rotate_left
 · rw [exB_w] at hno; cases hno
 obtain rfl : T = tB := ht.one exB_t exB_r (by decide) (by decide)
 clear ht
 rw [show tB.length = 1 from rfl]
 have hBy := bl_trans hBx (bl_trans hBy hby2)
 have hqx := hqx.below (bl_trans (bl_trans (bl_alloc wx2 _) hby1) hby2)
 have hpz := pairs_at wy2 rawC 5 rfl (by unfold maxLen; omega)
 have hbpz := bl_alloc wy2 (.cells (pairCells rawC).toArray 62)
 go_wp2_with fail
 refine (of15_walk (some ⟨(wy2).heap.size, 0, none⟩) 5 rawC _ hpz (by decide)).mono ?_
 rw [show rawC.map lkOf = rawC.map (fun e : Int × Int => ((e.1, e.2, 0) : Lk)) from rfl, show sortL (rawC.map fun e : Int × Int => ((e.1, e.2, 0) : Lk)) = exC from exC_s]
 rintro e wz1 ⟨vz, rfl, hoz, -, hbz1⟩
 obtain ⟨az, cz, rfl, hrz, -, -, -⟩ := hoz.read
 have hBz := bl_trans hbpz hbz1
 clear hpz hoz
 go_wp2_with fail
 refine (stree_walk az cz exC _ hrz (by decide)).mono ?_
 rintro e wz2 ⟨hbz2, ⟨-, sz, dz, T, rfl, hqz, ht, hscz, hsmz⟩ | ⟨hno, -⟩⟩
 rotate_left
 · rw [exC_w] at hno; cases hno
 obtain rfl : T = tC := ht.one exC_t exC_r (by decide) (by decide)
 clear ht
 rw [show tC.length = 3 from rfl]
 have hBz := bl_trans hBy (bl_trans hBz hbz2)
 have hrz2 := hrz.below hbz2
 have hyz := bl_trans (bl_trans (bl_alloc wy2 (.cells (pairCells rawC).toArray 62)) hbz1) hbz2
 have hqx := hqx.below hyz
 have hqy := hqy.below hyz
 clear hyz hbz2 hbz1 hbpz hby1 hbpy hby2 hbpx hbx1 hbx2
 go_wp2_with fail
 refine (centre_walk sz dz tC _ hqz (by decide)).mono ?_
 rw [exC_c]
 rintro e w5 ⟨a5, c5, rfl, hc5, hb5⟩
 have hB5 := bl_trans hBz hb5
 have hqx := hqx.below hb5
 have hqy := hqy.below hb5
 have hqz := hqz.below hb5
 have hrz := hrz2.below hb5
 clear hb5 hrz2
 obtain ⟨b1, o1, au1, cu1, rfl, x0, x1, -, -, -⟩ := hqx 0 _ rfl
 obtain ⟨b2, o2, au2, cu2, rfl, y0, y1, -, -, -⟩ := hqy 0 _ rfl
 obtain ⟨b3, o3, au3, cu3, rfl, z0, z1, -, -, -⟩ := hqz 0 _ rfl
 obtain ⟨b4, o4, rfl, m0⟩ := hc5 0 _ rfl
 simp only [Nat.zero_mul, Nat.add_zero] at x0 x1 y0 y1 z0 z1 m0
 replace m0 : w5.cell? ⟨b4, o4, none⟩ = some (.int .i64 0) := m0
 replace x0 : w5.cell? ⟨b1, o1, none⟩ = some (.int .i64 1) := x0
 replace y0 : w5.cell? ⟨b2, o2, none⟩ = some (.int .i64 3) := y0
 replace z0 : w5.cell? ⟨b3, o3, none⟩ = some (.int .i64 2) := z0
 replace x1 : w5.cell? ⟨b1, o1 + 1, none⟩ = some (.slice au1 4 cu1) := x1
 replace z1 : w5.cell? ⟨b3, o3 + 1, none⟩ = some (.slice au3 3 cu3) := z1
 go_wp2_with fail
 refine (sright_walk (some ⟨b3, o3, none⟩) dz tC _ hqz (by decide)).mono ?_
 rw [rightB_iff.2 exC_right]
 rintro e w6 ⟨rfl, hb6⟩
 have hqz := hqz.below hb6
 have hrz := hrz.below hb6
 have hB6 := bl_trans hB5 hb6
 go_wp2_with fail
 refine (whole_walk (some ⟨b3, o3, none⟩) dz tC _ hqz (by decide)).mono ?_
 rw [exC_w2]
 rintro e w7 ⟨v7, rfl, ho7, -, hb7⟩
 obtain ⟨a7, c7, rfl, hr7, -, -, -⟩ := ho7.read
 have hrz := hrz.below hb7
 have hB7 := bl_trans hB6 hb7
 go_wp2_with fail
 refine (same_walk a7 az c7 cz exC exC _ hr7 hrz (by decide) (by decide)).mono ?_
 rw [decide_eq_true rfl]
 rintro e w8 ⟨rfl, d, rfl⟩
 have hB8 := below_drewN hB7 d
 go_wp2_with fail
 go_ret
 exact ⟨rfl, hB8⟩
end Go.Proofs.YtagcbnpahgfgmaaGreat
namespace Go.Proofs.YtagcbnpahgfgmaaGreat
open Go Go.RowKit
theorem idxZ_take {n : Nat} {G : List (List Lk)} {i : Nat} (h : i < G.length) : idxZ n (G.take (i + 1)) = if 0 ≤ idxZ n (G.take i) then idxZ n (G.take i) else if chosenB n G[i] then (i : Int) else -1 := by
 unfold idxZ
 rw [List.take_succ_eq_append_getElem h, List.findIdx?_append]
 cases hf : (G.take i).findIdx? (chosenB n) with
 | some j => simp
 | none =>
  have hl : (G.take i).length = i := by rw [List.length_take]; omega
  cases hc : chosenB n G[i] <;> simp [List.findIdx?_cons, hc, hl]
theorem idxZ_bd (n : Nat) (G : List (List Lk)) : -1 ≤ idxZ n G ∧ idxZ n G ≤ G.length := by
 unfold idxZ
 cases hf : G.findIdx? (chosenB n) with
 | some j =>
  rw [List.findIdx?_eq_some_iff_getElem] at hf
  have := hf.1
  simp only
  omega
 | none => simp only; omega
set_option maxRecDepth 100000 in
set_option maxHeartbeats 8000000 in
theorem sides14_walk (a : Option Addr) (cap : Nat) (ls : List Lk) (p q num : Int) (w : World) (hr : RdL w a ls) (h2 : twoL ls = true) (hmay : mayB ls p q = true) :
  Calls Tryz.prog 126 #[.slice a ls.length cap, .int .i64 p, .int .i64 q, .int .i64 num] w (RetSides w (sidesL ls p q num)) := by
 have hR := two_right h2
 have hn := hR.1
 obtain ⟨G, hG⟩ : ∃ G, G = groupsL ls [p, q] := ⟨_, rfl⟩
 have hcl : classesL ls p q = (G, 0) := by unfold classesL; rw [hmay, hG]; rfl
 have hGl : G.length ≤ 1000 := by rw [hG]; exact groups_len_le _ _
 have hGr : ∀ (i : Nat) r, G[i]? = some r → 0 < r.length ∧ r.length ≤ 1000 := fun i r h => by
  rw [hG] at h
  obtain ⟨i0, _, X⟩ := grp_at ((rightL_iff ls).2 hR) h
  exact ⟨List.length_pos_of_mem X.self, Nat.le_trans X.sub.length_le hn⟩
 have hGr2 : ∀ r ∈ G, r.length ≤ 100000 := fun r hr => by
  obtain ⟨i, hi⟩ := List.getElem?_of_mem hr
  have := (hGr i r hi).2
  omega
 obtain ⟨⟨F, T⟩, hft⟩ : ∃ ft, ft = fromTo ls.length G := ⟨_, rfl⟩
 have hsd : sidesL ls p q num = (sortL ((p, q, num) :: inS F T G G.length), sortL ((p, q, num) :: outS F T G G.length)) := by
  unfold sidesL
  simp only
  rw [← hG, ← hft]
 have hidx : (F = 0 ∧ T = 2 ∧ idxZ ls.length G = -1) ∨ (T = F + 1 ∧ idxZ ls.length G = (F : Int) ∧ F < G.length) := by
  unfold fromTo at hft
  unfold idxZ
  cases hf : G.findIdx? (chosenB ls.length) with
  | none => rw [hf] at hft; cases hft; exact .inl ⟨rfl, rfl, rfl⟩
  | some i =>
   rw [hf] at hft; cases hft; exact .inr ⟨rfl, rfl, by rw [List.findIdx?_eq_some_iff_getElem] at hf; exact hf.1⟩
 have hTb : T ≤ 1001 ∧ F ≤ 1001 := by rcases hidx with ⟨a1, a2, _⟩ | ⟨a1, _, a3⟩ <;> omega
 have htl : ∀ f t i, i ≤ G.length → (inS f t G i).length + (outS f t G i).length ≤ ls.length := fun f t i hi => by rw [hG] at hi ⊢; exact sides_take_le hR f t i hi
 have Hcl := Lib.hid hcl; have HG := Lib.hid hG; have HGr := Lib.hid hGr; have HGr2 := Lib.hid hGr2; have Hsd := Lib.hid hsd; have Hidx := Lib.hid hidx; have Htl := Lib.hid htl
 clear hcl hG hGr hGr2 hft hsd hidx htl h2 hmay hR
 go_enter Tryz.func126, Tryz.ntmps126
 go_wp2_with fail
 refine (refClasses_walk a cap ls p q _ hr (by omega)).mono ?_
 rw [Hcl.out]
 rintro e w1 ⟨vo, vals, rfl, hL, hbW⟩
 simp only at hL ⊢
 obtain ⟨ao, co, rfl, hrG, _, _⟩ := hL.read
 clear hL hr
 go_upto_region 4 with (fail)
 go_loopg [12, 13] G.length (fun r zv iv wj => ∃ i : Nat, i + r = G.length ∧ iv = .int .i64 i ∧ zv = .int .i64 (idxZ ls.length (G.take i)) ∧ w1 = wj)
 case atStart => exact ⟨0, by omega, rfl, by simp [idxZ], rfl⟩
 case round =>
  obtain ⟨i, hi, rfl, rfl, rfl⟩ := hrel
  have Hi := Lib.hid hi
  obtain ⟨hzb1, hzb2⟩ := idxZ_bd ls.length (G.take i)
  have hzt : (G.take i).length ≤ G.length := by rw [List.length_take]; omega
  by_cases hil : i < G.length
  ·
   clear hi; have hzs := idxZ_take (n := ls.length) hil; obtain ⟨R, hR⟩ : ∃ R, G[i] = R := ⟨_, rfl⟩
   have hRi : G[i]? = some R := by rw [List.getElem?_eq_getElem hil, hR]
   obtain ⟨bo, oo, au, cu, rfl, p0, -, hRc, hcm⟩ := hrG i R hRi; obtain ⟨hR1, hR2⟩ := HGr.out i R hRi; rw [hR] at hzs; have i1 : (i : Int) < (G.length : Int) := by omega
   obtain ⟨z, hz⟩ : ∃ z, z = idxZ ls.length (G.take i) := ⟨_, rfl⟩
   rw [← hz] at hzs hzb1 hzb2 ⊢; clear hz hR hRi; by_cases hz0 : z < 0
   ·
    have e1 : decide (z < 0) = true := by simpa using hz0
    rw [if_neg (by omega)] at hzs; by_cases h1 : 1 < R.length
    ·
     have e2 : decide ((2 : Int) ≤ (R.length : Int)) = true := by simp; omega
     have e2' : decide (2 ≤ R.length) = true := by simp; omega
     by_cases h3 : (1 : Int) < (ls.length : Int) - (R.length : Int)
     ·
      have e3 : decide ((2 : Int) ≤ (ls.length : Int) - (R.length : Int)) = true := by simp; omega
      have hc : chosenB ls.length R = true := by unfold chosenB; rw [decide_eq_true h1, decide_eq_true h3]; rfl
      rw [hc] at hzs; simp only [if_true] at hzs; have Hzs := Lib.hid hzs; clear hzs hc h1 h3 hz0; go_wp2_with fail; go_roundg (gk - 1)
      case measure => have := Hi.out; omega
      case rel => exact ⟨i + 1, by have := Hi.out; omega, by go_num, by rw [Hzs.out], rfl⟩
     ·
      have e3 : decide ((2 : Int) ≤ (ls.length : Int) - (R.length : Int)) = false := by simp; omega
      have hc : chosenB ls.length R = false := by unfold chosenB; rw [decide_eq_false h3]; simp
      rw [hc] at hzs; simp only [Bool.false_eq_true, if_false] at hzs; have hzz : z = -1 := by omega
      subst hzz; have Hzs := Lib.hid hzs; clear hzs hc h1 h3 hz0; go_wp2_with fail; go_roundg (gk - 1)
      case measure => have := Hi.out; omega
      case rel => exact ⟨i + 1, by have := Hi.out; omega, by go_num, by rw [Hzs.out], rfl⟩
    ·
     have e2 : decide ((2 : Int) ≤ (R.length : Int)) = false := by simp; omega
     have e2' : decide (2 ≤ R.length) = false := by simp; omega
     have hc : chosenB ls.length R = false := by unfold chosenB; rw [decide_eq_false h1]; simp
     rw [hc] at hzs; simp only [Bool.false_eq_true, if_false] at hzs; have hzz : z = -1 := by omega
     subst hzz; have Hzs := Lib.hid hzs; clear hzs hc h1 hz0; go_wp2_with fail; go_roundg (gk - 1)
     case measure => have := Hi.out; omega
     case rel => exact ⟨i + 1, by have := Hi.out; omega, by go_num, by rw [Hzs.out], rfl⟩
   ·
    have e1 : decide (z < 0) = false := by simpa using hz0
    rw [if_pos (by omega)] at hzs; have Hzs := Lib.hid hzs; clear hzs hz0; go_wp2_with fail; go_roundg (gk - 1)
    case measure => have := Hi.out; omega
    case rel => exact ⟨i + 1, by have := Hi.out; omega, by go_num, by rw [Hzs.out], rfl⟩
  ·
   have hin : i = G.length := by omega
   subst hin; rw [List.take_length]; obtain ⟨z, hz⟩ : ∃ z, z = idxZ ls.length G := ⟨_, rfl⟩
   rw [← hz]; have hidx := Hidx.out; rw [← hz] at hidx; have Hidx2 := Lib.hid hidx; clear hi Hi hz hidx Hidx hzb1 hzb2 hzt; obtain ⟨x0, hx0⟩ : ∃ x0 : Lk, x0 = (p, q, num) := ⟨_, rfl⟩
   go_upto_region 11 with (fail)
   have ha1 := bl_alloc w1 (.cells #[.int .i64 p, .int .i64 q, .int .i64 num] 38); have hx1 : Row (w1.alloc (.cells #[.int .i64 p, .int .i64 q, .int .i64 num] 38)) w1.heap.size 38 3 1 (lkCells [x0]) := by
    have := row_new w1 #[.int .i64 p, .int .i64 q, .int .i64 num] 38 3 1 rfl (by unfold maxLen; omega); rw [hx0]; simpa [lkCells] using this
   have hs2 : (w1.alloc (.cells #[.int .i64 p, .int .i64 q, .int .i64 num] 38)).heap.size = w1.heap.size + 1 := by simp
   generalize w1.alloc (.cells #[.int .i64 p, .int .i64 q, .int .i64 num] 38) = w2 at ha1 hx1 hs2 ⊢; have ha2 := bl_alloc w2 (.cells #[.int .i64 p, .int .i64 q, .int .i64 num] 38); have hy1 : Row (w2.alloc (.cells #[.int .i64 p, .int .i64 q, .int .i64 num] 38)) (w1.heap.size + 1) 38 3 1 (lkCells [x0]) := by
    have := row_new w2 #[.int .i64 p, .int .i64 q, .int .i64 num] 38 3 1 rfl (by unfold maxLen; omega); rw [hs2] at this; rw [hx0]; simpa [lkCells] using this
   have hx2 := hx1.below ha2 hx1.lt; have hb3 : Below w1.heap.size w1 (w2.alloc (.cells #[.int .i64 p, .int .i64 q, .int .i64 num] 38)) := bl_trans ha1 ha2; generalize w2.alloc (.cells #[.int .i64 p, .int .i64 q, .int .i64 num] 38) = w3 at hy1 hx2 hb3 ⊢; have hou : OwnL w3 (.slice (some ⟨w1.heap.size, 0, none⟩) 1 1) [x0] := hx2.own rfl (Nat.le_refl _); have hov : OwnL w3 (.slice (some ⟨w1.heap.size + 1, 0, none⟩) 1 1) [x0] := hy1.own rfl (Nat.le_refl _); have Hou := Lib.hid hou; have Hov := Lib.hid hov; have Hx0 := Lib.hid hx0; clear hx1 hx2 hy1 ha1 ha2 hs2 hou hov hx0; go_loopg [14, 15, 16] G.length (fun r ov tv iv wj => ∃ (i : Nat) (u v : Value), i + r = G.length ∧ iv = .int .i64 i ∧ u = ov ∧ v = tv ∧ OwnL wj u (x0 :: inS F T G i) ∧ OwnL wj v (x0 :: outS F T G i) ∧ (∀ g, u.ownBlock = some g → w1.heap.size ≤ g) ∧ (∀ g, v.ownBlock = some g → w1.heap.size ≤ g ∧ u.ownBlock ≠ some g) ∧ Below w1.heap.size w1 wj)
   case atStart => exact ⟨0, _, _, by omega, rfl, rfl, rfl, Hou.out, Hov.out, (fun g hg => by have e : w1.heap.size = g := Option.some.inj hg; omega), (fun g hg => by have e : w1.heap.size + 1 = g := Option.some.inj hg; exact ⟨by omega, fun h => by have e2 : w1.heap.size = g := Option.some.inj h; omega⟩), hb3⟩
   case round =>
    clear hb3; obtain ⟨i, u, v, hi, rfl, rfl, rfl, hu, hv, hub, hvb, hbj⟩ := hrel; have Hi := Lib.hid hi; have Hu := Lib.hid hu; have Hv := Lib.hid hv; have Hlu := Lib.hid hub; have Hlv := Lib.hid hvb; clear hu hv hub hvb; by_cases hil : i < G.length
    ·
     clear hi; obtain ⟨R, hR⟩ : ∃ R, G[i] = R := ⟨_, rfl⟩
     have hRi : G[i]? = some R := by rw [List.getElem?_eq_getElem hil, hR]
     obtain ⟨bo, oo, au, cu, rfl, p0G, hrR, hRc, hcm⟩ := hrG i R hRi; have hR0 := HGr.out i R hRi; obtain ⟨b1, o1, rfl, _⟩ := hrR.at 0 hR0.1; have p0 := keep_cell hbj p0G; have e1 := inS_succ F T G i hil; have e2 := outS_succ F T G i hil; rw [hR] at e1 e2; have htl := Htl.out F T i (by omega); obtain ⟨hR1, hR2⟩ := hR0; clear hRi hR; rcases Hidx2.out with ⟨hF0, hT2, hz⟩ | ⟨hT1, hz, hFl⟩
     ·
      have q1 : ((i : Int) == z) = false := by simp; omega
      have q2 : decide (z < 0) = true := by simp; omega
      by_cases hT : i < 2
      ·
       have q3 : decide ((i : Int) < 2) = true := by simp; omega
       have q3' : decide (i < 2) = true := by simpa using hT
       rw [if_pos ⟨by omega, by omega⟩] at e1; rw [if_pos ⟨by omega, by omega⟩, List.append_nil] at e2; clear hz hF0 hT2 hT; have hPA : x0 :: inS F T G (i + 1) = (x0 :: inS F T G i) ++ R := by rw [e1] <;> simp
       have hPB : x0 :: outS F T G (i + 1) = x0 :: outS F T G i := by rw [e2] <;> simp
       obtain ⟨oA, hoA⟩ : ∃ o, o = x0 :: inS F T G i := ⟨_, rfl⟩
       obtain ⟨oB, hoB⟩ : ∃ o, o = x0 :: outS F T G i := ⟨_, rfl⟩
       have hua := Hu.out; have hub := Hv.out; have hoAl : oA.length ≤ 1001 := by rw [hoA, List.length_cons]; omega
       rw [← hoA] at hua hPA; rw [← hoB] at hub hPB; have Hua := Lib.hid hua; have Hub := Lib.hid hub; have HPA := Lib.hid hPA; have HPB := Lib.hid hPB; have hnews : ∀ (j : Nat) v, (lkCells R)[j]? = some v → wr.cell? ((⟨b1, o1, none⟩ : Addr).add j) = some v := fun j v hj => by
        obtain ⟨b', o', e1, e2⟩ := (hrR.below hbj) j v hj; cases e1; rw [addr_add]; exact e2
       have Hone := Lib.hid (lkCells_one R); have Hnews := Lib.hid hnews; have Hlen := Lib.hid (lkCells_length R); have hltB : ∀ g, v.ownBlock = some g → g < wr.heap.size := fun g h => Own.lt hub h; have hneAB : ∀ g, v.ownBlock = some g → u.ownBlock ≠ some g := (fun g h => (Hlv.out g h).2)
       have hloA : ∀ g, u.ownBlock = some g → w1.heap.size ≤ g := Hlu.out; have HltB := Lib.hid hltB; have HneAB := Lib.hid hneAB; have HloA := Lib.hid hloA; clear hua hub hPA hPB hoA hoB hnews hltB hneAB hloA; go_wp2_with (at_builtin; refine wpList_append_row _ rfl (.tmp 79) (.tmp 83) 22 rfl 38 (.agg #[.int .i64 0, .int .i64 0, .int .i64 0]) 3 24 Tryz.underlying22 link_info rfl u oA.length _ rfl Hua.out ⟨b1, o1, none⟩ R.length cu (lkCells R) rfl Hlen.out Hnews.out Hone.out (by omega) (by unfold maxLen; omega) (by omega) ?_); intro g5 c5 w5 hr5 hc5 hg5 hor5; have hb5 : Below w1.heap.size w1 w5 := hbj.grown hg5 hbj.size (fun j hj => HloA.out j hj); have hg6 : w1.heap.size ≤ g5 := by
        rcases hor5 with h | h
        · exact HloA.out g5 h
        · have := hbj.size; omega
       have hg7 : ∀ g, v.ownBlock = some g → g5 ≠ g := fun g hg e => by
        subst e; rcases hor5 with h | h
        · exact HneAB.out g5 hg h
        · have := HltB.out g5 hg; omega
       have hr6 : OwnL w5 (.slice (some ⟨g5, 0, none⟩) (oA.length + R.length) c5) (oA ++ R) := by
        have h1 : Row w5 g5 38 3 c5 (lkCells (oA ++ R)) := by rw [lkCells_append]; exact hr5
        have := h1.own (n := oA.length + R.length) (by rw [lkCells_length]; simp) hc5; unfold OwnL; rw [List.length_append]; exact this
       have hr7 : OwnL w5 v oB := OwnL.grown Hub.out hg5 HneAB.out; have Hr6 := Lib.hid hr6; have Hr7 := Lib.hid hr7; have Hg7 := Lib.hid hg7; clear hr5 hg5 hor5 hr6 hr7 hg7; go_wp2_with fail; go_roundg (gk - 1)
       case measure => have := Hi.out; omega
       case rel => exact ⟨i + 1, _, v, by have := Hi.out; omega, by go_num, rfl, rfl, by rw [HPA.out]; exact Hr6.out, by rw [HPB.out]; exact Hr7.out, (fun g hg => by cases hg; exact hg6), (fun g hg => ⟨(Hlv.out g hg).1, fun h => by cases h; exact Hg7.out _ hg rfl⟩), hb5⟩
      ·
       have q3 : decide ((i : Int) < 2) = false := by simp; omega
       have q3' : decide (i < 2) = false := by simpa using hT
       rw [if_neg (fun h => hT (by omega)), List.append_nil] at e1; rw [if_neg (fun h => hT (by omega))] at e2; clear hz hF0 hT2 hT; have hPA : x0 :: outS F T G (i + 1) = (x0 :: outS F T G i) ++ R := by rw [e2] <;> simp
       have hPB : x0 :: inS F T G (i + 1) = x0 :: inS F T G i := by rw [e1] <;> simp
       obtain ⟨oA, hoA⟩ : ∃ o, o = x0 :: outS F T G i := ⟨_, rfl⟩
       obtain ⟨oB, hoB⟩ : ∃ o, o = x0 :: inS F T G i := ⟨_, rfl⟩
       have hua := Hv.out; have hub := Hu.out; have hoAl : oA.length ≤ 1001 := by rw [hoA, List.length_cons]; omega
       rw [← hoA] at hua hPA; rw [← hoB] at hub hPB; have Hua := Lib.hid hua; have Hub := Lib.hid hub; have HPA := Lib.hid hPA; have HPB := Lib.hid hPB; have hnews : ∀ (j : Nat) v, (lkCells R)[j]? = some v → wr.cell? ((⟨b1, o1, none⟩ : Addr).add j) = some v := fun j v hj => by
        obtain ⟨b', o', e1, e2⟩ := (hrR.below hbj) j v hj; cases e1; rw [addr_add]; exact e2
       have Hone := Lib.hid (lkCells_one R); have Hnews := Lib.hid hnews; have Hlen := Lib.hid (lkCells_length R); have hltB : ∀ g, u.ownBlock = some g → g < wr.heap.size := fun g h => Own.lt hub h; have hneAB : ∀ g, u.ownBlock = some g → v.ownBlock ≠ some g := (fun g h h2 => (Hlv.out g h2).2 h)
       have hloA : ∀ g, v.ownBlock = some g → w1.heap.size ≤ g := (fun g h => (Hlv.out g h).1)
       have HltB := Lib.hid hltB; have HneAB := Lib.hid hneAB; have HloA := Lib.hid hloA; clear hua hub hPA hPB hoA hoB hnews hltB hneAB hloA; go_wp2_with (at_builtin; refine wpList_append_row _ rfl (.tmp 85) (.tmp 89) 22 rfl 38 (.agg #[.int .i64 0, .int .i64 0, .int .i64 0]) 3 24 Tryz.underlying22 link_info rfl v oA.length _ rfl Hua.out ⟨b1, o1, none⟩ R.length cu (lkCells R) rfl Hlen.out Hnews.out Hone.out (by omega) (by unfold maxLen; omega) (by omega) ?_); intro g5 c5 w5 hr5 hc5 hg5 hor5; have hb5 : Below w1.heap.size w1 w5 := hbj.grown hg5 hbj.size (fun j hj => HloA.out j hj); have hg6 : w1.heap.size ≤ g5 := by
        rcases hor5 with h | h
        · exact HloA.out g5 h
        · have := hbj.size; omega
       have hg7 : ∀ g, u.ownBlock = some g → g5 ≠ g := fun g hg e => by
        subst e; rcases hor5 with h | h
        · exact HneAB.out g5 hg h
        · have := HltB.out g5 hg; omega
       have hr6 : OwnL w5 (.slice (some ⟨g5, 0, none⟩) (oA.length + R.length) c5) (oA ++ R) := by
        have h1 : Row w5 g5 38 3 c5 (lkCells (oA ++ R)) := by rw [lkCells_append]; exact hr5
        have := h1.own (n := oA.length + R.length) (by rw [lkCells_length]; simp) hc5; unfold OwnL; rw [List.length_append]; exact this
       have hr7 : OwnL w5 u oB := OwnL.grown Hub.out hg5 HneAB.out; have Hr6 := Lib.hid hr6; have Hr7 := Lib.hid hr7; have Hg7 := Lib.hid hg7; clear hr5 hg5 hor5 hr6 hr7 hg7; go_wp2_with fail; go_roundg (gk - 1)
       case measure => have := Hi.out; omega
       case rel => exact ⟨i + 1, u, _, by have := Hi.out; omega, by go_num, rfl, rfl, by rw [HPB.out]; exact Hr7.out, by rw [HPA.out]; exact Hr6.out, Hlu.out, (fun g hg => by cases hg; exact ⟨hg6, fun h => Hg7.out _ h rfl⟩), hb5⟩
     ·
      have q2 : decide (z < 0) = false := by simp; omega
      by_cases hF : i = F
      ·
       have q1 : ((i : Int) == z) = true := by simp; omega
       rw [if_pos ⟨by omega, by omega⟩] at e1; rw [if_pos ⟨by omega, by omega⟩, List.append_nil] at e2; clear hz hF hT1 hFl; have hPA : x0 :: inS F T G (i + 1) = (x0 :: inS F T G i) ++ R := by rw [e1] <;> simp
       have hPB : x0 :: outS F T G (i + 1) = x0 :: outS F T G i := by rw [e2] <;> simp
       obtain ⟨oA, hoA⟩ : ∃ o, o = x0 :: inS F T G i := ⟨_, rfl⟩
       obtain ⟨oB, hoB⟩ : ∃ o, o = x0 :: outS F T G i := ⟨_, rfl⟩
       have hua := Hu.out; have hub := Hv.out; have hoAl : oA.length ≤ 1001 := by rw [hoA, List.length_cons]; omega
       rw [← hoA] at hua hPA; rw [← hoB] at hub hPB; have Hua := Lib.hid hua; have Hub := Lib.hid hub; have HPA := Lib.hid hPA; have HPB := Lib.hid hPB; have hnews : ∀ (j : Nat) v, (lkCells R)[j]? = some v → wr.cell? ((⟨b1, o1, none⟩ : Addr).add j) = some v := fun j v hj => by
        obtain ⟨b', o', e1, e2⟩ := (hrR.below hbj) j v hj; cases e1; rw [addr_add]; exact e2
       have Hone := Lib.hid (lkCells_one R); have Hnews := Lib.hid hnews; have Hlen := Lib.hid (lkCells_length R); have hltB : ∀ g, v.ownBlock = some g → g < wr.heap.size := fun g h => Own.lt hub h; have hneAB : ∀ g, v.ownBlock = some g → u.ownBlock ≠ some g := (fun g h => (Hlv.out g h).2)
       have hloA : ∀ g, u.ownBlock = some g → w1.heap.size ≤ g := Hlu.out; have HltB := Lib.hid hltB; have HneAB := Lib.hid hneAB; have HloA := Lib.hid hloA; clear hua hub hPA hPB hoA hoB hnews hltB hneAB hloA; go_wp2_with (at_builtin; refine wpList_append_row _ rfl (.tmp 79) (.tmp 83) 22 rfl 38 (.agg #[.int .i64 0, .int .i64 0, .int .i64 0]) 3 24 Tryz.underlying22 link_info rfl u oA.length _ rfl Hua.out ⟨b1, o1, none⟩ R.length cu (lkCells R) rfl Hlen.out Hnews.out Hone.out (by omega) (by unfold maxLen; omega) (by omega) ?_); intro g5 c5 w5 hr5 hc5 hg5 hor5; have hb5 : Below w1.heap.size w1 w5 := hbj.grown hg5 hbj.size (fun j hj => HloA.out j hj); have hg6 : w1.heap.size ≤ g5 := by
        rcases hor5 with h | h
        · exact HloA.out g5 h
        · have := hbj.size; omega
       have hg7 : ∀ g, v.ownBlock = some g → g5 ≠ g := fun g hg e => by
        subst e; rcases hor5 with h | h
        · exact HneAB.out g5 hg h
        · have := HltB.out g5 hg; omega
       have hr6 : OwnL w5 (.slice (some ⟨g5, 0, none⟩) (oA.length + R.length) c5) (oA ++ R) := by
        have h1 : Row w5 g5 38 3 c5 (lkCells (oA ++ R)) := by rw [lkCells_append]; exact hr5
        have := h1.own (n := oA.length + R.length) (by rw [lkCells_length]; simp) hc5; unfold OwnL; rw [List.length_append]; exact this
       have hr7 : OwnL w5 v oB := OwnL.grown Hub.out hg5 HneAB.out; have Hr6 := Lib.hid hr6; have Hr7 := Lib.hid hr7; have Hg7 := Lib.hid hg7; clear hr5 hg5 hor5 hr6 hr7 hg7; go_wp2_with fail; go_roundg (gk - 1)
       case measure => have := Hi.out; omega
       case rel => exact ⟨i + 1, _, v, by have := Hi.out; omega, by go_num, rfl, rfl, by rw [HPA.out]; exact Hr6.out, by rw [HPB.out]; exact Hr7.out, (fun g hg => by cases hg; exact hg6), (fun g hg => ⟨(Hlv.out g hg).1, fun h => by cases h; exact Hg7.out _ hg rfl⟩), hb5⟩
      ·
       have q1 : ((i : Int) == z) = false := by simp; omega
       rw [if_neg (fun h => hF (by omega)), List.append_nil] at e1; rw [if_neg (fun h => hF (by omega))] at e2; clear hz hF hT1 hFl; have hPA : x0 :: outS F T G (i + 1) = (x0 :: outS F T G i) ++ R := by rw [e2] <;> simp
       have hPB : x0 :: inS F T G (i + 1) = x0 :: inS F T G i := by rw [e1] <;> simp
       obtain ⟨oA, hoA⟩ : ∃ o, o = x0 :: outS F T G i := ⟨_, rfl⟩
       obtain ⟨oB, hoB⟩ : ∃ o, o = x0 :: inS F T G i := ⟨_, rfl⟩
       have hua := Hv.out; have hub := Hu.out; have hoAl : oA.length ≤ 1001 := by rw [hoA, List.length_cons]; omega
       rw [← hoA] at hua hPA; rw [← hoB] at hub hPB; have Hua := Lib.hid hua; have Hub := Lib.hid hub; have HPA := Lib.hid hPA; have HPB := Lib.hid hPB; have hnews : ∀ (j : Nat) v, (lkCells R)[j]? = some v → wr.cell? ((⟨b1, o1, none⟩ : Addr).add j) = some v := fun j v hj => by
        obtain ⟨b', o', e1, e2⟩ := (hrR.below hbj) j v hj; cases e1; rw [addr_add]; exact e2
       have Hone := Lib.hid (lkCells_one R); have Hnews := Lib.hid hnews; have Hlen := Lib.hid (lkCells_length R); have hltB : ∀ g, u.ownBlock = some g → g < wr.heap.size := fun g h => Own.lt hub h; have hneAB : ∀ g, u.ownBlock = some g → v.ownBlock ≠ some g := (fun g h h2 => (Hlv.out g h2).2 h)
       have hloA : ∀ g, v.ownBlock = some g → w1.heap.size ≤ g := (fun g h => (Hlv.out g h).1)
       have HltB := Lib.hid hltB; have HneAB := Lib.hid hneAB; have HloA := Lib.hid hloA; clear hua hub hPA hPB hoA hoB hnews hltB hneAB hloA; go_wp2_with (at_builtin; refine wpList_append_row _ rfl (.tmp 85) (.tmp 89) 22 rfl 38 (.agg #[.int .i64 0, .int .i64 0, .int .i64 0]) 3 24 Tryz.underlying22 link_info rfl v oA.length _ rfl Hua.out ⟨b1, o1, none⟩ R.length cu (lkCells R) rfl Hlen.out Hnews.out Hone.out (by omega) (by unfold maxLen; omega) (by omega) ?_); intro g5 c5 w5 hr5 hc5 hg5 hor5; have hb5 : Below w1.heap.size w1 w5 := hbj.grown hg5 hbj.size (fun j hj => HloA.out j hj); have hg6 : w1.heap.size ≤ g5 := by
        rcases hor5 with h | h
        · exact HloA.out g5 h
        · have := hbj.size; omega
       have hg7 : ∀ g, u.ownBlock = some g → g5 ≠ g := fun g hg e => by
        subst e; rcases hor5 with h | h
        · exact HneAB.out g5 hg h
        · have := HltB.out g5 hg; omega
       have hr6 : OwnL w5 (.slice (some ⟨g5, 0, none⟩) (oA.length + R.length) c5) (oA ++ R) := by
        have h1 : Row w5 g5 38 3 c5 (lkCells (oA ++ R)) := by rw [lkCells_append]; exact hr5
        have := h1.own (n := oA.length + R.length) (by rw [lkCells_length]; simp) hc5; unfold OwnL; rw [List.length_append]; exact this
       have hr7 : OwnL w5 u oB := OwnL.grown Hub.out hg5 HneAB.out; have Hr6 := Lib.hid hr6; have Hr7 := Lib.hid hr7; have Hg7 := Lib.hid hg7; clear hr5 hg5 hor5 hr6 hr7 hg7; go_wp2_with fail; go_roundg (gk - 1)
       case measure => have := Hi.out; omega
       case rel => exact ⟨i + 1, u, _, by have := Hi.out; omega, by go_num, rfl, rfl, by rw [HPB.out]; exact Hr7.out, by rw [HPA.out]; exact Hr6.out, Hlu.out, (fun g hg => by cases hg; exact ⟨hg6, fun h => Hg7.out _ h rfl⟩), hb5⟩
    ·
     have hin : i = G.length := by omega
     subst hin; have htl := Htl.out F T G.length (Nat.le_refl _); obtain ⟨X, hX⟩ : ∃ X, X = x0 :: inS F T G G.length := ⟨_, rfl⟩
     obtain ⟨Y, hY⟩ : ∃ Y, Y = x0 :: outS F T G G.length := ⟨_, rfl⟩
     have hXl : X.length ≤ 1001 := by rw [hX, List.length_cons]; omega
     have hYl : Y.length ≤ 1001 := by rw [hY, List.length_cons]; omega
     have hsd := Hsd.out; rw [← Hx0.out, ← hX, ← hY] at hsd; have hu := Hu.out; have hv := Hv.out; rw [← hX] at hu; rw [← hY] at hv; obtain ⟨au, cu, rfl, hru, _, _, _⟩ := OwnL.read hu; obtain ⟨av, cv, rfl, hrv, _, _, _⟩ := OwnL.read hv; have Hsd2 := Lib.hid hsd; have hB1 := bl_trans hbW hbj; clear hX hY hsd hu hv hi htl; go_wp2_with fail; refine (refSorted12_walk au cu X _ hru (by omega)).mono ?_; rintro e w5 ⟨v5, rfl, ho5, hg5, hb5⟩; have hrv5 := hrv.below hb5; have hB5 := bl_trans hB1 hb5; go_wp2_with fail; refine (refSorted12_walk av cv Y _ hrv5 (by omega)).mono ?_; rintro e w6 ⟨v6, rfl, ho6, hg6, hb6⟩; have ho5' : OwnL w6 v5 (sortL X) := Own.ext ho5 hb6; have hs1 := hB1.size; have hs5 := hB5.size; have hB6 := bl_trans hB5 hb6; have Ho5 := Lib.hid ho5'; have Ho6 := Lib.hid ho6; have Hg5 := Lib.hid hg5; have Hg6 := Lib.hid hg6; clear ho5 ho5' ho6 hg5 hg6 hb5 hb6; go_wp2_with fail; go_ret2; rw [Hsd2.out]; exact ⟨v5, v6, rfl, Ho5.out, Ho6.out, fun g hg => by have := Hg5.out g hg; omega, fun g hg => by have := Hg6.out g hg; omega, hB6⟩
end Go.Proofs.YtagcbnpahgfgmaaGreat
namespace Go.Proofs.YtagcbnpahgfgmaaGreat
open Go Go.RowKit
def SplitAt (ls : List Lk) (next : Int) (out : List (List Lk)) (n : Int) : Prop := ∃ k, ∀ rest o, SpS.steps k ⟨rest ++ [ls], o, next⟩ = ⟨rest, o ++ out, n⟩
theorem SplitAt.leaf {ls : List Lk} {next : Int} (h : (firstC ls).2.2.1 = false) : SplitAt ls next [ls] next := ⟨1, fun rest o => by
 show SpS.step _ = _
 unfold SpS.step
 simp [h]⟩
theorem SplitAt.node {ls : List Lk} {next n1 n2 : Int} {o1 o2 : List (List Lk)} (h : (firstC ls).2.2.1 = true) (h1 : SplitAt (sidesL ls (firstC ls).1 (firstC ls).2.1 next).1 (next + 1) o1 n1) (h2 : SplitAt (sidesL ls (firstC ls).1 (firstC ls).2.1 next).2 n1 o2 n2) : SplitAt ls next (o1 ++ o2) n2 := by
 obtain ⟨k1, e1⟩ := h1
 obtain ⟨k2, e2⟩ := h2
 refine ⟨1 + (k1 + k2), fun rest o => ?_⟩
 have e0 : SpS.steps 1 ⟨rest ++ [ls], o, next⟩ = ⟨(rest ++ [(sidesL ls (firstC ls).1 (firstC ls).2.1 next).2]) ++ [(sidesL ls (firstC ls).1 (firstC ls).2.1 next).1], o, next + 1⟩ := by
  show SpS.step _ = _
  unfold SpS.step
  simp [h]
 rw [steps_add, steps_add, e0, e1, e2, List.append_assoc]
theorem SplitAt.to {ls : List Lk} {next n : Int} {out : List (List Lk)} (h : SplitAt ls next out n) : SplitTo ls next out n := by
 obtain ⟨k, hk⟩ := h
 exact ⟨k, by simpa using hk [] []⟩
structure OutR (w : World) (B : Nat) (vo : Value) (vals : List Value) (out : List (List Lk)) : Prop where
 rows : PRows w B vo vals out
 free : ∀ g, vo.ownBlock = some g → FreeB vals g
 lo : ∀ (i : Nat) a n c ad, vals[i]? = some (.slice a n c) → a = some ad → B ≤ ad.block
theorem OutR.ext {w w' : World} {B : Nat} {vo : Value} {vals : List Value} {out : List (List Lk)} (h : OutR w B vo vals out) (hb : Below w.heap.size w w') : OutR w' B vo vals out := ⟨h.rows.ext hb, h.free, h.lo⟩
theorem OutR.mono {w : World} {B B' : Nat} {vo : Value} {vals : List Value} {out : List (List Lk)} (h : OutR w B vo vals out) (hB : B' ≤ B) : OutR w B' vo vals out :=
 ⟨{ h.rows with lo := fun g hg => Nat.le_trans hB (h.rows.lo g hg) }, h.free, fun i a n c ad h1 h2 => Nat.le_trans hB (h.lo i a n c ad h1 h2)⟩
theorem OutR.one {w : World} {B g G c cap : Nat} {r : List Lk} (h1 : Row w G 22 1 cap [.slice (some ⟨g, 0, none⟩) r.length c]) (hcap : 1 ≤ cap) (hr : RdL w (some ⟨g, 0, none⟩) r) (hc : r.length ≤ c) (hm : c ≤ maxLen) (hB : B ≤ G) (hg : B ≤ g) (hne : g ≠ G) (hlt : g < w.heap.size) :
  OutR w B (.slice (some ⟨G, 0, none⟩) 1 cap) [.slice (some ⟨g, 0, none⟩) r.length c] [r] := by
 refine ⟨⟨rfl, ⟨rfl, .inr ⟨G, cap, rfl, hcap, h1⟩⟩, fun x hx => by cases hx; exact hB, fun i q hq => ?_⟩, fun x hx => ?_, fun i a n c' ad hv ha => ?_⟩
 ·
  match i with
  | 0 =>
   simp at hq; subst hq; exact ⟨_, c, rfl, hr, hc, hm, fun ad ha => by cases ha; exact hlt⟩
  | i + 1 => simp at hq
 ·
  cases hx
  intro i a n c' ad hv ha
  match i with
  | 0 =>
   simp at hv; obtain ⟨rfl, _, _⟩ := hv; cases ha; exact hne
  | i + 1 => simp at hv
 ·
  match i with
  | 0 =>
   simp at hv; obtain ⟨rfl, _, _⟩ := hv; cases ha; exact hg
  | i + 1 => simp at hv
theorem OutR.cat {w w' : World} {B B2 : Nat} {vo1 vo2 : Value} {vals1 vals2 : List Value} {o1 o2 : List (List Lk)} (h1 : OutR w B vo1 vals1 o1) (h2 : OutR w B2 vo2 vals2 o2) (hBB : B ≤ B2) (hg2 : ∀ g, vo1.ownBlock = some g → g < B2)
  {G cap : Nat} (hrow : Row w' G 22 1 cap (vals1 ++ vals2)) (hc : vals1.length + vals2.length ≤ cap) (hg : w.grownBy w' vo1.ownBlock) (hor : vo1.ownBlock = some G ∨ w.heap.size ≤ G) (hB : B ≤ w.heap.size) :
  OutR w' B (.slice (some ⟨G, 0, none⟩) (vals1.length + vals2.length) cap) (vals1 ++ vals2) (o1 ++ o2) := by
 have fr : ∀ g, vo1.ownBlock = some g → FreeB vals1 g ∧ FreeB vals2 g := fun g hgv => ⟨h1.free g hgv, fun i a n c ad hv ha => by have := h2.lo i a n c ad hv ha; have := hg2 g hgv; omega⟩
 have nth : ∀ (i : Nat) (r : List Lk), (o1 ++ o2)[i]? = some r → ∃ a c, (vals1 ++ vals2)[i]? = some (.slice a r.length c) ∧ RdL w a r ∧ r.length ≤ c ∧ c ≤ maxLen ∧ (∀ ad, a = some ad → ad.block < w.heap.size) ∧ ∀ ad, a = some ad → vo1.ownBlock ≠ some ad.block := fun i r hr => by
  by_cases hi : i < o1.length
  ·
   rw [List.getElem?_append_left hi] at hr; obtain ⟨a, c, e1, e2, e3, e4, e5⟩ := h1.rows.row i r hr; exact ⟨a, c, by rw [List.getElem?_append_left (by rw [h1.rows.len]; exact hi)]; exact e1, e2, e3, e4, e5, fun ad ha hk => (fr _ hk).1 i a _ c ad e1 ha rfl⟩
  ·
   rw [List.getElem?_append_right (by omega)] at hr; obtain ⟨a, c, e1, e2, e3, e4, e5⟩ := h2.rows.row _ r hr; rw [← h1.rows.len] at e1; exact ⟨a, c, by rw [List.getElem?_append_right (by rw [h1.rows.len]; omega)]; exact e1, e2, e3, e4, e5, fun ad ha hk => (fr _ hk).2 _ a _ c ad e1 ha rfl⟩
 have split : ∀ {i : Nat} {v : Value}, (vals1 ++ vals2)[i]? = some v → vals1[i]? = some v ∨ vals2[i - vals1.length]? = some v := fun {i v} hv => by
  by_cases hi : i < vals1.length
  · rw [List.getElem?_append_left hi] at hv; exact .inl hv
  · rw [List.getElem?_append_right (by omega)] at hv; exact .inr hv
 have low : ∀ (i : Nat) a n c ad, (vals1 ++ vals2)[i]? = some (.slice a n c) → a = some ad → ad.block < w.heap.size := fun i a n c ad hv ha => by
  have hi : i < (o1 ++ o2).length := by
   have := (List.getElem?_eq_some_iff.1 hv).1; rw [List.length_append, h1.rows.len, h2.rows.len] at this; rw [List.length_append]; exact this
  obtain ⟨a', c', e1, _, _, _, e5, _⟩ := nth i _ (List.getElem?_eq_getElem hi)
  rw [hv] at e1
  cases e1
  exact e5 ad ha
 refine ⟨⟨by simp [h1.rows.len, h2.rows.len], ⟨by simp, .inr ⟨G, cap, by simp, by simpa using hc, hrow⟩⟩, fun g hgv => ?_, fun i r hr => ?_⟩, fun g hgv => ?_, fun i a n c ad hv ha => ?_⟩
 ·
  have e : G = g := Option.some.inj hgv
  subst e
  rcases hor with h | h
  · exact h1.rows.lo _ h
  · exact Nat.le_trans hB h
 ·
  obtain ⟨a, c, e1, e2, e3, e4, e5, e6⟩ := nth i r hr
  exact ⟨a, c, e1, e2.grown hg e6, e3, e4, fun ad ha => by have := e5 ad ha; have := hg.size; omega⟩
 ·
  have e : G = g := Option.some.inj hgv
  subst e
  intro i a n c ad hv ha
  rcases hor with h | h
  ·
   rcases split hv with hv | hv
   · exact (fr _ h).1 _ a n c ad hv ha
   · exact (fr _ h).2 _ a n c ad hv ha
  · have := low i a n c ad hv ha; intro e; rw [e] at this; exact absurd h (Nat.not_le.2 this)
 ·
  rcases split hv with hv | hv
  · exact h1.lo _ a n c ad hv ha
  · have := h2.lo _ a n c ad hv ha; omega
theorem OutR.grab {w : World} {B : Nat} {vo : Value} {vals : List Value} {out : List (List Lk)} (h : OutR w B vo vals out) (hn : 1 ≤ out.length) : ∃ g cap, vo = .slice (some ⟨g, 0, none⟩) vals.length cap ∧ B ≤ g ∧ vals.length ≤ cap ∧ Row w g 22 1 cap vals := by
 rcases h.rows.outer.2 with ⟨_, h0⟩ | ⟨g, cap, e, hc, hr⟩
 · have := h.rows.len; omega
 · exact ⟨g, cap, e, h.rows.lo g (by rw [e]; rfl), hc, hr⟩
theorem OutR.cells {w : World} {B : Nat} {vo : Value} {vals : List Value} {out : List (List Lk)} (h : OutR w B vo vals out) : ∀ u ∈ vals, u.oneCell' = true := by
 intro u hu
 obtain ⟨i, hi⟩ := List.getElem?_of_mem hu
 have hl : i < out.length := by rw [← h.rows.len]; exact (List.getElem?_eq_some_iff.1 hi).1
 obtain ⟨a, c, e1, _⟩ := h.rows.row i _ (List.getElem?_eq_getElem hl)
 rw [hi] at e1
 cases e1
 rfl
theorem row_news2 {w : World} {g : Nat} {e : TypeId} {c : Nat} {vs : List Value} (h : Row w g e 1 c vs) : ∀ j u, vs[j]? = some u → w.cell? ((⟨g, 0, none⟩ : Addr).add j) = some u := by
 intro j u hu
 have e : (⟨g, 0, none⟩ : Addr).add j = ⟨g, j, none⟩ := by unfold Addr.add; split <;> simp_all
 rw [e, h.cell? j (List.getElem?_eq_some_iff.1 hu).1, hu]
def RetSp14 (w : World) (ls : List Lk) (next : Int) (e : Ending) (w' : World) : Prop :=
 ∃ vo vals out n, e = .returned (.tuple #[vo, .int .i64 n]) ∧ OutR w' w.heap.size vo vals out ∧ SplitAt ls next out n ∧ next ≤ n ∧ n ≤ next + (ls.length - 3 : Nat) ∧ (1 ≤ out.length ∧ out.length ≤ 1 + (ls.length - 3)) ∧ (∀ r ∈ out, r.length ≤ ls.length) ∧ Below w.heap.size w w'
theorem may_of {ls : List Lk} {a b er : Int} (h : firstC ls = (a, b, true, er)) : twoL ls = true ∧ mayB ls a b = true := by
 obtain ⟨h1, h2, h3, h4, _⟩ := firstC_true h
 refine ⟨h1, ?_⟩
 unfold mayB
 rw [h1]
 have : (a == b) = false := by simp; omega
 simp [this, h2, h3]
set_option maxRecDepth 100000 in
set_option maxHeartbeats 8000000 in
theorem split14_walk : ∀ (m : Nat) (a : Option Addr) (cap : Nat) (ls : List Lk) (next : Int) (w : World), ls.length ≤ m → RdL w a ls → 1 ≤ ls.length → ls.length ≤ 1000 → 1 ≤ next → next + (ls.length - 3 : Nat) ≤ 1048576 → cap ≤ maxLen → 
  Calls Tryz.prog 85 #[.slice a ls.length cap, .int .i64 next] w (RetSp14 w ls next) := by
 intro m
 induction m with
 | zero => intro a cap ls next w h _ h1; omega
 | succ m ih =>
  intro a cap ls next w hm hr hl1 hl hn1 hn2 hcap
  have IH := Lib.hid ih
  clear ih
  obtain ⟨⟨p, q, ok, er⟩, hf⟩ : ∃ f, f = firstC ls := ⟨_, rfl⟩
  have hfl : firstL ls = (p, q, ok, er) := by rw [first_c, hf]
  have Hfl := Lib.hid hfl; have Hf := Lib.hid hf
  clear hfl hf
  cases ok with
  | false =>
   have hlf : SplitAt ls next [ls] next := .leaf (by rw [← Hf.out])
   have Hlf := Lib.hid hlf; clear hlf; obtain ⟨b1, o1, rfl, _⟩ := hr.at 0 (by omega); go_enter Tryz.func85, Tryz.ntmps85; go_wp2_with fail; refine (refFirst_walk _ cap ls _ hr (by omega)).mono ?_; rw [Hfl.out]; rintro e w1 ⟨rfl, hb1⟩; have hr1 := hr.below hb1; have hbE := bl_alloc w1 (.cells #[] 38); have hown0 : Own (w1.alloc (.cells #[] 38)) (.slice (some ⟨w1.heap.size, 0, none⟩) 0 0) 38 3 0 [] :=
    (row_new w1 #[] 38 3 0 rfl (by unfold maxLen; omega)).own rfl (Nat.le_refl _)
   have hnews : ∀ (j : Nat) v, (lkCells ls)[j]? = some v → (w1.alloc (.cells #[] 38)).cell? ((⟨b1, o1, none⟩ : Addr).add j) = some v := fun j v hj => by
    obtain ⟨b', o', e1, e2⟩ := (hr1.below hbE) j v hj; cases e1; rw [addr_add]; exact e2
   have Hone := Lib.hid (lkCells_one ls); have Hnews := Lib.hid hnews; have Hlen := Lib.hid (lkCells_length ls); have hwz := hb1.size; clear hnews; simp only; go_wp2_with (at_builtin; refine wpList_append_row _ rfl (.tmp 25) (.tmp 26) 22 rfl 38 (.agg #[.int .i64 0, .int .i64 0, .int .i64 0]) 3 24 Tryz.underlying22 link_info rfl (.slice (some ⟨w1.heap.size, 0, none⟩) 0 0) 0 [] rfl hown0 ⟨b1, o1, none⟩ ls.length cap (lkCells ls) rfl Hlen.out Hnews.out Hone.out (by omega) (by unfold maxLen; omega) (by omega) ?_); intro g5 c5 w5 hr5 hc5 hg5 hor5; have hb15 : Below w.heap.size w w5 := (bl_trans hb1 hbE).grown hg5 (by have := (bl_trans hb1 hbE).size; exact this) (fun j hj => by cases hj; exact hwz); have hg6 : w.heap.size ≤ g5 := by
    rcases hor5 with h | h
    · cases h; exact hwz
    · first | omega | (simp at h; omega)
   try rw [List.nil_append] at hr5
   try rw [Nat.zero_add] at hc5
   try rw [Nat.zero_add]
   have hg5l := hr5.lt; have hc5m := hr5.cap_le; have hA := bl_alloc w5 (.cells #[.slice (some ⟨g5, 0, none⟩) ls.length c5] 22); have hrow : Row (w5.alloc (.cells #[.slice (some ⟨g5, 0, none⟩) ls.length c5] 22)) w5.heap.size 22 1 1 [.slice (some ⟨g5, 0, none⟩) ls.length c5] := row_lit w5 [.slice (some ⟨g5, 0, none⟩) ls.length c5] _ (by unfold maxLen; simp); have hz5 := hb15.size; have hO : OutR (w5.alloc (.cells #[.slice (some ⟨g5, 0, none⟩) ls.length c5] 22)) w.heap.size (.slice (some ⟨w5.heap.size, 0, none⟩) 1 1) [.slice (some ⟨g5, 0, none⟩) ls.length c5] [ls] :=
    OutR.one hrow (Nat.le_refl _) ((hr5.at_).below hA) hc5 hc5m hz5 hg6 (by omega) (by simp; omega)
   have hB7 := bl_trans hb15 hA; have HO := Lib.hid hO; clear hrow hO hr5 hg5 hor5 hown0 hbE hA hr1; go_wp2_with fail; go_ret2; exact ⟨_, _, [ls], next, rfl, HO.out, Hlf.out, Int.le_refl _, by omega, ⟨by simp, by simp⟩, fun r hr => by simp at hr; subst hr; exact Nat.le_refl _, hB7⟩
  | true =>
   have hfc : firstC ls = (p, q, true, er) := Hf.out.symm; obtain ⟨h2, hmay⟩ := may_of hfc; obtain ⟨f1, f2, f3, f4⟩ := fm_sides (num := next) hfc; obtain ⟨_, _, _, _, hpr, _⟩ := firstC_true hfc; obtain ⟨l1, l2, l3⟩ := sides_len (num := next) h2 hpr; have hnode := fun (o1 o2 : List (List Lk)) (n1 n2 : Int) (h1 : SplitAt (sidesL ls p q next).1 (next + 1) o1 n1) (h2 : SplitAt (sidesL ls p q next).2 n1 o2 n2) => SplitAt.node (ls := ls) (next := next) (n1 := n1) (n2 := n2) (o1 := o1) (o2 := o2) (by rw [hfc]) (by rw [hfc]; exact h1) (by rw [hfc]; exact h2); have hsw := fun (w : World) (hr : RdL w a ls) => sides14_walk a cap ls p q next w hr h2 hmay
   obtain ⟨⟨X, Y⟩, hXY⟩ : ∃ s, s = sidesL ls p q next := ⟨_, rfl⟩
   rw [← hXY] at f1 f3 f4 l1 l2 l3 hnode hsw; simp only at f1 f3 f4 l1 l2 l3 hnode; have hfX : X.length - 3 + (Y.length - 3) + 1 ≤ ls.length - 3 := by simp [fmL] at f1; omega
   have Hnode := Lib.hid hnode; have Hsw := Lib.hid hsw; have i1 : next + 1 ≤ 1048577 := by omega
   clear hfc h2 hmay f1 hpr hnode hsw hXY; go_enter Tryz.func85, Tryz.ntmps85; go_wp2_with fail; refine (refFirst_walk _ cap ls _ hr (by omega)).mono ?_; rw [Hfl.out]; rintro e w1 ⟨rfl, hb1⟩; have hr1 := hr.below hb1; simp only; go_wp2_with fail; refine (Hsw.out _ hr1).mono ?_; rintro e w2 ⟨vx, vy, rfl, hox, hoy, hgx, hgy, hb2⟩; obtain ⟨ax, cx, rfl, hrx, -, hcx, -⟩ := hox.read; obtain ⟨ay, cy, rfl, hry, -, hcy, -⟩ := hoy.read; have hB2 := bl_trans hb1 hb2; clear hr hr1 hb1 hb2 hox hoy hgx hgy; go_wp2_with fail; refine (IH.out ax cx X (next + 1) _ (by omega) hrx (by omega) (by omega) (by omega) (by omega) hcx).mono ?_; rintro e w3 ⟨vo1, vals1, o1, n1, rfl, hO1, hs1, hn11, hn12, ⟨ho11, ho12⟩, hor1, hb3⟩; have hB3 := bl_trans hB2 hb3; have hry3 := hry.below hb3; have hz2 := hB2.size; have hz3 := hb3.size; have Hs1 := Lib.hid hs1; have Hor1 := Lib.hid hor1; clear hrx hry hb3 hB2 hs1 hor1; go_wp2_with fail; refine (IH.out ay cy Y n1 _ (by omega) hry3 (by omega) (by omega) (by omega) (by omega) hcy).mono ?_; rintro e w4 ⟨vo2, vals2, o2, n2, rfl, hO2, hs2, hn21, hn22, ⟨ho21, ho22⟩, hor2, hb4⟩; have hB4 := bl_trans hB3 hb4; have hO1' := (hO1.ext hb4).mono hz2; obtain ⟨g2, c2, rfl, hg2B, hc2, hrow2⟩ := hO2.grab ho21; obtain ⟨g1, c1, rfl, hg1B, hc1, hrow1⟩ := hO1'.grab ho11; have hg1lt : g1 < w3.heap.size := by
    obtain ⟨g1', c1', e1, _, _, hrow1'⟩ := hO1.grab ho11; cases e1; exact hrow1'.lt
   have hown1 := hO1'.rows.outer; have hone := hO2.cells; have hnews := row_news2 hrow2; have hv1 := hO1'.rows.len; have hv2 := hO2.rows.len; have hz4 := hB4.size; have Hs2 := Lib.hid hs2; have Hor2 := Lib.hid hor2; have HO1 := Lib.hid hO1'; have HO2 := Lib.hid hO2; have Hone := Lib.hid hone; have Hnews := Lib.hid hnews; have Hv1 := Lib.hid hv1; have Hv2 := Lib.hid hv2; have hb1 : vals1.length ≤ 1001 := by omega
   have hb2 : vals2.length ≤ 1001 := by omega
   have hb3 : 0 < vals2.length := by omega
   clear hs2 hor2 hO1 hO1' hO2 hone hnews hrow1 hry3 hB3 hv1 hv2; go_wp2_with (at_builtin; refine wpList_append_row _ rfl (.tmp 51) (.tmp 52) 50 rfl 22 (.slice none 0 0) 1 24 Tryz.underlying50 links_info rfl (.slice (some ⟨g1, 0, none⟩) vals1.length c1) vals1.length _ rfl hown1 ⟨g2, 0, none⟩ vals2.length c2 vals2 rfl (by omega) Hnews.out Hone.out (by omega) (by unfold maxLen; omega) (by omega) ?_); intro g5 c5 w5 hr5 hc5 hg5 hor5; have hB5 : Below w.heap.size w w5 := hB4.grown hg5 hz4 (fun j hj => by cases hj; exact hg1B); have hO := HO1.out.cat HO2.out (by omega) (fun g hg => by cases hg; exact hg1lt) hr5 hc5 hg5 hor5 hz4; have Hfin := Lib.hid (Hnode.out o1 o2 n1 n2 Hs1.out Hs2.out); have HO := Lib.hid hO; clear hr5 hg5 hor5 hown1 hO hrow2; go_wp2_with fail; go_ret2; refine ⟨_, _, o1 ++ o2, n2, rfl, HO.out, Hfin.out, by omega, by omega, ⟨by rw [List.length_append]; omega, by rw [List.length_append]; omega⟩, fun r hr => ?_, hB5⟩; rcases List.mem_append.1 hr with h | h
   · have := Hor1.out r h; omega
   · have := Hor2.out r h; omega
end Go.Proofs.YtagcbnpahgfgmaaGreat
namespace Go.Proofs.YtagcbnpahgfgmaaGreat
open Go Go.RowKit
set_option maxRecDepth 100000 in
set_option maxHeartbeats 8000000 in
theorem splitR_walk (a : Option Addr) (cap : Nat) (ls : List Lk) (next : Int) (w : World) (hr : RdL w a ls) (h2 : twoL ls = true) (hn1 : 1 ≤ next) (hn2 : next ≤ 1047576) (hv : ∀ k ∈ ls, k.2.2 < next) (hcap : cap ≤ maxLen) :
  Calls Tryz.prog 53 #[.slice a ls.length cap, .int .i64 next] w (RetSplit w ls next) := by
 have hn := (two_right h2).1
 have hl1 : 1 ≤ ls.length := List.length_pos_iff.2 (two_ne h2)
 have q1 : decide (next < 1) = false := by simp; omega
 have q2 : decide (1047576 < next) = false := by simp; omega
 have H2 := Lib.hid h2; have Hv := Lib.hid hv
 clear h2 hv
 go_enter Tryz.func53, Tryz.ntmps53
 go_wp2_with fail
 refine (refTwo12_walk a cap ls _ hr (by omega)).mono ?_
 rw [H2.out]
 rintro e w1 ⟨rfl, hb1⟩
 have hr1 := hr.below hb1
 go_wp2_with fail
 go_loopg [7] ls.length (fun r iv wj => ∃ i : Nat, i + r = ls.length ∧ iv = .int .i64 i ∧ w1 = wj)
 case atStart => exact ⟨0, by omega, rfl, rfl⟩
 case round =>
  obtain ⟨i, hi, rfl, rfl⟩ := hrel
  have Hi := Lib.hid hi
  by_cases hil : i < ls.length
  ·
   clear hi; obtain ⟨b, o, rfl, c0, c1, c2⟩ := hr1.at i hil; have hlt := Hv.out _ (List.getElem_mem hil); obtain ⟨⟨x, y, z⟩, hx⟩ : ∃ x : Lk, ls[i] = x := ⟨_, rfl⟩
   rw [hx] at c0 c1 c2 hlt; simp only at c0 c1 c2 hlt; have q3 : decide (next ≤ z) = false := by simp; omega
   have i1 : (i : Int) < (ls.length : Int) := by omega
   clear hx hlt; go_wp2_with fail; go_roundg (gk - 1)
   case measure => have := Hi.out; omega
   case rel => exact ⟨i + 1, by have := Hi.out; omega, by go_num, rfl⟩
  ·
   have hin : i = ls.length := by omega
   subst hin; clear hi q1 q2; go_wp2_with fail; refine (split14_walk ls.length a cap ls next _ (Nat.le_refl _) hr1 hl1 hn hn1 (by omega) hcap).mono ?_; rintro e w4 ⟨vo, vals, out, n, rfl, hO, hs, hn1, hn2, ⟨ho1, ho2⟩, hor, hb4⟩; have hB4 := bl_trans hb1 hb4; obtain ⟨a4, c4, rfl, hrd, -, -⟩ := hO.rows.read; have Hs := Lib.hid hs; have Hor := Lib.hid hor; clear hO hs hor; go_wp2_with fail; refine bodyPost_ret (v := .tuple #[.slice a4 out.length c4, .int .i64 n, .int .i64 0]) (by simp [results, Tryz.results53, go_sem]) rfl ?_; exact ⟨a4, c4, out, n, rfl, hrd, Hs.out.to, by omega, fun r h => by have := Hor.out r h; omega, hB4⟩
end Go.Proofs.YtagcbnpahgfgmaaGreat
