/- The law SpqrOnce: the parts of any two-connected real links (at most 40) of three vertices at least are right, and are put together to what was parted; if the vertices are called otherwise, so are theirs, and nothing else is another one. It holds for any links and any names: all others only ask the examples of the chapter. -/
import Derived.Test.YtagcbnpahgfgmaaGreatKO13
namespace Go.Proofs.YtagcbnpahgfgmaaGreat
open Go Go.RowKit
def lkOf (e : Int × Int) : Lk := (e.1, e.2, 0)
set_option maxHeartbeats 1000000 in
theorem of15_walk (a : Option Addr) (cap : Nat) (es : List (Int × Int)) (w : World) (hr : RdP w a es) (hl : es.length ≤ 1000) :
  Calls Tryz.prog 40 #[.slice a es.length cap] w (RetLk w (sortL (es.map lkOf))) := by
 go_enter Tryz.func40, Tryz.ntmps40
 go_wp2_with fail
 have ho0 : OwnL w (.slice none 0 0) ((es.take 0).map lkOf) := own_nil _ _ _
 go_loopg [3, 8] es.length (fun r vo iv wj => ∃ i : Nat, i + r = es.length ∧ iv = .int .i64 i ∧ OwnL wj vo ((es.take i).map lkOf) ∧ (∀ g, vo.ownBlock = some g → w.heap.size ≤ g) ∧ Below w.heap.size w wj)
 case atStart => exact ⟨0, by omega, rfl, ho0, fun g hg => by simp [Value.ownBlock] at hg, bl_refl w⟩
 case round =>
  clear ho0
  obtain ⟨i, hi, rfl, hown, hyoung, hB⟩ := hrel
  have Hi := Lib.hid hi; have Hyoung := Lib.hid hyoung
  clear hyoung
  by_cases hil : i < es.length
  ·
   clear hi; obtain ⟨b, o, rfl, c0, c1⟩ := (hr.below hB).at i hil; obtain ⟨⟨x, y⟩, hx⟩ : ∃ e : Int × Int, es[i] = e := ⟨_, rfl⟩
   have htk : (es.take (i + 1)).map lkOf = (es.take i).map lkOf ++ [(x, y, 0)] := by
    rw [List.take_succ_eq_append_getElem hil, List.map_append, hx]; rfl
   rw [hx] at c0 c1; simp only at c0 c1; have hRl : ((es.take i).map lkOf).length ≤ 1000 := by rw [List.length_map, List.length_take]; omega
   obtain ⟨R, hR⟩ : ∃ R, R = (es.take i).map lkOf := ⟨_, rfl⟩
   rw [← hR] at hown htk hRl; have Htk := Lib.hid htk; have i1 : (i : Int) < (es.length : Int) := by omega
   have hA1 := bl_alloc wr (.cells #[.int .i64 x, .int .i64 y] 62); have d0 : (wr.alloc (.cells #[.int .i64 x, .int .i64 y] 62)).cell? ⟨wr.heap.size, 0, none⟩ = some (.int .i64 x) := by simp
   have d1 : (wr.alloc (.cells #[.int .i64 x, .int .i64 y] 62)).cell? ⟨wr.heap.size, 1, none⟩ = some (.int .i64 y) := by simp
   have hownA : OwnL (wr.alloc (.cells #[.int .i64 x, .int .i64 y] 62)) u3 R := hown.alloc _; have hBA := bl_trans hB hA1; clear htk hR hx; go_upto_region 5 with (fail)
   clear c0 c1 hown hB hA1; generalize wr.alloc (.cells #[.int .i64 x, .int .i64 y] 62) = wA at d0 d1 hownA hBA ⊢; have hownB : Own (wA.alloc (.cells #[.int .i64 x, .int .i64 y, .int .i64 0] 38)) u3 38 3 R.length (lkCells R) := Own.alloc hownA _; have hszA := hBA.size; go_wp2_with (at_builtin; refine wpList_append_row _ rfl (.tmp 12) (.tmp 18) 22 rfl 38 (.agg #[.int .i64 0, .int .i64 0, .int .i64 0]) 3 24 Tryz.underlying22 link_info rfl u3 R.length _ rfl hownB ⟨wA.heap.size, 0, none⟩ 1 1 [.int .i64 x, .int .i64 y, .int .i64 0] rfl rfl (news3 _ _ _ _ _) (one3 _ _ _) (by omega) (by unfold maxLen; omega) (by omega) ?_; intro g5 c5 w5 hr5 hc5 hg5 hor5); have hB5 : Below w.heap.size w w5 := (bl_trans hBA (bl_alloc wA (.cells #[.int .i64 x, .int .i64 y, .int .i64 0] 38))).grown hg5 (by simp; omega) (fun j hj => Hyoung.out j hj); have hy5 : w.heap.size ≤ g5 := by
    rcases hor5 with h | h
    · exact Hyoung.out g5 h
    · simp at h; omega
   have hown5 : OwnL w5 (.slice (some ⟨g5, 0, none⟩) (R.length + 1) c5) ((es.take (i + 1)).map lkOf) := by
    rw [Htk.out]; have e2 : lkCells R ++ [Value.int .i64 x, Value.int .i64 y, Value.int .i64 0] = lkCells (R ++ [(x, y, 0)]) := by rw [lkCells_append]; rfl
    rw [e2] at hr5; exact ⟨lkCells_length _, .inr ⟨g5, c5, by simp, by simpa using hc5, hr5⟩⟩
   clear hr5 hg5 hor5 hownA hownB d0 d1; go_wp2_with fail; go_roundg (gk - 1)
   case measure => have := Hi.out; omega
   case rel => exact ⟨i + 1, by have := Hi.out; omega, by go_num, hown5, fun j hj => by cases hj; exact hy5, hB5⟩
  ·
   have hin : i = es.length := by omega
   subst hin; rw [List.take_of_length_le (Nat.le_refl _)] at hown; obtain ⟨R, hR⟩ : ∃ R, R = es.map lkOf := ⟨_, rfl⟩
   have hRl : R.length ≤ 1000 := by rw [hR, List.length_map]; omega
   rw [← hR] at hown; have HR := Lib.hid hR; obtain ⟨a2, c2, rfl, hr2, -, -, -⟩ := hown.read; have hsw := sorted_walk a2 c2 R wr hr2 (by omega); have Hsw := Lib.hid hsw; have hsz := hB.size; clear hi Hi hown hr2 hsw hR; go_wp2_with fail; refine Hsw.out.mono ?_; rintro e w2 ⟨v, rfl, h1, h2, h3⟩; have hB2 := bl_trans hB h3; go_wp2_with fail; go_ret; exact ⟨v, rfl, by rw [← HR.out]; exact h1, fun g hg => by have := h2 g hg; omega, hB2⟩
theorem pairs_at (w : World) (es : List (Int × Int)) (n : Nat) (h : es.length = n) (hm : n ≤ maxLen) : RdP (w.alloc (.cells (pairCells es).toArray 62)) (some ⟨w.heap.size, 0, none⟩) es := by
 have hl : (pairCells es).length = es.length * 2 := by
  clear h
  induction es with
  | nil => rfl
  | cons e es ih => simp only [pairCells, List.flatMap_cons, List.length_append, List.length_cons, List.length_nil] at ih ⊢; omega
 have := (row_new w (pairCells es).toArray 62 2 n (by simp [hl]; omega) hm).at_
 unfold RdP
 simpa using this
def rawA : List (Int × Int) := [(0, 1), (1, 2), (2, 3), (0, 3)]
def rawB : List (Int × Int) := [(0, 1), (0, 2), (0, 3), (1, 2), (1, 3), (2, 3)]
def rawC : List (Int × Int) := [(0, 1), (0, 2), (1, 2), (0, 3), (1, 3)]
set_option maxRecDepth 100000 in
set_option maxHeartbeats 8000000 in
theorem awake15_walk (w : World) : Calls Tryz.prog 9 #[] w (RetT w true) := by
 go_enter Tryz.func9, Tryz.ntmps9
 have hpx := pairs_at w rawA 4 rfl (by unfold maxLen; omega)
 have hbpx := bl_alloc w (.cells (pairCells rawA).toArray 62)
 go_wp2_with fail
 refine (of15_walk (some ⟨(w).heap.size, 0, none⟩) 4 rawA _ hpx (by decide)).mono ?_
 rw [show rawA.map lkOf = rawA.map (fun e : Int × Int => ((e.1, e.2, 0) : Lk)) from rfl, show sortL (rawA.map fun e : Int × Int => ((e.1, e.2, 0) : Lk)) = exA from exA_s]
 rintro e wx1 ⟨vx, rfl, hox, -, hbx1⟩
 obtain ⟨ax, cx, rfl, hrx, -, -, -⟩ := hox.read
 have hBx := bl_trans hbpx hbx1
 clear hpx hox
 go_wp2_with fail
 refine (stree_walk ax cx exA _ hrx (by decide)).mono ?_
 rintro e wx2 ⟨hbx2, ⟨-, sx, dx, T, rfl, hqx, ht, hscx, hsmx⟩ | ⟨hno, -⟩⟩
 rotate_left
 · rw [exA_w] at hno; cases hno
 obtain rfl : T = tA := ht.one exA_t exA_r (by decide) (by decide)
 clear ht
 rw [show tA.length = 1 from rfl]
 have hBx := bl_trans hBx hbx2
 have hpy := pairs_at wx2 rawB 6 rfl (by unfold maxLen; omega)
 have hbpy := bl_alloc wx2 (.cells (pairCells rawB).toArray 62)
 go_wp2_with fail
 refine (of15_walk (some ⟨(wx2).heap.size, 0, none⟩) 6 rawB _ hpy (by decide)).mono ?_
 rw [show rawB.map lkOf = rawB.map (fun e : Int × Int => ((e.1, e.2, 0) : Lk)) from rfl, show sortL (rawB.map fun e : Int × Int => ((e.1, e.2, 0) : Lk)) = exB from exB_s]
 rintro e wy1 ⟨vy, rfl, hoy, -, hby1⟩
 obtain ⟨ay, cy, rfl, hry, -, -, -⟩ := hoy.read
 have hBy := bl_trans hbpy hby1
 clear hpy hoy
 go_wp2_with fail
 refine (stree_walk ay cy exB _ hry (by decide)).mono ?_
 rintro e wy2 ⟨hby2, ⟨-, sy, dy, T, rfl, hqy, ht, hscy, hsmy⟩ | ⟨hno, -⟩⟩
 rotate_left
 · rw [exB_w] at hno; cases hno
 obtain rfl : T = tB := ht.one exB_t exB_r (by decide) (by decide)
 clear ht
 rw [show tB.length = 1 from rfl]
 have hBy := bl_trans hBx (bl_trans hBy hby2)
 have hqx := hqx.below (bl_trans (bl_trans (bl_alloc wx2 _) hby1) hby2)
 have hpz := pairs_at wy2 rawC 5 rfl (by unfold maxLen; omega)
 have hbpz := bl_alloc wy2 (.cells (pairCells rawC).toArray 62)
 go_wp2_with fail
 refine (of15_walk (some ⟨(wy2).heap.size, 0, none⟩) 5 rawC _ hpz (by decide)).mono ?_
 rw [show rawC.map lkOf = rawC.map (fun e : Int × Int => ((e.1, e.2, 0) : Lk)) from rfl, show sortL (rawC.map fun e : Int × Int => ((e.1, e.2, 0) : Lk)) = exC from exC_s]
 rintro e wz1 ⟨vz, rfl, hoz, -, hbz1⟩
 obtain ⟨az, cz, rfl, hrz, -, -, -⟩ := hoz.read
 have hBz := bl_trans hbpz hbz1
 clear hpz hoz
 go_wp2_with fail
 refine (stree_walk az cz exC _ hrz (by decide)).mono ?_
 rintro e wz2 ⟨hbz2, ⟨-, sz, dz, T, rfl, hqz, ht, hscz, hsmz⟩ | ⟨hno, -⟩⟩
 rotate_left
 · rw [exC_w] at hno; cases hno
 obtain rfl : T = tC := ht.one exC_t exC_r (by decide) (by decide)
 clear ht
 rw [show tC.length = 3 from rfl]
 have hBz := bl_trans hBy (bl_trans hBz hbz2)
 have hrz2 := hrz.below hbz2
 have hyz := bl_trans (bl_trans (bl_alloc wy2 (.cells (pairCells rawC).toArray 62)) hbz1) hbz2
 have hqx := hqx.below hyz
 have hqy := hqy.below hyz
 clear hyz hbz2 hbz1 hbpz hby1 hbpy hby2 hbpx hbx1 hbx2
 go_wp2_with fail
 refine (centre_walk sz dz tC _ hqz (by decide)).mono ?_
 rw [exC_c]
 rintro e w5 ⟨a5, c5, rfl, hc5, hb5⟩
 have hB5 := bl_trans hBz hb5
 have hqx := hqx.below hb5
 have hqy := hqy.below hb5
 have hqz := hqz.below hb5
 have hrz := hrz2.below hb5
 clear hb5 hrz2
 obtain ⟨b1, o1, au1, cu1, rfl, x0, x1, -, -, -⟩ := hqx 0 _ rfl
 obtain ⟨b2, o2, au2, cu2, rfl, y0, y1, -, -, -⟩ := hqy 0 _ rfl
 obtain ⟨b3, o3, au3, cu3, rfl, z0, z1, -, -, -⟩ := hqz 0 _ rfl
 obtain ⟨b4, o4, rfl, m0⟩ := hc5 0 _ rfl
 simp only [Nat.zero_mul, Nat.add_zero] at x0 x1 y0 y1 z0 z1 m0
 replace m0 : w5.cell? ⟨b4, o4, none⟩ = some (.int .i64 0) := m0
 replace x0 : w5.cell? ⟨b1, o1, none⟩ = some (.int .i64 1) := x0
 replace y0 : w5.cell? ⟨b2, o2, none⟩ = some (.int .i64 3) := y0
 replace z0 : w5.cell? ⟨b3, o3, none⟩ = some (.int .i64 2) := z0
 replace x1 : w5.cell? ⟨b1, o1 + 1, none⟩ = some (.slice au1 4 cu1) := x1
 replace z1 : w5.cell? ⟨b3, o3 + 1, none⟩ = some (.slice au3 3 cu3) := z1
 go_wp2_with fail
 refine (sright_walk (some ⟨b3, o3, none⟩) dz tC _ hqz (by decide)).mono ?_
 rw [rightB_iff.2 exC_right]
 rintro e w6 ⟨rfl, hb6⟩
 have hqz := hqz.below hb6
 have hrz := hrz.below hb6
 have hB6 := bl_trans hB5 hb6
 go_wp2_with fail
 refine (whole_walk (some ⟨b3, o3, none⟩) dz tC _ hqz (by decide)).mono ?_
 rw [exC_w2]
 rintro e w7 ⟨v7, rfl, ho7, -, hb7⟩
 obtain ⟨a7, c7, rfl, hr7, -, -, -⟩ := ho7.read
 have hrz := hrz.below hb7
 have hB7 := bl_trans hB6 hb7
 go_wp2_with fail
 refine (same_walk a7 az c7 cz exC exC _ hr7 hrz (by decide) (by decide)).mono ?_
 rw [decide_eq_true rfl]
 rintro e w8 ⟨rfl, d, rfl⟩
 have hB8 := below_drewN hB7 d
 go_wp2_with fail
 go_ret
 exact ⟨rfl, hB8⟩
end Go.Proofs.YtagcbnpahgfgmaaGreat
namespace Go.Proofs.YtagcbnpahgfgmaaGreat
open Go Go.RowKit
def twoR (ls : List Lk) : Bool := !(ls.any fun k => k.2.2 != 0) && (decide (ls.length ≤ 40) && (twoL ls && decide (3 ≤ (vertsL ls).length)))
set_option maxHeartbeats 1000000 in
theorem two15_walk (a : Option Addr) (cap : Nat) (ls : List Lk) (w : World) (hr : RdL w a ls) (hcap : ls.length ≤ 9223372036854775807) :
  Calls Tryz.prog 8 #[.slice a ls.length cap] w (RetT w (twoR ls)) := by
 obtain ⟨t, ht⟩ : ∃ t, t = twoR ls := ⟨_, rfl⟩
 rw [← ht]
 have Ht := Lib.hid ht; clear ht
 go_enter Tryz.func8, Tryz.ntmps8
 go_wp2_with fail
 go_loopg [6] ls.length (fun r iv wj => ∃ i : Nat, i + r = ls.length ∧ iv = .int .i64 i ∧ (∀ j (h : j < ls.length), j < i → ls[j].2.2 = 0) ∧ w = wj)
 case atStart => exact ⟨0, by omega, rfl, fun j _ hj => absurd hj (by omega), rfl⟩
 case round =>
  obtain ⟨i, hi, rfl, hall, rfl⟩ := hrel
  have Hi := Lib.hid hi; have Hall := Lib.hid hall
  clear hall
  by_cases hil : i < ls.length
  ·
   clear hi; obtain ⟨b, o, rfl, c0, c1, c2⟩ := hr.at i hil; obtain ⟨⟨x, y, v⟩, hk⟩ : ∃ k : Lk, ls[i] = k := ⟨_, rfl⟩
   rw [hk] at c0 c1 c2; simp only at c0 c1 c2; have Hk := Lib.hid hk; have iI : (i : Int) < (ls.length : Int) := by omega
   clear hk; by_cases hv : v = 0
   ·
    subst hv; go_wp2_with fail; go_roundg (gk - 1)
    case measure => have := Hi.out; omega
    case rel => exact ⟨i + 1, by have := Hi.out; omega, by go_num, fun j hj hji => (by
     by_cases e : j = i
     · subst e; rw [Hk.out]
     · exact Hall.out j hj (by omega)), rfl⟩
   ·
    have e1 : (v == (0 : Int)) = false := by simpa using hv
    have hfin : t = false := by
     rw [Ht.out]; unfold twoR; have h1 : (ls.any fun k => k.2.2 != 0) = true := by
      rw [List.any_eq_true]; exact ⟨_, List.getElem_mem hil, by rw [Hk.out]; simpa using hv⟩
     rw [h1]; rfl
    subst hfin; clear hv; go_wp2_with fail; go_ret; exact ⟨rfl, bl_refl _⟩
  ·
   have hin : i = ls.length := by omega
   subst hin; have hany : (ls.any fun k => k.2.2 != 0) = false := by
    rw [List.any_eq_false]; intro k hk; obtain ⟨j, hj, rfl⟩ := List.getElem_of_mem hk; simpa using Hall.out j hj hj
   have hfin : t = (decide (ls.length ≤ 40) && (twoL ls && decide (3 ≤ (vertsL ls).length))) := by
    rw [Ht.out]; unfold twoR; rw [hany]; rfl
   clear hi hany Ht; by_cases h40 : ls.length ≤ 40
   ·
    have e1 : decide ((ls.length : Int) ≤ 40) = true := by simp; omega
    rw [decide_eq_true h40, Bool.true_and] at hfin; have Hfin := Lib.hid hfin; clear hfin; go_wp2_with fail; refine (two_walk a cap ls _ hr hcap).mono ?_; obtain ⟨u, hu⟩ : ∃ u, u = twoL ls := ⟨_, rfl⟩
    rw [← hu] at Hfin ⊢; rintro e w1 ⟨rfl, hb1⟩; clear hu; cases u with
    | false =>
     go_wp2_with fail; go_ret; exact ⟨by rw [Hfin.out] <;> rfl, hb1⟩
    | true =>
     go_wp2_with fail; refine (verts_walk a cap ls _ (hr.below hb1) (by omega)).mono ?_; rintro e w2 ⟨av, cv, rfl, -, -, -, -, hb2⟩; have hB := bl_trans hb1 hb2; clear hb1 hb2; have e2 : decide ((3 : Int) ≤ ((vertsL ls).length : Int)) = t := by
      rw [Hfin.out, Bool.true_and, decide_eq_decide]; omega
     go_wp2_with fail; go_ret; exact ⟨rfl, hB⟩
   ·
    have e1 : decide ((ls.length : Int) ≤ 40) = false := by simp; omega
    rw [decide_eq_false h40, Bool.false_and] at hfin; subst hfin; clear h40; go_wp2_with fail; go_ret; exact ⟨rfl, bl_refl _⟩
end Go.Proofs.YtagcbnpahgfgmaaGreat
namespace Go.Proofs.YtagcbnpahgfgmaaGreat
open Go Go.RowKit Go.ChangeShapes Go.WideShapes Go.ChangeAt Go.Joins Go.Deep
theorem rowOwn : ownKnob Tryz.prog.godebug = none := by kernel_rfl
theorem rowLaid : laidOutB Tryz.prog = true := by kernel_rfl
theorem rowInt : Tryz.prog.cellsOf 3 = 1 := by kernel_rfl
theorem rowLink : Tryz.prog.cellsOf 38 = 3 := by kernel_rfl
theorem no_far {w : World} {b o : Nat} {s : Option Nat} {x : Value} (h : w.cell? ⟨b, o, s⟩ = some x) : s = none := by
 cases s with
 | none => rfl
 | some k =>
  exfalso
  simp only [World.cell?] at h
  split at h <;> simp at h
section
variable {H : Type} {enc : TypeId × Value → H} {W : World} {base fuel : Nat} {spare : Nat → Bool} {held : Bool}
set_option maxRecDepth 100000 in
theorem link_of {cs : List Value} {x : DataW H × List MemPlace} (h : DataW.trod enc Tryz.prog W base spare held fuel 38 cs = some x) :
  ∃ k : Lk, cs = [.int .i64 k.1, .int .i64 k.2.1, .int .i64 k.2.2] ∧ WfZ k.1 ∧ WfZ k.2.1 ∧ WfZ k.2.2 := by
 obtain ⟨xs, n, rfl, rfl, hl, hx, hi⟩ := DataW.trod_struct Tryz.underlying38 h
 rw [rowLink] at hl
 match cs, hl with
 | [u, v, t], _ =>
  have h0 : DataW.trod enc Tryz.prog W base spare held n 3 [u] = xs[0]? := by have := hi 0 _ rfl; simpa [rowInt] using this
  have h1 : DataW.trod enc Tryz.prog W base spare held n 3 [v] = xs[1]? := by have := hi 1 _ rfl; simpa [rowInt] using this
  have h2 : DataW.trod enc Tryz.prog W base spare held n 3 [t] = xs[2]? := by have := hi 2 _ rfl; simpa [rowInt] using this
  simp at hx
  rw [List.getElem?_eq_getElem (by omega)] at h0 h1 h2
  obtain ⟨a, e0, _, w0⟩ := DataW.trod_int Tryz.underlying3 h0
  obtain ⟨b, e1, _, w1⟩ := DataW.trod_int Tryz.underlying3 h1
  obtain ⟨c, e2, _, w2⟩ := DataW.trod_int Tryz.underlying3 h2
  simp at e0 e1 e2
  exact ⟨(a, b, c), by rw [e0, e1, e2], w0, w1, w2⟩
set_option maxRecDepth 100000 in
theorem open_links {r : Reach} {b0 : Nat} {v : Value} {d : DataW H} {p : List MemPlace} (hv : Value.okWide Tryz.prog W r b0 22 v) (h : DataW.Trod enc Tryz.prog W base spare held 22 v d p) :
  ∃ (a : Option Addr) (cap : Nat) (ls : List Lk), v = .slice a ls.length cap ∧ RdL W a ls ∧ ls.length ≤ cap ∧ cap ≤ maxLen ∧ ∀ k ∈ ls, WfZ k.1 ∧ WfZ k.2.1 ∧ WfZ k.2.2 := by
 obtain ⟨fuel, hf⟩ := h
 obtain ⟨a1, l1, c1, rfl⟩ := okWide_slice Tryz.underlying22 hv
 rcases open_slice Tryz.underlying22 hf with ⟨e, _⟩ | ⟨a, len, cap, m, n, D, Pl, e, _, hl, hm, hmm, _, hx⟩
 ·
  simp [Value.cells] at e
  obtain ⟨rfl, rfl, rfl⟩ := e
  exact ⟨none, 0, [], rfl, rdL_nil _ _, by simp, by unfold maxLen; omega, fun k hk => by simp at hk⟩
 ·
  simp [Value.cells] at e
  obtain ⟨rfl, rfl, rfl⟩ := e
  have hle : l1 ≤ m := by rw [hmm]; split <;> omega
  have hp : ∀ i, i < l1 → ∃ k : Lk, (W.cell? (a.add (i * 3)) = some (.int .i64 k.1) ∧ W.cell? ((a.add (i * 3)).add 1) = some (.int .i64 k.2.1) ∧ W.cell? ((a.add (i * 3)).add 2) = some (.int .i64 k.2.2)) ∧ WfZ k.1 ∧ WfZ k.2.1 ∧ WfZ k.2.2 := by
   intro i hi; obtain ⟨cs', h1, h2⟩ := hx i (by omega); rw [rowLink] at h1; obtain ⟨k, rfl, hw⟩ := link_of h2; obtain ⟨_, _, h5⟩ := World.cells?_some h1; exact ⟨k, ⟨by simpa [Addr.add] using h5 0 (by omega), by simpa using h5 1 (by omega), by simpa using h5 2 (by omega)⟩, hw⟩
  obtain ⟨f, hf2⟩ := choose_lt (p := fun i (k : Lk) => (W.cell? (a.add (i * 3)) = some (.int .i64 k.1) ∧ W.cell? ((a.add (i * 3)).add 1) = some (.int .i64 k.2.1) ∧ W.cell? ((a.add (i * 3)).add 2) = some (.int .i64 k.2.2)) ∧ WfZ k.1 ∧ WfZ k.2.1 ∧ WfZ k.2.2) hp
  refine ⟨some a, c1, (List.range l1).map f, by simp, ?_, by simpa using hl, hm, ?_⟩
  ·
   intro i u hu; have hi := (List.getElem?_eq_some_iff.1 hu).1; rw [lkCells_length] at hi; simp only [List.length_map, List.length_range] at hi; have hk : i / 3 < l1 := by omega
   obtain ⟨b, o, sp⟩ := a; obtain ⟨⟨h1, h2, h3⟩, _⟩ := hf2 (i / 3) hk; have hsp : sp = none := by
    obtain ⟨⟨h1, _⟩, _⟩ := hf2 0 (by omega); have h2 : W.cell? ⟨b, o, sp⟩ = some (.int .i64 (f 0).1) := by simpa [Addr.add] using h1
    exact no_far h2
   subst hsp; refine ⟨b, o, rfl, ?_⟩; obtain ⟨g1, g2, g3⟩ := lkCells_get ((List.range l1).map f) (i / 3) (by simpa using hk); simp only [List.getElem_map, List.getElem_range] at g1 g2 g3; rw [Addr.add_lit] at h1 h2 h3; rw [Addr.add_lit] at h2 h3; have hmod : i % 3 = 0 ∨ i % 3 = 1 ∨ i % 3 = 2 := by omega
   rcases hmod with h | h | h
   ·
    rw [show i / 3 * 3 = i by omega] at g1 h1; rw [g1] at hu; cases hu; exact h1
   ·
    rw [show i / 3 * 3 + 1 = i by omega] at g2; rw [g2] at hu; cases hu; rw [show o + i = o + i / 3 * 3 + 1 by omega]; exact h2
   ·
    rw [show i / 3 * 3 + 2 = i by omega] at g3; rw [g3] at hu; cases hu; rw [show o + i = o + i / 3 * 3 + 2 by omega]; exact h3
  ·
   intro k hk; obtain ⟨i, hi, rfl⟩ := List.mem_map.1 hk; exact (hf2 i (List.mem_range.1 hi)).2
end
end Go.Proofs.YtagcbnpahgfgmaaGreat
namespace Go.Proofs.YtagcbnpahgfgmaaGreat
open Go Go.RowKit Go.ChangeShapes Go.WideShapes Go.ChangeAt Go.Joins Go.Deep
theorem twoR_facts {ls : List Lk} (h : twoR ls = true) : twoL ls = true ∧ (∀ k ∈ ls, k.2.2 = 0) ∧ 3 ≤ ls.length ∧ wantT ls = true ∧ ls.length ≤ 40 := by
 unfold twoR at h
 simp only [Bool.and_eq_true, Bool.not_eq_true', decide_eq_true_eq] at h
 obtain ⟨h1, h2, h3, h4⟩ := h
 refine ⟨h3, fun k hk => ?_, three_links h3 h4, ?_, h2⟩
 ·
  have := List.any_eq_false.1 h1 k hk
  simpa using this
 ·
  unfold wantT
  rw [h3, h1, decide_eq_true h4]; rfl
theorem TreeTo.few {ls : List Lk} {T : List Pt} (h : TreeTo kindL ls T) (hR : RightL ls) (hv : ∀ k ∈ ls, k.2.2 = 0) (h3 : 3 ≤ ls.length) : T.length ≤ 1000 := by
 have h1 := (h.qi hR hv h3).len
 have := hR.1
 omega
end Go.Proofs.YtagcbnpahgfgmaaGreat
namespace Go.Proofs.YtagcbnpahgfgmaaGreat
open Go Go.RowKit Go.ChangeShapes Go.WideShapes Go.ChangeAt Go.Joins Go.Deep
def u8V (z : Nat) : Value := .int .u8 z
theorem rowByte : Tryz.prog.cellsOf 5 = 1 := by kernel_rfl
section
variable {H : Type} {enc : TypeId × Value → H} {W : World} {base fuel : Nat} {spare : Nat → Bool} {held : Bool}
set_option maxRecDepth 100000 in
theorem open_bytes {r : Reach} {b0 : Nat} {v : Value} {d : DataW H} {p : List MemPlace} (hv : Value.okWide Tryz.prog W r b0 23 v) (h : DataW.Trod enc Tryz.prog W base spare held 23 v d p) :
  ∃ (a : Option Addr) (cap : Nat) (zs : List Nat), v = .slice a zs.length cap ∧ CellsAt W a (zs.map u8V) ∧ zs.length ≤ cap ∧ cap ≤ maxLen ∧ ∀ z ∈ zs, z ≤ 255 := by
 obtain ⟨fuel, hf⟩ := h
 obtain ⟨a1, l1, c1, rfl⟩ := okWide_slice Tryz.underlying23 hv
 rcases open_slice Tryz.underlying23 hf with ⟨e, _⟩ | ⟨a, len, cap, m, n, D, Pl, e, _, hl, hm, hmm, _, hx⟩
 ·
  simp [Value.cells] at e
  obtain ⟨rfl, rfl, rfl⟩ := e
  exact ⟨none, 0, [], rfl, by intro i u hu; simp at hu, by simp, by unfold maxLen; omega, fun k hk => by simp at hk⟩
 ·
  simp [Value.cells] at e
  obtain ⟨rfl, rfl, rfl⟩ := e
  have hle : l1 ≤ m := by rw [hmm]; split <;> omega
  have hp : ∀ i, i < l1 → ∃ z : Nat, W.cell? (a.add i) = some (u8V z) ∧ z ≤ 255 := by
   intro i hi; obtain ⟨cs', h1, h2⟩ := hx i (by omega); rw [rowByte, Nat.mul_one] at h1; obtain ⟨z, e1, _, hw⟩ := DataW.trod_int Tryz.underlying5 h2; have hb : 0 ≤ z ∧ z ≤ 255 := Go.bounds_u8 hw; obtain ⟨_, h4, h5⟩ := World.cells?_some h1; have h6 := h5 0 (by omega); rw [e1] at h6; refine ⟨z.toNat, ?_, by omega⟩; unfold u8V; rw [Int.toNat_of_nonneg hb.1]; simpa [Addr.add] using h6
  obtain ⟨f, hf2⟩ := choose_lt (p := fun i (z : Nat) => W.cell? (a.add i) = some (u8V z) ∧ z ≤ 255) hp
  refine ⟨some a, c1, (List.range l1).map f, by simp, ?_, by simpa using hl, hm, ?_⟩
  ·
   intro i u hu; have hi := (List.getElem?_eq_some_iff.1 hu).1; simp only [List.length_map, List.length_range] at hi; obtain ⟨b, o, sp⟩ := a; obtain ⟨h1, _⟩ := hf2 i hi; have hsp : sp = none := by
    obtain ⟨h1, _⟩ := hf2 0 (by omega); have h2 : W.cell? ⟨b, o, sp⟩ = some (u8V (f 0)) := by simpa [Addr.add] using h1
    exact no_far h2
   subst hsp; refine ⟨b, o, rfl, ?_⟩; simp [hi] at hu; rw [Addr.add_lit] at h1; rw [← hu]; exact h1
  ·
   intro k hk; obtain ⟨i, hi, rfl⟩ := List.mem_map.1 hk; exact (hf2 i (List.mem_range.1 hi)).2
end
end Go.Proofs.YtagcbnpahgfgmaaGreat
namespace Go.Proofs.YtagcbnpahgfgmaaGreat
open Go Go.RowKit Go.ChangeShapes Go.WideShapes Go.ChangeAt Go.Joins Go.Deep Go.Maps
theorem whole_same {ls : List Lk} {T : List Pt} (hR : RightL ls) (hT : QI ls T) (hq : RightQ T) : wholeL T = ls := by
 unfold wholeL
 rw [if_pos (rightB_iff.2 hq)]
 have e : realQ T = relL (T.map fun q => q.2) := by
  unfold realQ relL realL
  rw [List.flatMap_map]
 rw [e, sortL_congr (hT.rels.map swapL), sortL_right hR]
theorem not_two {ls : List Lk} (h : twoR ls = false) (hl : ls.length ≤ 40) : wantT ls = false := by
 unfold twoR at h
 unfold wantT
 rw [decide_eq_true hl] at h
 cases h1 : twoL ls <;> cases h2 : (ls.any fun k => k.2.2 != 0) <;> cases h3 : decide (3 ≤ (vertsL ls).length) <;> simp_all
theorem twoR_verts {ls : List Lk} (h : twoR ls = true) : 3 ≤ (vertsL ls).length := by
 unfold twoR at h
 simp only [Bool.and_eq_true, decide_eq_true_eq] at h
 exact h.2.2.2
theorem cellsAt_grown {w w' : World} {a : Option Addr} {l : List Value} {r : Option Nat} (h : CellsAt w a l) (hg : w.grownBy w' r) (hne : ∀ x, a = some x → r ≠ some x.block) : CellsAt w' a l := by
 intro i u hu
 obtain ⟨b, o, rfl, hc⟩ := h i u hu
 exact ⟨b, o, rfl, grown_cell hg hc (hne _ rfl)⟩
theorem PtsO.rdq {w : World} {vo : Value} {ps : List PtR} (h : PtsO w vo ps) : ∃ ao co, vo = .slice ao (ptQ ps).length co ∧ RdQ w ao (ptQ ps) := by
 obtain ⟨ao, co, rfl, hc, _, _, _, hz⟩ := h.form
 refine ⟨ao, co, by rw [ptQ_len], fun i q hq => ?_⟩
 have hi : i < ps.length := by have := (List.getElem?_eq_some_iff.1 hq).1; rwa [ptQ_len] at this
 rw [ptQ_get hi] at hq
 cases hq
 obtain ⟨h1, h2⟩ := ptC_get ps i hi
 obtain ⟨r1, r2, r3, _⟩ := h.2 _ (List.getElem_mem hi)
 obtain ⟨b, o, e1, c1⟩ := hc _ _ h1
 obtain ⟨b', o', e2, c2⟩ := hc _ _ h2
 rw [e1] at e2
 cases e2
 exact ⟨b, o, _, _, e1, c1, c2, r1, r2, r3⟩
structure NmI (wj : World) (B cb : Nat) (vs zs fs : List Int) (F : Int → Option Int) (c : Nat) (af : Option Addr) (cf : Nat) : Prop where
 perm : (zs ++ fs).Perm vs
 rd : RdI wj af fs
 len : fs.length ≤ cf
 cap : cf ≤ maxLen
 nil : af = none → cf = 0
 blk : ∀ ad, af = some ad → cb < ad.block
 map : MZ wj B c F
 few : c ≤ zs.length
 asg : AsgF vs zs F
 cell : wj.cell? ⟨cb, 0, none⟩ = some (.map (some B))
set_option maxRecDepth 100000 in
set_option maxHeartbeats 8000000 in
theorem spqrOnce_walk (a : Option Addr) (cap : Nat) (ls : List Lk) (an : Option Addr) (capn : Nat) (ns : List Nat) (w : World) (hr : RdL w a ls) (hl : ls.length ≤ cap) (hm : cap ≤ maxLen) (_hw : ∀ k ∈ ls, WfZ k.1 ∧ WfZ k.2.1 ∧ WfZ k.2.2)
  (hn : CellsAt w an (ns.map u8V)) (hnl : ns.length ≤ capn) (hnm : capn ≤ maxLen) (hn8 : ∀ z ∈ ns, z ≤ 255) :
  Calls Tryz.prog 3 #[.slice a ls.length cap, .slice an ns.length capn] w (RetT w true) := by
 have hcap : ls.length ≤ 9223372036854775807 := by unfold maxLen at hm; omega
 have hcapn : ns.length ≤ 9223372036854775807 := by unfold maxLen at hnm; omega
 clear hl hm _hw hnl hnm
 cases ht : twoR ls with
 | false =>
  have hnt := not_two ht
  have Ht := Lib.hid ht; have Hnt := Lib.hid hnt
  clear ht hnt hn hn8
  go_enter Tryz.func3, Tryz.ntmps3
  go_wp2_with fail
  refine (stree_walk a cap ls _ hr hcap).mono ?_
  rintro e w1 ⟨hb1, ⟨hy, s, c, T, rfl, hq, htr, -, -⟩ | ⟨hno, rfl⟩⟩
  ·
   have h40 : 40 < ls.length := Nat.lt_of_not_le fun h => by rw [Hnt.out h] at hy; cases hy
   have q1 : decide ((40 : Int) < (ls.length : Int)) = true := by simp; omega
   have hr1 := hr.below hb1; clear hy hq htr hr; go_wp2_with fail; refine (two15_walk a cap ls _ hr1 hcap).mono ?_; rw [Ht.out]; rintro e w2 ⟨rfl, hb2⟩; have hB2 := bl_trans hb1 hb2; clear hb1 hb2 hr1; go_wp2_with fail; refine (awake15_walk _).mono ?_; rintro e w3 ⟨rfl, hb3⟩; go_wp2_with fail; go_ret; exact ⟨rfl, bl_trans hB2 hb3⟩
  ·
   have hr1 := hr.below hb1; clear hno hr; go_wp2_with fail; refine (two15_walk a cap ls _ hr1 hcap).mono ?_; rw [Ht.out]; rintro e w2 ⟨rfl, hb2⟩; have hB2 := bl_trans hb1 hb2; clear hb1 hb2 hr1; by_cases h40 : 40 < ls.length
   ·
    have q1 : decide ((40 : Int) < (ls.length : Int)) = true := by simp; omega
    go_wp2_with fail; refine (awake15_walk _).mono ?_; rintro e w3 ⟨rfl, hb3⟩; go_wp2_with fail; go_ret; exact ⟨rfl, bl_trans hB2 hb3⟩
   ·
    have q1 : decide ((40 : Int) < (ls.length : Int)) = false := by simp; omega
    go_wp2_with fail; refine (awake15_walk _).mono ?_; rintro e w3 ⟨rfl, hb3⟩; go_wp2_with fail; go_ret; exact ⟨rfl, bl_trans hB2 hb3⟩
 | true =>
  obtain ⟨h2, hv0, h3, hwt, h40⟩ := twoR_facts ht
  have hRl := two_right h2
  have hvb : ∀ v ∈ vertsL ls, 0 ≤ v ∧ v < 1048576 := fun v hv => by
   obtain ⟨e, he, hev⟩ := (mem_vertsL ls v).1 hv; have ok := hRl.2.1 e he; unfold OkL at ok; omega
  have hv3 := twoR_verts ht
  have hvl : (vertsL ls).length ≤ 80 := by have := vertsL_length ls; omega
  have hnd := verts_nodup ls
  have Ht := Lib.hid ht; have Hwt := Lib.hid hwt; have HRl := Lib.hid hRl; have Hv0 := Lib.hid hv0; have H2 := Lib.hid h2; have Hnd := Lib.hid hnd
  obtain ⟨vs, hvs⟩ : ∃ vs, vs = vertsL ls := ⟨_, rfl⟩
  rw [← hvs] at hvb hvl hv3
  have Hvs := Lib.hid hvs; have Hvb := Lib.hid hvb; have Hn8 := Lib.hid hn8
  clear ht hwt hRl hv0 h2 hnd hvs hvb hn8
  go_enter Tryz.func3, Tryz.ntmps3
  go_wp2_with fail
  refine (stree_walk a cap ls _ hr hcap).mono ?_
  rintro e w1 ⟨hb1, ⟨-, s, c, T, rfl, hq, htr, -, -⟩ | ⟨hno, -⟩⟩
  rotate_left
  · rw [Hwt.out] at hno; cases hno
  have hTl := htr.few HRl.out Hv0.out h3
  have hRQ := htr.rightQ H2.out Hv0.out h3
  have hws := whole_same HRl.out (htr.qi HRl.out Hv0.out h3) hRQ
  have hrb := rightB_iff.2 hRQ
  have Hhtr := Lib.hid htr; have Hws := Lib.hid hws; have Hrb := Lib.hid hrb
  have hr1 := hr.below hb1
  have hn1 := hn.below hb1
  clear hRQ htr hws hrb hr hn
  go_wp2_with fail
  refine (two15_walk a cap ls _ hr1 hcap).mono ?_
  rw [Ht.out]
  rintro e w2 ⟨rfl, hb2⟩
  have hr2 := hr1.below hb2
  have hn2 := hn1.below hb2
  have hq2 := hq.below hb2
  have hB2 := bl_trans hb1 hb2
  clear hb1 hb2 hr1 hn1 hq
  go_wp2_with fail
  refine (sright_walk s c T _ hq2 hTl).mono ?_
  rw [Hrb.out]
  rintro e w3 ⟨rfl, hb3⟩
  have hr3 := hr2.below hb3
  have hn3 := hn2.below hb3
  have hq3 := hq2.below hb3
  have hB3 := bl_trans hB2 hb3
  clear hB2 hb3 hr2 hn2 hq2
  go_wp2_with fail
  refine (whole_walk s c T _ hq3 hTl).mono ?_
  rw [Hws.out]
  rintro e w4 ⟨v4, rfl, ho4, -, hb4⟩
  obtain ⟨a4, c4, rfl, hr4, -, -, -⟩ := OwnL.read ho4
  have hrl4 := hr3.below hb4
  have hn4 := hn3.below hb4
  have hq4 := hq3.below hb4
  have hB4 := bl_trans hB3 hb4
  clear hB3 hb4 hr3 hn3 hq3 ho4
  go_wp2_with fail
  refine (same_walk a4 a c4 cap ls ls _ hr4 hrl4 hcap hcap).mono ?_
  rintro e w5 ⟨rfl, d5, rfl⟩
  rw [decide_eq_true (rfl : ls = ls)]
  have hb5 : Below w4.heap.size w4 (w4.drewN d5) := below_drewN (bl_refl _) d5
  have hr5 := hrl4.below hb5
  have hn5 := hn4.below hb5
  have hq5 := hq4.below hb5
  have hB5 := bl_trans hB4 hb5
  clear hB4 hb5 hr4 hrl4 hn4 hq4
  go_wp2_with fail
  refine (verts_walk a cap ls _ hr5 (by omega)).mono ?_
  rw [← Hvs.out]
  rintro e w6 ⟨av, cv, rfl, hrv, -, hcv, hcm, hb6⟩
  have hr6 := hr5.below hb6
  have hn6 := hn5.below hb6
  have hq6 := hq5.below hb6
  have hB6 := bl_trans hB5 hb6
  clear hB5 hb6 hr5 hn5 hq5
  have hm1 := fun w => run_makeMapN 35 _ _ Tryz.underlying35 w
  have hmz := MZ.made w6
  have hB7 : Below w6.heap.size w6 ((w6.alloc (.map #[] 0)).alloc (.cells #[.map (some w6.heap.size)] 35)) := bl_trans (bl_alloc _ _) (bl_alloc _ _)
  have hsz : ((w6.alloc (.map #[] 0)).alloc (.cells #[.map (some w6.heap.size)] 35)).heap.size = w6.heap.size + 2 := by simp
  have hcb : ((w6.alloc (.map #[] 0)).alloc (.cells #[.map (some w6.heap.size)] 35)).cell? ⟨w6.heap.size + 1, 0, none⟩ = some (.map (some w6.heap.size)) := by
   have : (w6.alloc (.map #[] 0)).heap.size = w6.heap.size + 1 := by simp
   rw [← this]; simp
  have hmz7 := (hmz.alloc (.cells #[.map (some w6.heap.size)] 35))
  have hrv7 := hrv.below hB7
  have Hsz := Lib.hid hsz; have Hmz7 := Lib.hid hmz7; have HB7 := Lib.hid hB7; have Hcb := Lib.hid hcb; have Hrv := Lib.hid hrv
  have hav : ∃ b o, av = some ⟨b, o, none⟩ := by
   obtain ⟨b, o, h, _⟩ := hrv.at 0 (by omega); exact ⟨b, o, h⟩
  obtain ⟨bv, ov, rfl⟩ := hav
  clear hmz hB7 hsz hcb hmz7 hrv
  go_upto_region 8 with (fail)
  generalize (w6.alloc (.map #[] 0)).alloc (.cells #[.map (some w6.heap.size)] 35) = wm at *
  have hrow0 : Own (wm.alloc (.cells #[] 3)) (.slice (some ⟨wm.heap.size, 0, none⟩) 0 0) 3 1 0 [] := by
   have := row_new wm #[] 3 1 0 rfl (by unfold maxLen; omega); exact Row.own this rfl (Nat.le_refl _)
  have hnews : ∀ j u, (vs.map (Value.int .i64))[j]? = some u → (wm.alloc (.cells #[] 3)).cell? ((⟨bv, ov, none⟩ : Addr).add j) = some u := fun j u hu => by
   obtain ⟨b', o', hb', hc'⟩ := (hrv7.below (bl_alloc wm (.cells #[] 3))) j u hu; cases hb'; rw [Addr.add_lit]; exact hc'
  have hone : ∀ u ∈ vs.map (Value.int .i64), u.oneCell' = true := fun u hu => by
   obtain ⟨z, _, rfl⟩ := List.mem_map.1 hu; rfl
  have Hnews := Lib.hid hnews; have Hone := Lib.hid hone; have Hrow0 := Lib.hid hrow0
  clear hnews hone hrow0
  go_wp2_with (at_builtin; go_loud (refine wpList_append_row _ rfl (.tmp 54) (.tmp 55) 33 rfl 3 (.int .i64 0) 1 8 Tryz.underlying33 int_info rfl (.slice (some ⟨wm.heap.size, 0, none⟩) 0 0) 0 [] (by simp [Act.eval]) Hrow0.out ⟨bv, ov, none⟩ vs.length cv (vs.map (Value.int .i64)) (by simp [Act.eval]) (by simp) Hnews.out Hone.out (by omega) (by unfold maxLen; omega) (by omega) ?_; intro g7 c7 w7 hr7 hc7 hg7 hor7))
  have hs7 := hg7.size
  simp at hs7
  simp only [List.nil_append, Nat.zero_add] at hr7 hc7
  have hBm7 : Below wm.heap.size wm w7 := (bl_alloc wm _).grown hg7 (by simp) (fun j hj => by simp [Value.ownBlock] at hj; omega)
  have hgm : wm.heap.size ≤ g7 := by
   rcases hor7 with h | h
   · simp [Value.ownBlock] at h; omega
   · simp at h; omega
  have hI0 : NmI w7 w6.heap.size (w6.heap.size + 1) vs [] vs (fun _ => none) 0 (some ⟨g7, 0, none⟩) c7 :=
   ⟨by simp, hr7.at_, hc7, hr7.cap_le, fun h => (by cases h), fun ad had => (by cases had; have := Hsz.out; show w6.heap.size + 1 < g7; omega), Hmz7.out.below hBm7, by simp, fun j x y _ hy => (by simp at hy), keep_cell hBm7 Hcb.out⟩
  have hB7w := bl_trans HB7.out hBm7
  have HI0 := Lib.hid hI0; have HB7w := Lib.hid hB7w
  clear hI0 hB7w hBm7 hr7 hc7 hg7 hor7 hm1
  go_loopg [9, 59] vs.length (fun r fv iv wj => ∃ (zs fs : List Int) (F : Int → Option Int) (c : Nat) (af : Option Addr) (cf : Nat), zs.length + r = vs.length ∧ iv = .int .i64 zs.length ∧ fv = .slice af fs.length cf ∧ NmI wj w6.heap.size (w6.heap.size + 1) vs zs fs F c af cf ∧ Below w6.heap.size w6 wj)
  case atStart => exact ⟨[], vs, _, 0, _, c7, by simp, rfl, rfl, HI0.out, HB7w.out⟩
  case round =>
   clear HI0 HB7w; obtain ⟨zs, fs, F, c, af, cf, hz, rfl, rfl, hI, hB⟩ := hrel; have Hz := Lib.hid hz; have HI := Lib.hid hI; have HB := Lib.hid hB; by_cases hil : zs.length < vs.length
   ·
    have hperm := hI.perm; have hplen := hperm.length_eq; simp only [List.length_append] at hplen; have hfl : 0 < fs.length := by omega
    have hvr := Hrv.out.below hB; obtain ⟨b1, o1, hb1, hx1⟩ := hvr.at zs.length hil; cases hb1; have hnr := hn6.below hB; obtain ⟨x, hx⟩ : ∃ x, vs[zs.length] = x := ⟨_, rfl⟩
    rw [hx] at hx1; have hmr := hI.map; have hcr := hI.cell; have hfr := hI.rd; obtain ⟨t, ht, htd⟩ : ∃ t : Nat, t < fs.length ∧ t = if h : zs.length < ns.length then ns[zs.length] % fs.length else 0 := by
     refine ⟨_, ?_, rfl⟩; split
     · exact Nat.mod_lt _ hfl
     · exact hfl
    have Ht := Lib.hid htd; clear htd; go_upto_if 67 with (fail)
    go_cut [12] (fun sv wx => sv = .int .i64 (t : Nat) ∧ wr = wx)
    case first =>
     by_cases hin : zs.length < ns.length
     ·
      obtain ⟨b2, o2, hb2, hx2⟩ := hnr zs.length (u8V ns[zs.length]) (by simp [hin]); subst hb2; have h8 := Hn8.out _ (List.getElem_mem hin); unfold u8V at hx2; have hte := Ht.out; rw [dif_pos hin] at hte; go_wp2_with fail; go_meet
      rw [hte]; exact ⟨by simp, rfl⟩
     ·
      have hte := Ht.out; rw [dif_neg hin] at hte; subst hte; go_wp2_with fail; go_meet
      exact ⟨rfl, rfl⟩
    case rest =>
    obtain ⟨rfl, rfl⟩ := hcut; obtain ⟨bf, of, rfl, hft⟩ := hfr.at t ht; have hxw : WfZ x := wfZ_of (by have := Hvb.out x (by rw [← hx]; exact List.getElem_mem hil); omega); have hfm : fs[t] ∈ vs := hperm.mem_iff.1 (List.mem_append_right _ (List.getElem_mem ht)); have hfw : WfZ fs[t] := wfZ_of (by have := Hvb.out _ hfm; omega); have i1 : (t : Int) < (fs.length : Int) := by omega
    go_upto_region 15 with (fail)
    refine regionT (fun w' => w'.cell? ⟨w6.heap.size + 1, 0, none⟩ = some (.map (some w6.heap.size)) ∧ w'.cell? ⟨bf, of + t, none⟩ = some (.int .i64 fs[t])) 6 (by kernel_rfl) ?_; have hS : wr.drew.cell? ⟨w6.heap.size + 1, 0, none⟩ = some (.map (some w6.heap.size)) ∧ wr.drew.cell? ⟨bf, of + t, none⟩ = some (.int .i64 fs[t]) := ⟨hcr, hft⟩
    refine tkT 0 ?_ rfl hS ?_ ?_ (by kernel_rfl) (fun _ _ _ h => h) (by rfl); rotate_left; (· intro wS hSw; (try dsimp only at hSw); go_simp; try with_reducible rfl); simp only [Act.put, zT]; refine tkT 1 ?_ rfl hS ?_ ?_ (by kernel_rfl) (fun _ _ _ h => h) (by rfl); rotate_left; (· intro wS hSw; (try dsimp only at hSw); go_simp; try with_reducible rfl); simp only [Act.put, zT]; refine tkT 2 ?_ rfl hS ?_ ?_ (by kernel_rfl) (fun _ _ _ h => h) (by rfl); rotate_left; (· intro wS hSw; (try dsimp only at hSw); go_simp; try with_reducible rfl); simp only [Act.put, zT]; refine tkT 3 ?_ rfl hS ?_ ?_ (by kernel_rfl) (fun _ _ _ h => h) (by rfl); rotate_left; (· intro wS hSw; (try dsimp only at hSw); go_simp; try with_reducible rfl); simp only [Act.put, zT]; refine tkT 4 ?_ rfl hS ?_ ?_ (by kernel_rfl) (fun _ _ _ h => h) (by rfl); rotate_left; (· intro wS hSw; (try dsimp only at hSw); go_simp; try with_reducible rfl); simp only [Act.put, zT]; refine tkT 5 ?_ rfl hS ?_ ?_ (by kernel_rfl) (fun _ _ _ h => h) (by rfl); rotate_left; (· intro wS hSw; (try dsimp only at hSw); go_simp; try with_reducible rfl); simp only [Act.put, zT]; refine oneT (i := 6) rfl (by kernel_rfl) (fun K hK => ?_); refine step_put_MZ rfl _ _ _ rfl (show MZ wr.drew w6.heap.size _ _ from hmr) (k := x) (v := fs[t]) (by simp [Act.eval]) (by simp [Act.eval]) (by simp [Act.eval]) hxw hfw (by have := hI.few; omega) ?_; intro w3 hm3 hg3; refine hK _ _ (fun h => absurd h (by omega)) ?_
    clear hK K hS; simp only [Act.put]; refine doneT (by kernel_rfl) ?_ _; have hgr : w6.heap.size + 1 < bf := HI.out.blk _ rfl; have hsz3 : wr.heap.size ≤ w3.heap.size := by have := hg3.size; simpa using this
    have hc3 : w3.cell? ⟨w6.heap.size + 1, 0, none⟩ = some (.map (some w6.heap.size)) := grown_cell hg3 hcr (by simp); have hf3 : RdI w3 (some ⟨bf, of, none⟩) fs := cellsAt_grown (show CellsAt wr.drew _ _ from HI.out.rd) hg3 fun y hy => by
     cases hy; simp; omega
    have hB3 : Below w6.heap.size w6 w3 := (show Below w6.heap.size w6 wr.drew from HB.out.drew).grown hg3 (by have := HB.out.size; simpa using this) (fun j hj => by cases hj; exact Nat.le_refl _); have hF3 := HI.out.asg.snoc (by rw [Hvs.out]; exact Hnd.out) (x := x) (y := fs[t]) (by rw [← hx]; exact List.getElem?_eq_getElem hil); have hp3 := perm_free HI.out.perm ht; have hfl3 : fs.length ≤ cf := HI.out.len; have hcm3 : cf ≤ maxLen := HI.out.cap; have hfw3 : (if (F x).isSome then c else c + 1) ≤ (zs ++ [fs[t]]).length := by have := HI.out.few; simp; split <;> omega
    have hcut := fun w => run_cutG (P := Tryz.prog) 33 1 (by kernel_rfl) (fun w => by kernel_rfl) (some ⟨bf, of, none⟩) fs.length cf t (by omega) w; have hfrom := fun w => run_fromG (P := Tryz.prog) 33 1 (by kernel_rfl) (fun w => by kernel_rfl) (some ⟨bf, of, none⟩) fs.length cf (t + 1) (by omega) w; have Hf3 := Lib.hid hf3; have HB3 := Lib.hid hB3; have HF3 := Lib.hid hF3; have Hp3 := Lib.hid hp3; have Hc3 := Lib.hid hc3; have Hm3 := Lib.hid hm3; clear hf3 hB3 hF3 hp3 hg3 hm3 hc3 hmr hcr hfr hI hxw hfw hft hfm hvr hx1 hnr hz; by_cases hlast : t + 1 = fs.length
    ·
     have her : fs.eraseIdx t = fs.take t := by rw [List.eraseIdx_eq_take_drop_succ, List.drop_of_length_le (by omega), List.append_nil]
     have hel : (fs.eraseIdx t).length = t := by rw [her, List.length_take]; omega
     rw [show fs.length - (t + 1) = 0 by omega] at hfrom; have i2 : IntKind.i64.wrap ((t : Int) + 1) = (t : Int) + 1 := by unfold maxLen at hcm3; simp [IntKind.wrap, IntKind.bits]; omega
     rw [show (((t + 1 : Nat)) : Int) = (t : Int) + 1 from rfl] at hfrom; go_upto_region 16 with (fail)
     refine regionT (fun _ => True) 10 (by kernel_rfl) ?_; have hS := trivial; refine tkT 0 ?_ rfl hS ?_ ?_ (by kernel_rfl) (fun _ _ _ h => h) (by rfl); rotate_left; (· intro wS hSw; (try dsimp only at hSw); go_simp; try with_reducible rfl); simp only [Act.put, zT]; refine tkT 1 ?_ rfl hS ?_ ?_ (by kernel_rfl) (fun _ _ _ h => h) (by rfl); rotate_left; (· intro wS hSw; (try dsimp only at hSw); go_simp; try with_reducible rfl); simp only [Act.put, zT]; refine tkT 2 ?_ rfl hS ?_ ?_ (by kernel_rfl) (fun _ _ _ h => h) (by rfl); rotate_left; (· intro wS hSw; (try dsimp only at hSw); go_simp; try with_reducible rfl); simp only [Act.put, zT]; refine tkT 3 ?_ rfl hS ?_ ?_ (by kernel_rfl) (fun _ _ _ h => h) (by rfl); rotate_left; (· intro wS hSw; (try dsimp only at hSw); go_simp; try with_reducible rfl); simp only [Act.put, zT]; refine tkT 4 ?_ rfl hS ?_ ?_ (by kernel_rfl) (fun _ _ _ h => h) (by rfl); rotate_left; (· intro wS hSw; (try dsimp only at hSw); go_simp; try with_reducible rfl); simp only [Act.put, zT]; refine tkT 5 ?_ rfl hS ?_ ?_ (by kernel_rfl) (fun _ _ _ h => h) (by rfl); rotate_left; (· intro wS hSw; (try dsimp only at hSw); go_simp; try with_reducible rfl); simp only [Act.put, zT]; refine tkT 6 ?_ rfl hS ?_ ?_ (by kernel_rfl) (fun _ _ _ h => h) (by rfl); rotate_left; (· intro wS hSw; (try dsimp only at hSw); go_simp; try with_reducible rfl); simp only [Act.put, zT]; refine tkT 7 ?_ rfl hS ?_ ?_ (by kernel_rfl) (fun _ _ _ h => h) (by rfl); rotate_left; (· intro wS hSw; (try dsimp only at hSw); go_simp; try with_reducible rfl); simp only [Act.put, zT]
     refine oneT (i := 8) rfl (by kernel_rfl) (fun K hK => ?_); refine step_append_idleG rfl (.tmp 85) (.tmp 89) 33 rfl 3 (.int .i64 0) 1 8 Tryz.underlying33 int_info (some ⟨bf, of, none⟩) (fromG (some ⟨bf, of, none⟩) cf (t + 1) 1) t t (cf - (t + 1)) (by simp [Act.eval]) (by simp [Act.eval, hlast]) (Nat.le_refl _) ?_; refine hK _ _ (fun _ => trivial) ?_; clear hK K; refine tkT 9 ?_ rfl hS ?_ ?_ (by kernel_rfl) (fun _ _ _ h => h) (by rfl); rotate_left; (· intro wS hSw; (try dsimp only at hSw); go_simp; try with_reducible rfl); simp only [Act.put, zT]; refine doneT (by kernel_rfl) ?_ _; clear hcut hfrom hS; go_wp2_with fail; go_roundg (gk - 1)
     case measure => have := Hz.out; omega
     case rel =>
      refine ⟨zs ++ [fs[t]], fs.eraseIdx t, _, _, some ⟨bf, of, none⟩, t, by have := Hz.out; simp; omega, by simp, by rw [hel], ⟨Hp3.out, ?_, by omega, by omega, fun h => (by cases h), fun y hy => (by cases hy; exact hgr), Hm3.out, hfw3, HF3.out, Hc3.out⟩, HB3.out.drew⟩; rw [her]; intro j u hj; rw [List.map_take] at hj; rw [List.getElem?_take] at hj; split at hj
      · exact Hf3.out j u hj
      · cases hj
    ·
     have hm0 : 0 < fs.length - (t + 1) := by omega
     have hfa : fromG (some (⟨bf, of, none⟩ : Addr)) cf (t + 1) 1 = some ⟨bf, of + (t + 1), none⟩ := by
      unfold fromG; rw [if_neg (by omega)]; simp [Addr.add]
     rw [hfa] at hfrom; have hel : (fs.eraseIdx t).length = t + (fs.length - (t + 1)) := by rw [List.length_eraseIdx_of_lt ht]; omega
     have hfl80 : fs.length ≤ 80 := by have := Hp3.out.length_eq; rw [List.length_append, List.length_append, hel] at this; simp at this; omega
     have hol : ∀ b, some (⟨bf, of, none⟩ : Addr) = some b → ∀ j u, ((fs.take t).map (Value.int .i64))[j]? = some u → w3.drew.cell? (b.add j) = some u := fun b hb j u hj => by
      cases hb; rw [List.map_take, List.getElem?_take] at hj; split at hj
      ·
       obtain ⟨b', o', hb', hc'⟩ := Hf3.out j u hj; cases hb'; rw [Addr.add_lit]; exact hc'
      · cases hj
     have hnw : ∀ j u, ((fs.drop (t + 1)).map (Value.int .i64))[j]? = some u → w3.drew.cell? ((⟨bf, of + (t + 1), none⟩ : Addr).add j) = some u := fun j u hj => by
      rw [List.map_drop, List.getElem?_drop] at hj; obtain ⟨b', o', hb', hc'⟩ := Hf3.out _ u hj; cases hb'; rw [Addr.add_lit, Nat.add_assoc]; exact hc'
     have i2 : IntKind.i64.wrap ((t : Int) + 1) = (t : Int) + 1 := by unfold maxLen at hcm3; simp [IntKind.wrap, IntKind.bits]; omega
     rw [show (((t + 1 : Nat)) : Int) = (t : Int) + 1 from rfl] at hfrom; go_upto_region 16 with (fail)
     refine regionT (fun _ => True) 10 (by kernel_rfl) ?_; have hS := trivial; refine tkT 0 ?_ rfl hS ?_ ?_ (by kernel_rfl) (fun _ _ _ h => h) (by rfl); rotate_left; (· intro wS hSw; (try dsimp only at hSw); go_simp; try with_reducible rfl); simp only [Act.put, zT]; refine tkT 1 ?_ rfl hS ?_ ?_ (by kernel_rfl) (fun _ _ _ h => h) (by rfl); rotate_left; (· intro wS hSw; (try dsimp only at hSw); go_simp; try with_reducible rfl); simp only [Act.put, zT]; refine tkT 2 ?_ rfl hS ?_ ?_ (by kernel_rfl) (fun _ _ _ h => h) (by rfl); rotate_left; (· intro wS hSw; (try dsimp only at hSw); go_simp; try with_reducible rfl); simp only [Act.put, zT]; refine tkT 3 ?_ rfl hS ?_ ?_ (by kernel_rfl) (fun _ _ _ h => h) (by rfl); rotate_left; (· intro wS hSw; (try dsimp only at hSw); go_simp; try with_reducible rfl); simp only [Act.put, zT]; refine tkT 4 ?_ rfl hS ?_ ?_ (by kernel_rfl) (fun _ _ _ h => h) (by rfl); rotate_left; (· intro wS hSw; (try dsimp only at hSw); go_simp; try with_reducible rfl); simp only [Act.put, zT]; refine tkT 5 ?_ rfl hS ?_ ?_ (by kernel_rfl) (fun _ _ _ h => h) (by rfl); rotate_left; (· intro wS hSw; (try dsimp only at hSw); go_simp; try with_reducible rfl); simp only [Act.put, zT]; refine tkT 6 ?_ rfl hS ?_ ?_ (by kernel_rfl) (fun _ _ _ h => h) (by rfl); rotate_left; (· intro wS hSw; (try dsimp only at hSw); go_simp; try with_reducible rfl); simp only [Act.put, zT]; refine tkT 7 ?_ rfl hS ?_ ?_ (by kernel_rfl) (fun _ _ _ h => h) (by rfl); rotate_left; (· intro wS hSw; (try dsimp only at hSw); go_simp; try with_reducible rfl); simp only [Act.put, zT]
     refine oneT (i := 8) rfl (by kernel_rfl) (fun K hK => ?_); refine step_append_full rfl (.tmp 85) (.tmp 89) 33 rfl 3 (.int .i64 0) 1 8 Tryz.underlying33 int_info rfl (by omega) (some ⟨bf, of, none⟩) t t ((fs.take t).map (Value.int .i64)) (by simp [Act.eval]) (fun h => by cases h) (by simp; omega) hol ⟨bf, of + (t + 1), none⟩ (fs.length - (t + 1)) (cf - (t + 1)) ((fs.drop (t + 1)).map (Value.int .i64)) (by simp [Act.eval]) (by simp) hnw (by intro u hu; obtain ⟨y, _, rfl⟩ := List.mem_map.1 hu; rfl) (by omega) (by unfold maxLen; omega) (by omega) ?_; intro g8 c8 w8 hr8 hc8 hg8 hs8; refine hK _ _ (fun _ => trivial) ?_; clear hK K; refine tkT 9 ?_ rfl hS ?_ ?_ (by kernel_rfl) (fun _ _ _ h => h) (by rfl); rotate_left; (· intro wS hSw; (try dsimp only at hSw); go_simp; try with_reducible rfl); simp only [Act.put, zT]; refine doneT (by kernel_rfl) ?_ _; have hs8' : w3.heap.size ≤ w8.heap.size := by have := hg8.size; simpa using this
     have hgs8 : w3.heap.size ≤ g8 := by simpa using hs8
     have hB8 : Below w3.heap.size w3 w8 := (show Below w3.heap.size w3 w3.drew from (bl_refl w3).drew).grown hg8 (by simp) (fun j hj => by cases hj); rw [← List.map_append, ← List.eraseIdx_eq_take_drop_succ] at hr8; have hs6 := HB.out.size; have HB8 := Lib.hid hB8; have Hr8 := Lib.hid hr8; clear hcut hfrom hS hol hnw hg8 hs8 hB8 hr8; go_wp2_with fail; go_roundg (gk - 1)
     case measure => have := Hz.out; omega
     case rel =>
      refine ⟨zs ++ [fs[t]], fs.eraseIdx t, _, _, some ⟨g8, 0, none⟩, c8, by have := Hz.out; simp; omega, by simp, by rw [hel], ⟨Hp3.out, Hr8.out.at_, by omega, Hr8.out.cap_le, fun h => (by cases h), fun y hy => (by cases hy; show w6.heap.size + 1 < g8; have : w6.heap.size + 1 < w3.heap.size := cell_lt Hc3.out; omega), Hm3.out.below HB8.out, hfw3, HF3.out, keep_cell HB8.out Hc3.out⟩, bl_trans HB3.out HB8.out⟩
   ·
    have hzn : zs.length = vs.length := by omega
    have hfs0 : fs = [] := by
     have := hI.perm.length_eq; rw [List.length_append] at this; exact List.eq_nil_of_length_eq_zero (by omega)
    have hp : zs.Perm (vertsL ls) := by
     have := hI.perm; rw [hfs0, List.append_nil, Hvs.out] at this; exact this
    have hcl := call_of hp; obtain ⟨σ, hσ⟩ : ∃ σ, σ = mapT (vertsL ls) zs := ⟨_, rfl⟩
    have has : ∀ v, v ∈ vertsL ls → F v = some (σ v) := fun v hv => by rw [hσ]; exact (Hvs.out ▸ HI.out.asg).done hp hv
    rw [← hσ] at hcl; have hmr := hI.map; have hcr := hI.cell; have hlr := hr6.below hB; have hqr := hq6.below hB; have hBW := bl_trans hB6 hB; have Hcl := Lib.hid hcl; have Has := Lib.hid has; have HBW := Lib.hid hBW; have hlen40 : ls.length ≤ 40 := h40; clear hI hB hcl has hσ hp hBW hz hB6 hr6 hn6 hq6 hfs0 hzn; obtain ⟨wo, rfl⟩ : ∃ wo : World, wo = wr := ⟨_, rfl⟩
    go_wp2_with fail; go_loopg [14, 16, 95] ls.length (fun r mv xv iv wj => ∃ (k : Nat) (v : Value), k + r = ls.length ∧ iv = .int .i64 k ∧ mv = v ∧ OwnL wj v ((ls.take k).map fun e => (σ e.1, σ e.2.1, (0 : Int))) ∧ (∀ g, v.ownBlock = some g → wo.heap.size ≤ g) ∧ Below wo.heap.size wo wj)
    case atStart => exact ⟨0, _, by omega, rfl, rfl, own_nil _ _ _, fun g hg => by simp [Value.ownBlock] at hg, bl_refl wo⟩
    case round =>
     obtain ⟨k, mv, hk, rfl, rfl, hown, hog, hB⟩ := hrel; have Hk := Lib.hid hk; have HB := Lib.hid hB; have Hown := Lib.hid hown; have Hog := Lib.hid hog; by_cases hkl : k < ls.length
     ·
      obtain ⟨b1, o1, rfl, q0, q1, q2⟩ := (hlr.below hB).at k hkl; have hft : (ls.take (k + 1)).map (fun e => (σ e.1, σ e.2.1, (0 : Int))) = (ls.take k).map (fun e => (σ e.1, σ e.2.1, (0 : Int))) ++ [(σ ls[k].1, σ ls[k].2.1, (0 : Int))] := by rw [List.take_succ_eq_append_getElem hkl, List.map_append]; rfl
      have hmem : ls[k] ∈ ls := List.getElem_mem hkl; obtain ⟨⟨x, y, z⟩, hxe⟩ : ∃ u : Lk, ls[k] = u := ⟨_, rfl⟩
      rw [hxe] at q0 q1 q2 hft hmem; simp only at q0 q1 q2 hft; have hvx := (mem_vertsL ls x).2 ⟨_, hmem, .inl rfl⟩; have hvy := (mem_vertsL ls y).2 ⟨_, hmem, .inr rfl⟩; have hwx : WfZ x := wfZ_of (by have := Hvb.out x (by rw [Hvs.out]; exact hvx); omega); have hwy : WfZ y := wfZ_of (by have := Hvb.out y (by rw [Hvs.out]; exact hvy); omega); have hbx := bl_alloc wr (.cells #[.int .i64 x, .int .i64 y, .int .i64 z] 38); have hBx := bl_trans hB hbx; have hmx := hmr.below hBx; have l1 := hmx.look hwx; have l2 := hmx.look hwy; rw [Has.out x hvx] at l1; rw [Has.out y hvy] at l2; simp only [Option.getD_some] at l1 l2; have hcx := keep_cell hBx hcr; have e0 : (wr.alloc (.cells #[.int .i64 x, .int .i64 y, .int .i64 z] 38)).cell? ⟨wr.heap.size, 0, none⟩ = some (.int .i64 x) := by simp
      have e1 : (wr.alloc (.cells #[.int .i64 x, .int .i64 y, .int .i64 z] 38)).cell? ⟨wr.heap.size, 1, none⟩ = some (.int .i64 y) := by simp
      have iK : (k : Int) < (ls.length : Int) := by omega
      have hown2 : OwnL (wr.alloc (.cells #[.int .i64 x, .int .i64 y, .int .i64 z] 38)) _ ((ls.take k).map fun e => (σ e.1, σ e.2.1, (0 : Int))) := Own.alloc hown _; obtain ⟨ln, hln⟩ : ∃ ln, ln = (ls.take k).map (fun e => (σ e.1, σ e.2.1, (0 : Int))) := ⟨_, rfl⟩
      rw [← hln] at hown2 hft; have hll : ln.length = k := by rw [hln]; simp; omega
      have Hft := Lib.hid hft; have HBx := Lib.hid hBx; have Hll := Lib.hid hll; clear hk hB hown hog hft hln hxe hvx hvy hmx hbx hBx hmem; go_upto_region 23 with (fail)
      generalize hwx : wr.alloc (.cells #[.int .i64 x, .int .i64 y, .int .i64 z] 38) = wx at *
      go_wp2_with (at_builtin; refine wpList_append_row _ rfl (.tmp 99) (.tmp 109) 22 rfl 38 (.agg #[.int .i64 0, .int .i64 0, .int .i64 0]) 3 24 Tryz.underlying22 link_info rfl _ ln.length _ (by simp [Act.eval]) (Own.alloc hown2 _) ⟨wx.heap.size, 0, none⟩ 1 1 [.int .i64 (σ x), .int .i64 (σ y), .int .i64 0] (by simp [Act.eval]) rfl (news3 _ _ _ _ _) (by intro u hu; simp only [List.mem_cons, List.not_mem_nil, or_false] at hu; rcases hu with rfl | rfl | rfl <;> rfl) (by omega) (by unfold maxLen; omega) (by omega) ?_; intro g3 c3 w3 hr3 hc3 hg3 hor3); have hyb : ∀ g, (Value.slice (some (⟨g3, 0, none⟩ : Addr)) (ln.length + 1) c3).ownBlock = some g → wo.heap.size ≤ g := fun g hg => by
       cases hg; show wo.heap.size ≤ g3; rcases hor3 with h | h
       · exact Hog.out _ h
       · have h1 := HBx.out.size; simp at h; omega
      have hB3 := (bl_trans HBx.out (bl_alloc wx (.cells #[.int .i64 (σ x), .int .i64 (σ y), .int .i64 0] 38))).grown hg3 (by have := HBx.out.size; simp; omega) (fun g hg => Hog.out _ hg); have hO3 : OwnL w3 (.slice (some ⟨g3, 0, none⟩) (ln.length + 1) c3) (ln ++ [(σ x, σ y, (0 : Int))]) := by
       refine ⟨by rw [lkCells_length], .inr ⟨g3, c3, by simp, by simpa using hc3, ?_⟩⟩; rw [lkCells_append]; exact hr3
      have HO3 := Lib.hid hO3; have HB3 := Lib.hid hB3; have Hyb := Lib.hid hyb; clear hO3 hB3 hyb hr3 hc3 hg3 hor3; go_roundg (gk - 1)
      case measure => have := Hk.out; omega
      case rel => exact ⟨k + 1, _, by have := Hk.out; omega, by go_num, by rw [Hll.out], by rw [Hft.out]; exact HO3.out, Hyb.out, HB3.out⟩
     ·
      have hkn : k = ls.length := by omega
      subst hkn; rw [List.take_length] at hown; obtain ⟨lm, hlm⟩ : ∃ lm, lm = ls.map (fun e => (σ e.1, σ e.2.1, (0 : Int))) := ⟨_, rfl⟩
      rw [← hlm] at hown; have hlml : lm.length = ls.length := by rw [hlm]; simp
      have hsl : sortL lm = renLs σ ls := by rw [hlm]; rfl
      obtain ⟨av5, cv5, rfl, hrm, -, -, -⟩ := OwnL.read hown; have Hsl := Lib.hid hsl; have Hlml := Lib.hid hlml; have hqr5 := hqr.below hB; have hmr5 := hmr.below hB; have hcr5 := keep_cell hB hcr; have hBz := bl_trans HBW.out hB; clear hown hog hB hk hlm hsl hqr hmr hcr hlr hlml; go_wp2_with fail; refine (sorted_walk av5 cv5 lm _ hrm (by have := Hlml.out; omega)).mono ?_; rw [Hsl.out]; rintro e w8 ⟨v8, rfl, ho8, -, hb8⟩; obtain ⟨a8, c8, rfl, hr8, -, -, -⟩ := OwnL.read ho8; have hqr8 := hqr5.below hb8; have hmr8 := hmr5.below hb8; have hcr8 := keep_cell hb8 hcr5; have hB8 := bl_trans hBz hb8; have hrl := renLs_len σ ls; have h2r := Hcl.out.two H2.out Hv0.out (fun h => by rw [h] at h3; simp at h3); have hv0r := renLs_real (s := σ) Hv0.out; have hRr := Hcl.out.right HRl.out Hv0.out; have hvr := Hcl.out.verts Hv0.out; have hwr : wantT (renLs σ ls) = true := by
       unfold wantT; have h1 : ((renLs σ ls).any fun k => k.2.2 != 0) = false := List.any_eq_false.2 fun k hk => by rw [hv0r k hk]; simp
       rw [h2r, h1, decide_eq_true (show 3 ≤ (vertsL (renLs σ ls)).length by rw [Hvs.out] at hv3; omega)]; rfl
      obtain ⟨lr, hlr⟩ : ∃ lr, lr = renLs σ ls := ⟨_, rfl⟩
      rw [← hlr] at hr8 hrl h2r hv0r hRr hwr; have Hlr := Lib.hid hlr; have H2r := Lib.hid h2r; have Hv0r := Lib.hid hv0r; have HRr := Lib.hid hRr; have Hwr := Lib.hid hwr; clear hlr h2r hv0r hRr hvr hwr ho8 hb8 hqr5 hmr5 hcr5 hBz hrm; go_wp2_with fail; rw [show (renLs σ ls).length = lr.length by rw [Hlr.out]]; refine (stree_walk a8 c8 lr _ hr8 (by omega)).mono ?_; rintro e w9 ⟨hb9, ⟨-, s9, c9, T9, rfl, hq9, htr9, -, -⟩ | ⟨hno, -⟩⟩; rotate_left
      · rw [Hwr.out] at hno; cases hno
      have hT9 := htr9.few HRr.out Hv0r.out (by omega); have hqi9 := htr9.qi HRr.out Hv0r.out (by omega); have hqi := Hhtr.out.qi HRl.out Hv0.out h3; have hsame := bareQ_same Hcl.out H2.out Hv0.out h3 Hhtr.out (T' := T9) (by rw [← Hlr.out]; exact htr9); have hl9 : ∀ q ∈ T9, q.2.length ≤ 1000 := fun q hq => (hqi9.right q hq).1; have hlT : ∀ q ∈ T, q.2.length ≤ 1000 := fun q hq => (hqi.right q hq).1; have hqr9 := hqr8.below hb9; have hmr9 := hmr8.below hb9; have hcr9 := keep_cell hb9 hcr8; have hB9 := bl_trans hB8 hb9; have HlT := Lib.hid hlT; have Hl9 := Lib.hid hl9; have Hsame := Lib.hid hsame; clear htr9 hqi9 hqi hsame hl9 hlT hqr8 hmr8 hcr8 hB8 hb9 hr8; go_wp2_with fail; refine (bareM_walk (w6.heap.size + 1) σ s _ T _ hqr9 hTl HlT.out ?_).mono ?_
      ·
       intro q hq e he v hev w1 hb1; have hvm := tree_verts H2.out Hv0.out h3 Hhtr.out hq he hev; exact name_walk _ w6.heap.size _ F v (σ v) w1 (keep_cell hb1 hcr9) (hmr9.below hb1) (wfZ_of (by have := Hvb.out v (by rw [Hvs.out]; exact hvm); omega)) (Has.out v hvm)
      rintro e w10 ⟨v10, p10, rfl, ho10, hp10, hb10⟩; have hq10 := hq9.below hb10; have hB10 := bl_trans hB9 hb10; clear hqr9 hmr9 hcr9 hB9 hb10 hq9; go_wp2_with fail; refine (bareI_walk id s9 c9 T9 _ hq10 hT9 Hl9.out (fun q hq e he v hev w1 hb1 => ident_walk v w1)).mono ?_; rintro e w11 ⟨v11, p11, rfl, ho11, hp11, hb11⟩; have ho10' := ho10.below hb11; have hB11 := bl_trans hB10 hb11; obtain ⟨a10, c10, rfl, hr10⟩ := ho10'.rdq; obtain ⟨a11, c11, rfl, hr11⟩ := ho11.rdq; have hb10l : (ptQ p10).length ≤ 1000000 := by
       rw [hp10]; unfold bareQ; have := (insB_fold (T.map (bareP σ)) [] List.Pairwise.nil).2.length_eq; simp at this; omega
      have hb11l : (ptQ p11).length ≤ 1000000 := by
       rw [hp11]; unfold bareQ; have := (insB_fold (T9.map (bareP id)) [] List.Pairwise.nil).2.length_eq; simp at this; omega
      have hee : ptQ p10 = ptQ p11 := by rw [hp10, hp11, Hsame.out]
      have Hee := Lib.hid hee; clear ho10 ho11 ho10' hp10 hp11 hb11 hB10 hq10 hee; go_wp2_with fail; refine (same15_walk a10 a11 c10 c11 _ _ _ hr10 hr11 hb10l hb11l).mono ?_; rw [decide_eq_true Hee.out]; rintro e w12 ⟨rfl, d12, rfl⟩; have hB12 := bl_trans hB11 (below_drewN (bl_refl _) d12); clear hB11 hr10 hr11; go_wp2_with fail; refine (awake15_walk _).mono ?_; rintro e w13 ⟨rfl, hb13⟩; go_wp2_with fail; go_ret; exact ⟨rfl, bl_trans hB12 hb13⟩
namespace spqrOnce
open Go Go.RowKit Go.ChangeShapes Go.WideShapes Go.ChangeAt
set_option maxRecDepth 100000 in
theorem lifted (os : Os) (started : os.Started) (H : Type) (enc : TypeId × Value → H) :
  ReturnsInHanded {} Tryz.checked os 3 .any (Rows.spqrOnceSpec.pre6 enc Tryz.prog Tryz.f3 Rows.spqrOnceRow.domain false) (Rows.spqrOnceSpec.post enc Tryz.prog Tryz.f3 false true false false) := by
 refine returnsInHanded_of_change (C := Tryz.checked) rowOwn started (by kernel_rfl) Tryz.func3
  (ChangeSpec.witness6 (enc := enc) (C := Tryz.checked) false ⟨#[], #[.slice none 0 0, .slice none 0 0], []⟩ 8 (by kernel_rfl) (by kernel_rfl) (by kernel_rfl) (by kernel_rfl)) ?_
 intro W base args ds gs before hval0 hW hcnd _
 have hval : ∀ (j : Nat) t v, Tryz.f3.params[j]? = some t → args[j]? = some v → Value.okWide Tryz.prog W .any base t v := hval0
 have hW' := hW
 obtain ⟨p, q, hA0, hV, rfl, hfz, hnd⟩ := hW
 have hA : DataW.TrodAll enc Tryz.prog W 0 (fun _ => true) true Tryz.f3.params.toList args.toList ds p := hA0
 rw [Tryz.params3] at hA hval
 obtain ⟨v0, vs0, d0, ds0, p0, q0, hargs, rfl, rfl, h0, r0⟩ := trodAll_cons hA
 obtain ⟨v1, vs1, d1, ds1, p1, q1, rfl, rfl, rfl, h1, r1⟩ := trodAll_cons r0
 obtain ⟨rfl, rfl, rfl⟩ := trodAll_nil r1
 obtain rfl : args = #[v0, v1] := by cases args; simp_all
 obtain ⟨rfl, rfl⟩ := trodVars_none hV
 have k0 := h0
 have lt0 : ∀ x ∈ p0, x.block < W.heap.size := by obtain ⟨m, hm⟩ := k0; exact DataW.trod_lt m _ _ _ hm
 obtain ⟨a0, cap0, es0, rfl, rd0, hl0, hm0, wn0⟩ := open_links (hval 0 22 v0 rfl rfl) h0
 have k1 := h1
 have lt1 : ∀ x ∈ p1, x.block < W.heap.size := by obtain ⟨m, hm⟩ := k1; exact DataW.trod_lt m _ _ _ hm
 obtain ⟨a1, cap1, es1, rfl, rd1, hl1, hm1, wn1⟩ := open_bytes (hval 1 23 v1 rfl rfl) h1
 clear hA0 hval0
 refine (spqrOnce_walk a0 cap0 es0 a1 cap1 es1 W rd0 hl0 hm0 wn0 rd1 hl1 hm1 wn1).mono fun e W' ⟨he, bel⟩ => ?_
 subst he
 exact ⟨_, rfl, _, _, _, [], _, [], hW', trodAll_mk1 (shut_bool Tryz.underlying4 _), (trodAll_cons_mk (Below.trod rowLaid (by kernel_rfl) (of_decide_eq_true (by kernel_rfl)) k0 bel lt0) (trodAll_cons_mk (Below.trod rowLaid (by kernel_rfl) (of_decide_eq_true (by kernel_rfl)) k1 bel lt1) trodAll_mk0)), rfl, bel.frame _, fun h => by cases h⟩
theorem over : Rows.spqrOnceRow.holds Tryz.pinned (OpenSpec.ofChange Rows.spqrOnceSpec) :=
 OpenClaim.holds_of_wide 3 Tryz.f3 rfl rfl rfl rfl rfl rfl rfl ⟨rfl, rfl, rfl, rfl, rfl⟩ rfl rfl rfl rfl rfl (by kernel_rfl) Tryz.func3 (by kernel_rfl)
  (of_decide_eq_true (by kernel_rfl)) (by unfold Func.isWrapper; first | (rw [if_pos (by decide +kernel)]; kernel_rfl) | (rw [if_neg (by decide +kernel)]; exact ⟨rfl, rfl⟩))
  (fun os started H enc _ => lifted os started H enc)
theorem proved : Rows.SpqrOnceSaid := over
end spqrOnce
end Go.Proofs.YtagcbnpahgfgmaaGreat
