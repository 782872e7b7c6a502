/- The law of SpqrTells: the answers that tell of a piece speak true, where a piece is drawn. -/
import Derived.Test.YtagcbnpahgfgmaaGreatK15
namespace Go.Proofs.YtagcbnpahgfgmaaGreat
open Go Go.RowKit Go.Maps
def enF (bs : Nat → List Nat) (G : Nat → Bool) (i : Nat) : List Nat := (List.range i).filter (endB bs G)
theorem enF_next (bs : Nat → List Nat) (G : Nat → Bool) (i : Nat) : enF bs G (i + 1) = enF bs G i ++ if endB bs G i then [i] else [] := by
 unfold enF
 rw [List.range_succ, List.filter_append]
 congr 1
 cases h : endB bs G i <;> simp [h]
theorem enF_le (bs : Nat → List Nat) (G : Nat → Bool) (i : Nat) : (enF bs G i).length ≤ i := by
 unfold enF
 have := List.length_filter_le (endB bs G) (List.range i)
 simpa using this
theorem enF_lv (bs : Nat → List Nat) (G : Nat → Bool) (n : Nat) : LvI bs n G (enF bs G n) :=
 ⟨List.nodup_range.sublist List.filter_sublist, fun j => by unfold enF; rw [List.mem_filter, List.mem_range]⟩
def cnF (l : List Nat) (G : Nat → Bool) (b : Nat) : Nat := ((l.take b).filter fun k => !G k).length
theorem cnF_next {l : List Nat} {G : Nat → Bool} {b j : Nat} (h : l[b]? = some j) : cnF l G (b + 1) = cnF l G b + if G j then 0 else 1 := by
 unfold cnF
 rw [List.take_add_one, h]
 simp only [Option.toList_some, List.filter_append, List.length_append]
 cases hg : G j <;> simp [hg]
theorem cnF_le (l : List Nat) (G : Nat → Bool) (b : Nat) : cnF l G b ≤ b := by
 unfold cnF
 have h1 := List.length_filter_le (fun k => !G k) (l.take b)
 rw [List.length_take] at h1
 omega
set_option maxRecDepth 100000 in
set_option maxHeartbeats 8000000 in
theorem centre15_walk (a : Option Addr) (cap : Nat) (Q : List Pt) (w : World) (hr : RdQ w a Q) (hQ : Q.length ≤ 90) (hR : ∀ q ∈ Q, q.2.length ≤ 1000) :
  Calls Tryz.prog 29 #[.slice a Q.length cap] w (RetIs w (centreL Q)) := by
 cases hb : rightB Q with
 | false =>
  have hbl : centreL Q = [] := by unfold centreL; rw [hb]; rfl
  have Hb := Lib.hid hb; have Hbl := Lib.hid hbl
  clear hb hbl
  go_enter Tryz.func29, Tryz.ntmps29
  go_wp2_with fail
  refine (refRight15_walk a cap Q _ hr hQ hR).mono ?_
  rw [Hb.out]
  rintro e w1 ⟨rfl, hb1⟩
  go_wp2_with fail
  go_ret
  rw [Hbl.out]
  exact ⟨none, 0, rfl, fun i u hu => by simp at hu, hb1⟩
 | true =>
  have hRR := rightB_iff.1 hb
  have hbl : centreL Q = centreQ Q := by unfold centreL; rw [hb]; rfl
  have ht := hRR.treeG
  have hbes : ∀ i : Nat, i < Q.length → besideL Q (i : Int) = besQ Q i := fun i hi => by unfold besideL; rw [if_pos ⟨by omega, by omega, hb⟩, Int.toNat_natCast]
  have hbl2 : ∀ k, (besQ Q k).length ≤ Q.length := fun k => by
   have := nodup_len_le (ht.nd k) (m := List.range Q.length) fun x hx => List.mem_range.2 (ht.lt _ _ hx); simpa using this
  have Hb := Lib.hid hb; have Hbl := Lib.hid hbl; have Ht := Lib.hid ht; have Hbes := Lib.hid hbes; have Hbl2 := Lib.hid hbl2
  clear hb hbl ht hbes hbl2 hRR
  go_enter Tryz.func29, Tryz.ntmps29
  go_wp2_with fail
  refine (refRight15_walk a cap Q _ hr hQ hR).mono ?_
  rw [Hb.out]
  rintro e w2 ⟨rfl, hB2⟩
  have hmk := run_make_row' (P := Tryz.prog) 78 4 (.bool false) 1 Tryz.underlying78 bool_info rfl .i64 .i64 Q.length (by omega) (by omega)
  have hrt0 : Row (w2.alloc (.cells (madeCells #[.bool false] Q.length) 4)) w2.heap.size 4 1 Q.length (List.replicate Q.length (.bool false)) := row_made w2 (.bool false) Q.length 4 (by unfold maxLen; omega)
  have hbA := bl_alloc w2 (.cells (madeCells #[.bool false] Q.length) 4)
  go_upto_region 5 with (fail)
  clear hmk
  generalize w2.alloc (.cells (madeCells #[.bool false] Q.length) 4) = wM at hrt0 hbA ⊢
  have hrt : Row wM w2.heap.size 4 1 Q.length ((tkV Q.length (peels (besQ Q) Q.length 0)).map Value.bool) := by
   have e : tkV Q.length (peels (besQ Q) Q.length 0) = List.replicate Q.length false := (tkV_zero _).symm; rw [e, List.map_replicate]; exact hrt0
  clear hrt0
  have hlf : leftN Q.length (peels (besQ Q) Q.length 0) = Q.length := leftN_none _
  have Hlf := Lib.hid hlf
  have hB0 := bl_trans hB2 hbA
  have hwz := hB2.size
  obtain ⟨gt, hgt⟩ : ∃ gt, gt = w2.heap.size := ⟨_, rfl⟩
  rw [← hgt] at hrt ⊢
  have hgw : w.heap.size ≤ gt := by omega
  clear hlf hbA hB2 hgt hwz
  go_loopg [4] Q.length (fun r zv wj => ∃ k : Nat, k + r = Q.length ∧ zv = .int .i64 (leftN Q.length (peels (besQ Q) Q.length k) : Nat) ∧ leftN Q.length (peels (besQ Q) Q.length k) + k ≤ Q.length ∧ Row wj gt 4 1 Q.length ((tkV Q.length (peels (besQ Q) Q.length k)).map Value.bool) ∧ Below w.heap.size w wj)
  case atStart => exact ⟨0, by omega, by rw [Hlf.out], by rw [Hlf.out]; omega, hrt, hB0⟩
  case round =>
   as_aux_lemma =>
    clear hrt hB0 Hlf; obtain ⟨k, hk, rfl, hlk, hrt, hB⟩ := hrel; obtain ⟨GG, hGG⟩ : ∃ GG, GG = peels (besQ Q) Q.length k := ⟨_, rfl⟩
    have hnx : peels (besQ Q) Q.length (k + 1) = peel (besQ Q) Q.length GG := by rw [hGG]; rfl
    rw [← hGG] at hlk hrt ⊢; obtain ⟨ln, hln⟩ : ∃ ln, ln = leftN Q.length GG := ⟨_, rfl⟩
    rw [← hln] at hlk ⊢; have Hk := Lib.hid hk; have Hlk := Lib.hid hlk; have Hnx := Lib.hid hnx; have HGG := Lib.hid hGG; have Hln := Lib.hid hln; have hlnn : ln ≤ Q.length := by omega
    clear hk hlk hnx hGG; by_cases h2 : 2 < ln
    ·
     have e2 : decide ((2 : Int) < (ln : Int)) = true := by simp; omega
     have h22 : 2 < leftN Q.length GG := by rw [← hln]; exact h2
     have hlv := enF_lv (besQ Q) GG Q.length; have hpos := hlv.pos Ht.out (by omega); have hleft := hlv.left h22; rw [← hln] at hleft; obtain ⟨lm, hlm⟩ : ∃ lm, lm = leftN Q.length (peel (besQ Q) Q.length GG) := ⟨_, rfl⟩
     rw [← hlm] at hleft; have H22 := Lib.hid h22; have Hlm := Lib.hid hlm; have Hpos := Lib.hid hpos; have Hleft := Lib.hid hleft; have Hlv := Lib.hid hlv; have ho0 : Own wr (.slice none 0 0) 3 1 (enF (besQ Q) GG 0).length ((enF (besQ Q) GG 0).map vN) := own_nil _ _ _; obtain ⟨gko, hgko⟩ : ∃ g, g = gk := ⟨_, rfl⟩
     have Hgko := Lib.hid hgko; clear hln h2 h22 hlm hpos hleft hlv hgko; go_upto_region 8 with (fail)
     go_loopg [5, 6] Q.length (fun r ev iv wj => ∃ i : Nat, i + r = Q.length ∧ iv = .int .i64 i ∧ Row wj gt 4 1 Q.length ((tkV Q.length GG).map Value.bool) ∧ Own wj ev 3 1 (enF (besQ Q) GG i).length ((enF (besQ Q) GG i).map vN) ∧ (∀ g, ev.ownBlock = some g → w.heap.size ≤ g ∧ g ≠ gt) ∧ Below w.heap.size w wj)
     case atStart => exact ⟨0, by omega, rfl, hrt, ho0, fun g hg => by simp [Value.ownBlock] at hg, hB⟩
     case round =>
      as_aux_lemma =>
       clear ho0 hrt hB; obtain ⟨i, hi, rfl, hrt, hown, hyoung, hB⟩ := hrel; have Hi := Lib.hid hi; have Hyoung := Lib.hid hyoung; clear hyoung; by_cases hil : i < Q.length
       ·
        clear hi; have cT : wr.cell? ⟨gt, i, none⟩ = some (.bool (GG i)) := by
         rw [hrt.cell? i (by rw [List.length_map, tkV_len]; exact hil), List.getElem?_map, tkV_get hil]; rfl
        have i1 : (i : Int) < (Q.length : Int) := by omega
        have hen := enF_next (besQ Q) GG i; have hle := enF_le (besQ Q) GG i; cases hgi : GG i with
        | true =>
         rw [hgi] at cT; have he0 : endB (besQ Q) GG i = false := by unfold endB; rw [hgi]; rfl
         rw [he0] at hen; simp only [Bool.false_eq_true, if_false, List.append_nil] at hen; have Hen := Lib.hid hen; clear hen hgi he0; go_wp2_with fail; go_roundg (gk - 1)
         case measure => have := Hi.out; omega
         case rel => exact ⟨i + 1, by have := Hi.out; omega, by go_num, hrt, by rw [Hen.out]; exact hown, Hyoung.out, hB⟩
        | false =>
         rw [hgi] at cT; have he0 : endB (besQ Q) GG i = decide (cnF (besQ Q i) GG (besQ Q i).length ≤ 1) := by
          unfold endB degG cnF; rw [hgi, List.take_length]; rfl
         rw [he0] at hen; obtain ⟨E, hE⟩ : ∃ E, E = enF (besQ Q) GG i := ⟨_, rfl⟩
         rw [← hE] at hown hen hle; have Hen := Lib.hid hen; have HE := Lib.hid hE; have hbw := fun (w : World) (hr : RdQ w a Q) => beside15_walk a cap Q (i : Int) w hr hQ hR (wfZ_of (by omega)); rw [Hbes.out i hil] at hbw; have Hbw := Lib.hid hbw; have hrw := hr.below hB; have hbl := Hbl2.out i; clear hen hE hgi he0 hbw; go_wp2_with fail; refine (Hbw.out _ hrw).mono ?_; rintro e w3 ⟨ab, cb, rfl, hbs, hb3⟩; have hrt3 : Row w3 gt 4 1 Q.length ((tkV Q.length GG).map Value.bool) := hrt.below hb3 hrt.lt; have hown3 : Own w3 u5 3 1 E.length (E.map vN) := hown.below fun g hg => hb3.block g (Own.lt hown hg); have hB3 := bl_trans hB hb3; obtain ⟨l, hl⟩ : ∃ l, l = besQ Q i := ⟨_, rfl⟩
         have hlq : ∀ j ∈ l, j < Q.length := fun j hj => Ht.out.lt i j (by rw [← hl]; exact hj); rw [← hl] at hbs hbl Hen ⊢; have Hlq := Lib.hid hlq; obtain ⟨gki, hgki⟩ : ∃ g, g = gk := ⟨_, rfl⟩
         have Hgki := Lib.hid hgki; clear hrw hb3 hrt hown hB cT hl hlq hgki; go_upto_region 14 with (fail)
         go_loopg [7, 9] l.length (fun r nv bv wj => ∃ b : Nat, b + r = l.length ∧ bv = .int .i64 b ∧ nv = .int .i64 (cnF l GG b : Nat) ∧ wj = w3)
         case atStart => exact ⟨0, by omega, rfl, rfl, rfl⟩
         case round =>
          as_aux_lemma =>
           obtain ⟨b, hb, rfl, rfl, rfl⟩ := hrel; have Hb := Lib.hid hb; have hcl := cnF_le l GG b; by_cases hbl9 : b < l.length
           ·
            clear hb; obtain ⟨j, hj⟩ : ∃ j, l[b]? = some j := ⟨_, List.getElem?_eq_getElem hbl9⟩
            have hjn : j < Q.length := Hlq.out j (List.mem_of_getElem? hj); obtain ⟨bb, ob, hab, cX⟩ := hbs b (vN j) (by rw [List.getElem?_map, hj]; rfl); subst hab; replace cX : wr.cell? ⟨bb, ob + b, none⟩ = some (.int .i64 (j : Nat)) := cX; have cJ : wr.cell? ⟨gt, j, none⟩ = some (.bool (GG j)) := by
             rw [hrt3.cell? j (by rw [List.length_map, tkV_len]; exact hjn), List.getElem?_map, tkV_get hjn]; rfl
            have hcn := cnF_next (G := GG) hj; have i2 : (b : Int) < (l.length : Int) := by omega
            have i3 : (j : Int) < (Q.length : Int) := by omega
            cases hgj : GG j with
            | true =>
             rw [hgj] at cJ hcn; simp only [if_true, Nat.add_zero] at hcn; have Hcn := Lib.hid hcn; clear hcn hgj hj hjn; go_wp2_with fail; go_roundg (gk - 1)
             case measure => have := Hb.out; omega
             case rel => exact ⟨b + 1, by have := Hb.out; omega, by go_num, by rw [Hcn.out], rfl⟩
            | false =>
             rw [hgj] at cJ hcn; simp only [Bool.false_eq_true, if_false] at hcn; have Hcn := Lib.hid hcn; clear hcn hgj hj hjn; go_wp2_with fail; go_roundg (gk - 1)
             case measure => have := Hb.out; omega
             case rel => exact ⟨b + 1, by have := Hb.out; omega, by go_num, by rw [Hcn.out] <;> go_num, rfl⟩
           ·
            have hbn : b = l.length := by omega
            subst hbn; clear hb; obtain ⟨cn, hcn⟩ : ∃ cn, cn = cnF l GG l.length := ⟨_, rfl⟩
            have hen := Hen.out; rw [← hcn] at hen hcl ⊢; clear hcn Hen; by_cases h1 : cn ≤ 1
            ·
             have e9 : decide ((cn : Int) ≤ 1) = true := by simp; omega
             have hen2 : enF (besQ Q) GG (i + 1) = E ++ [i] := by rw [hen, decide_eq_true h1]; rfl
             have Hen2 := Lib.hid hen2; have hAl := hown3.alloc (.cells #[.int .i64 (i : Nat)] 3); clear hen hen2 h1; go_wp2_with (at_builtin; refine wpList_append_row _ rfl (.tmp 54) (.tmp 56) 33 rfl 3 (.int .i64 0) 1 8 Tryz.underlying33 int_info rfl u5 E.length _ rfl hAl ⟨wr.heap.size, 0, none⟩ 1 1 [.int .i64 (i : Nat)] rfl rfl (one_new (cell_new1 rfl)) (one_ok _ _) (by omega) (by unfold maxLen; omega) (by omega) ?_; intro g5 c5 w5 hr5 hc5 hg5 hor5); have z2 := hrt3.lt; have z3 := hB3.size; have hyg : w.heap.size ≤ g5 ∧ g5 ≠ gt := by
              rcases hor5 with h | h
              · exact Hyoung.out g5 h
              · simp at h; omega
             have hrt2 := (hrt3.alloc (.cells #[.int .i64 (i : Nat)] 3)).grown hg5 (fun e => (Hyoung.out _ e).2 rfl); have hown2 : Own w5 (.slice (some ⟨g5, 0, none⟩) (E.length + 1) c5) 3 1 (enF (besQ Q) GG (i + 1)).length ((enF (besQ Q) GG (i + 1)).map vN) := by
              rw [Hen2.out]; have h1 := hr5.own1; have e1 : E.map vN ++ [Value.int .i64 (i : Int)] = (E ++ [i]).map vN := by rw [List.map_append]; rfl
              rw [e1] at h1; simpa using h1
             have hB5 : Below w.heap.size w w5 := (bl_trans hB3 (bl_alloc wr (.cells #[.int .i64 (i : Nat)] 3))).grown hg5 (by simp; omega) (fun k hk => (Hyoung.out k hk).1); clear hr5 hg5 hor5 hrt3 hown3 hB3 hAl; go_wp2_with fail; go_roundg (gki - 1)
             case measure => have := Hi.out; have := Hgki.out; omega
             case rel => exact ⟨i + 1, by have := Hi.out; have := Hgki.out; omega, by go_num, hrt2, hown2, fun k hk => by cases hk; exact hyg, hB5⟩
            ·
             have e9 : decide ((cn : Int) ≤ 1) = false := by simp; omega
             have hen2 : enF (besQ Q) GG (i + 1) = E := by rw [hen, decide_eq_false h1]; simp
             have Hen2 := Lib.hid hen2; clear hen hen2 h1; go_wp2_with fail; go_roundg (gki - 1)
             case measure => have := Hi.out; have := Hgki.out; omega
             case rel => exact ⟨i + 1, by have := Hi.out; have := Hgki.out; omega, by go_num, hrt3, by rw [Hen2.out]; exact hown3, Hyoung.out, hB3⟩
       ·
        have hin : i = Q.length := by omega
        subst hin; obtain ⟨L, hL⟩ : ∃ L, L = enF (besQ Q) GG Q.length := ⟨_, rfl⟩
        have hlv := Hlv.out; have hpos := Hpos.out; have hleft := Hleft.out; rw [← hL] at hown hlv hpos hleft; have hLn := hlv.le; obtain ⟨gl, cl, hu5, hcl, hrl⟩ : ∃ gl cl, u5 = .slice (some ⟨gl, 0, none⟩) L.length cl ∧ L.length ≤ cl ∧ Row wr gl 3 1 cl (L.map vN) := by
         rcases hown.2 with ⟨_, h0⟩ | ⟨g, cg, h, hc, hr⟩
         · omega
         · exact ⟨g, cg, h, hc, hr⟩
        subst hu5; obtain ⟨hgl1, hgl2⟩ := Hyoung.out gl rfl; have Hlv2 := Lib.hid hlv; have Hleft2 := Lib.hid hleft; have Hpos2 := Lib.hid hpos; have hlL : L.length ≤ ln := by omega
        have hrt0 : Row wr gt 4 1 Q.length ((tkV Q.length (orL GG (L.take 0))).map Value.bool) := by rw [List.take_zero, orL_nil]; exact hrt
        clear hi Hi hown hL hlv hleft hpos Hlv Hleft Hpos Hyoung hcl hrt; go_upto_region 21 with (fail)
        go_loopg [4, 10] L.length (fun r zv iv wj => ∃ a : Nat, a + r = L.length ∧ iv = .int .i64 a ∧ zv = .int .i64 ((ln - a : Nat) : Int) ∧ Row wj gt 4 1 Q.length ((tkV Q.length (orL GG (L.take a))).map Value.bool) ∧ Row wj gl 3 1 cl (L.map vN) ∧ Below w.heap.size w wj)
        case atStart => exact ⟨0, by omega, rfl, rfl, hrt0, hrl, hB⟩
        case round =>
         as_aux_lemma =>
          clear hrt0 hrl hB; obtain ⟨a, ha, rfl, rfl, hrt, hrl, hB⟩ := hrel; have Ha := Lib.hid ha; by_cases hal : a < L.length
          ·
           clear ha; obtain ⟨x, hx⟩ : ∃ x, L[a]? = some x := ⟨_, List.getElem?_eq_getElem hal⟩
           have hxn : x < Q.length := Hlv2.out.lt (List.mem_of_getElem? hx); have cL : wr.cell? ⟨gl, a, none⟩ = some (.int .i64 (x : Nat)) := by
            rw [hrl.cell? a (by rw [List.length_map]; exact hal), List.getElem?_map, hx]; rfl
           have cT : wr.cell? ⟨gt, x, none⟩ = some (.bool (orL GG (L.take a) x)) := by
            rw [hrt.cell? x (by rw [List.length_map, tkV_len]; exact hxn), List.getElem?_map, tkV_get hxn]; rfl
           have fT := hrt.frozen x; have htk : L.take (a + 1) = L.take a ++ [x] := by rw [List.take_add_one, hx]; rfl
           have i1 : (a : Int) < (L.length : Int) := by omega
           have i2 : (x : Int) < (Q.length : Int) := by omega
           have hrt1 : Row (wr.setCell ⟨gt, x, none⟩ (.bool true)) gt 4 1 Q.length ((tkV Q.length (orL GG (L.take (a + 1)))).map Value.bool) := by
            have := hrt.set x (.bool true); rw [htk, ← tkV_set, List.map_set]; exact this
           have hrl1 : Row (wr.setCell ⟨gt, x, none⟩ (.bool true)) gl 3 1 cl (L.map vN) := hrl.other (a := ⟨gt, x, none⟩) (by simp only; omega) _; have hB1 : Below w.heap.size w (wr.setCell ⟨gt, x, none⟩ (.bool true)) := hB.setCell (by simp only; omega) _; obtain ⟨z, hz⟩ : ∃ z : Nat, z = ln - a := ⟨_, rfl⟩
           have hz1 : ((ln - (a + 1) : Nat) : Int) = (z : Int) - 1 := by omega
           have hz2 : 1 ≤ z := by omega
           have hz3 : z ≤ 90 := by omega
           rw [← hz]; have Hz1 := Lib.hid hz1; clear hx htk hrt hrl hB hz hz1; go_wp2_with fail; go_roundg (gk - 1)
           case measure => have := Ha.out; omega
           case rel => exact ⟨a + 1, by have := Ha.out; omega, by go_num, by rw [Hz1.out] <;> go_num, hrt1, hrl1, hB1⟩
          ·
           have han : a = L.length := by omega
           subst han; rw [List.take_length, tkV_peel Hlv2.out H22.out] at hrt; have hz : (ln - L.length : Nat) = lm := by have := Hleft2.out; omega
           rw [hz]; clear ha Ha hz; go_wp2_with fail; go_roundg (gko - 1)
           case measure => have := Hk.out; have := Hlk.out; have := Hgko.out; have := Hpos2.out; omega
           case rel => exact ⟨k + 1, by have := Hk.out; have := Hlk.out; have := Hgko.out; have := Hleft2.out; have := Hpos2.out; omega, by rw [Hnx.out, ← Hlm.out] <;> go_num, by rw [Hnx.out, ← Hlm.out]; have := Hlk.out; have := Hleft2.out; have := Hpos2.out; omega, by rw [Hnx.out]; exact hrt, hB⟩
    ·
     have e2 : decide ((2 : Int) < (ln : Int)) = false := by simp; omega
     have hfin : peels (besQ Q) Q.length Q.length = GG := by
      have h22 : ¬ 2 < leftN Q.length (peels (besQ Q) Q.length k) := by rw [← HGG.out, ← Hln.out]; exact h2
      have h1 := peels_end h22 (Q.length - k); have := Hlk.out; rw [show k + (Q.length - k) = Q.length by omega] at h1; rw [h1, HGG.out]
     have hcq : centreQ Q = (List.range Q.length).filter fun j => !GG j := by unfold centreQ; rw [hfin]
     have Hcq := Lib.hid hcq; have ho0 : Own wr (.slice none 0 0) 3 1 0 [] := own_nil _ _ _; have hgtw := hrt.lt; clear hfin hcq h2 hln; go_upto_region 27 with (fail)
     go_loopg [11, 12] Q.length (fun r ov iv wj => ∃ (i : Nat) (O : List Nat), i + r = Q.length ∧ iv = .int .i64 i ∧ O = (List.range i).filter (fun j => !GG j) ∧ Row wj gt 4 1 Q.length ((tkV Q.length GG).map Value.bool) ∧ Own wj ov 3 1 O.length (O.map vN) ∧ (∀ g, ov.ownBlock = some g → w.heap.size ≤ g ∧ g ≠ gt) ∧ Below w.heap.size w wj)
     case atStart => exact ⟨0, [], by omega, rfl, by simp, hrt, ho0, fun g hg => by simp [Value.ownBlock] at hg, hB⟩
     case round =>
      as_aux_lemma =>
       clear hrt ho0 hB hgtw; obtain ⟨i, O, hi, rfl, hO, hrt, hown, hyoung, hB⟩ := hrel; have Hi := Lib.hid hi; have HO := Lib.hid hO; have Hyoung := Lib.hid hyoung; have hOl : O.length ≤ i := by
        rw [hO]; have := List.length_filter_le (fun j => !GG j) (List.range i); simpa using this
       have hstep : (List.range (i + 1)).filter (fun j => !GG j) = O ++ if GG i = false then [i] else [] := by
        rw [List.range_succ, List.filter_append, hO]; congr 1; by_cases h : GG i = true <;> simp [h]
       clear hO hyoung; by_cases hil : i < Q.length
       ·
        clear hi; have cT : wr.cell? ⟨gt, i, none⟩ = some (.bool (GG i)) := by
         rw [hrt.cell? i (by rw [List.length_map, tkV_len]; exact hil), List.getElem?_map, tkV_get hil]; rfl
        have i1 : (i : Int) < (Q.length : Int) := by omega
        cases hgi : GG i with
        | true =>
         rw [hgi] at cT hstep; simp only [Bool.true_eq_false, if_false, List.append_nil] at hstep; have Hstep := Lib.hid hstep; clear hstep hgi; go_wp2_with fail; go_roundg (gk - 1)
         case measure => have := Hi.out; omega
         case rel => exact ⟨i + 1, O, by have := Hi.out; omega, by go_num, Hstep.out.symm, hrt, hown, Hyoung.out, hB⟩
        | false =>
         rw [hgi] at cT hstep; simp only [if_true] at hstep; have Hstep := Lib.hid hstep; have hAl := hown.alloc (.cells #[.int .i64 (i : Nat)] 3); have hBa := hB.size; clear hstep hgi; go_wp2_with (at_builtin; refine wpList_append_row _ rfl (.tmp 83) (.tmp 85) 33 rfl 3 (.int .i64 0) 1 8 Tryz.underlying33 int_info rfl u11 O.length _ rfl hAl ⟨wr.heap.size, 0, none⟩ 1 1 [.int .i64 (i : Nat)] rfl rfl (one_new (cell_new1 rfl)) (one_ok _ _) (by omega) (by unfold maxLen; omega) (by omega) ?_; intro g5 c5 w5 hr5 hc5 hg5 hor5); have z2 := hrt.lt; have hyg : w.heap.size ≤ g5 ∧ g5 ≠ gt := by
          rcases hor5 with h | h
          · exact Hyoung.out g5 h
          · simp at h; omega
         have hrt2 := (hrt.alloc (.cells #[.int .i64 (i : Nat)] 3)).grown hg5 (fun e => (Hyoung.out _ e).2 rfl); have hown2 : Own w5 (.slice (some ⟨g5, 0, none⟩) (O.length + 1) c5) 3 1 (O ++ [i]).length ((O ++ [i]).map vN) := by
          have h1 := hr5.own1; have e1 : O.map vN ++ [Value.int .i64 (i : Int)] = (O ++ [i]).map vN := by rw [List.map_append]; rfl
          rw [e1] at h1; simpa using h1
         have hB5 : Below w.heap.size w w5 := (bl_trans hB (bl_alloc wr (.cells #[.int .i64 (i : Nat)] 3))).grown hg5 (by simp; omega) (fun k hk => (Hyoung.out k hk).1); clear hr5 hg5 hor5 hrt hown hB hAl cT; go_wp2_with fail; go_roundg (gk - 1)
         case measure => have := Hi.out; omega
         case rel => exact ⟨i + 1, O ++ [i], by have := Hi.out; omega, by go_num, Hstep.out.symm, hrt2, hown2, fun k hk => by cases hk; exact hyg, hB5⟩
       ·
        have hin : i = Q.length := by omega
        subst hin; have hO2 : O = centreQ Q := by rw [HO.out, Hcq.out]
        subst hO2; obtain ⟨a9, c9, hvo, hca⟩ : ∃ a c, u11 = Value.slice a (centreQ Q).length c ∧ CellsAt wr a ((centreQ Q).map vN) := by
         rcases hown.2 with ⟨rfl, h0⟩ | ⟨g, cg, rfl, hcg, hr9⟩
         · exact ⟨none, 0, by rw [h0], fun i u hu => by rw [List.eq_nil_of_length_eq_zero h0] at hu; simp at hu⟩
         · exact ⟨_, _, rfl, hr9.at_⟩
        subst hvo; clear hi Hi hstep hown hrt hOl; go_wp2_with fail; go_ret; rw [Hbl.out]; exact ⟨a9, c9, rfl, hca, hB⟩
end Go.Proofs.YtagcbnpahgfgmaaGreat
namespace Go.Proofs.YtagcbnpahgfgmaaGreat
open Go Go.RowKit Go.Maps
theorem realsO_all (Q : List Pt) : realsO (allQ Q) = realQ Q := by
 have := allQ_real Q
 unfold realsO
 rw [this]
 unfold relL realL realQ
 rw [List.flatMap_map]
set_option maxRecDepth 100000 in
set_option maxHeartbeats 4000000 in
theorem whole15_walk (a : Option Addr) (cap : Nat) (Q : List Pt) (w : World) (hr : RdQ w a Q) (hQ : Q.length ≤ 90) (hR : ∀ q ∈ Q, q.2.length ≤ 1000) :
  Calls Tryz.prog 24 #[.slice a Q.length cap] w (RetLk w (wholeL Q)) := by
 cases hb : rightB Q with
 | false =>
  have hw : wholeL Q = [] := by unfold wholeL; rw [hb]; rfl
  have Hw := Lib.hid hw; have HR := Lib.hid hb
  clear hw hb
  go_enter Tryz.func24, Tryz.ntmps24
  go_wp2_with fail
  refine (refRight15_walk a cap Q _ hr hQ hR).mono ?_
  rw [HR.out]
  rintro e w1 ⟨rfl, hb⟩
  go_wp2_with fail
  go_ret
  rw [Hw.out]
  exact ⟨_, rfl, own_nil _ _ _, fun g hg => by simp [Value.ownBlock] at hg, hb⟩
 | true =>
  have hw : wholeL Q = sortL (realsO (allQ Q)) := by rw [realsO_all]; unfold wholeL; rw [hb]; rfl
  have Hw := Lib.hid hw; have HR := Lib.hid hb
  clear hw hb
  go_enter Tryz.func24, Tryz.ntmps24
  go_wp2_with fail
  refine (refRight15_walk a cap Q _ hr hQ hR).mono ?_
  rw [HR.out]
  rintro e w1 ⟨rfl, hb⟩
  have ho0 : OwnL w1 (.slice none 0 0) [] := own_nil _ _ _
  have hp0 : preQ Q 0 0 = [] := by simp [preQ, preO]
  go_wp2_with fail
  go_loopg [3, 4] Q.length (fun r rv iv wj => ∃ i : Nat, i + r = Q.length ∧ iv = .int .i64 i ∧ OwnL wj rv (realsO (preQ Q i 0)) ∧ (∀ g, rv.ownBlock = some g → w.heap.size ≤ g) ∧ Below w.heap.size w wj)
  case atStart => exact ⟨0, by omega, rfl, by rw [hp0]; exact ho0, fun g hg => by simp [Value.ownBlock] at hg, hb⟩
  case round =>
   clear ho0 hp0 hb; obtain ⟨i, hi, rfl, hown, hyoung, hB⟩ := hrel; have Hi := Lib.hid hi; have Hyoung := Lib.hid hyoung; clear hyoung; by_cases hil : i < Q.length
   ·
    clear hi; have hqi : Q[i]? = some Q[i] := List.getElem?_eq_getElem hil; obtain ⟨bp, op, au, cu, rfl, -, p1w, hrq, hcu, hcm⟩ := hr i _ hqi; have hln := lnQ_at hil; have hRq := hR _ (List.getElem_mem hil); obtain ⟨⟨kd, ls⟩, hq⟩ : ∃ q : Pt, Q[i] = q := ⟨_, rfl⟩
    rw [hq] at p1w hrq hcu hln hRq; simp only at p1w hrq hcu hln hRq; have iI : (i : Int) < (Q.length : Int) := by omega
    have Hln := Lib.hid hln; obtain ⟨gko, hgko⟩ : ∃ g, g = gk := ⟨_, rfl⟩
    have Hgko := Lib.hid hgko; clear hqi hq hln hgko; have p1 := keep_cell hB p1w; go_upto_region 8 with (fail)
    go_loopg [3, 5] ls.length (fun r rv kv wj => ∃ k : Nat, k + r = ls.length ∧ kv = .int .i64 k ∧ OwnL wj rv (realsO (preQ Q i k)) ∧ (∀ g, rv.ownBlock = some g → w.heap.size ≤ g) ∧ Below w.heap.size w wj)
    case atStart => exact ⟨0, by omega, rfl, hown, Hyoung.out, hB⟩
    case round =>
     clear hown hB p1 Hyoung; obtain ⟨k, hk, rfl, hown, hyoung, hB⟩ := hrel; have Hk := Lib.hid hk; have Hyoung := Lib.hid hyoung; clear hyoung; have p1 := keep_cell hB p1w; by_cases hkl : k < ls.length
     ·
      clear hk; obtain ⟨b1, o1, rfl, q0, q1, q2⟩ := (hrq.below hB).at k hkl; have hpre : preQ Q i (k + 1) = preQ Q i k ++ [(i, ls[k])] := by
       have := preQ_succ Q i k (by rw [Hln.out]; exact hkl); rw [this]; congr 3; simp [Hln.out]
      obtain ⟨⟨x, y, z⟩, hxe⟩ : ∃ u : Lk, ls[k] = u := ⟨_, rfl⟩
      rw [hxe] at q0 q1 q2 hpre; simp only at q0 q1 q2; have i2 : (k : Int) < (ls.length : Int) := by omega
      have hRl : (realsO (preQ Q i k)).length ≤ 91000 := by
       have h1 := realsO_len (preQ Q i k); have h2 := preQ_len hR i k (by omega); omega
      have hwsz := hB.size; by_cases hz9 : z = 0
      ·
       subst hz9; have hrl : realsO (preQ Q i (k + 1)) = realsO (preQ Q i k) ++ [(x, y, 0)] := by rw [hpre, realsO_append]; simp [realsO]
       obtain ⟨R, hRR⟩ : ∃ R, R = realsO (preQ Q i k) := ⟨_, rfl⟩
       rw [← hRR] at hrl hown hRl; have Hrl := Lib.hid hrl; have hownB : Own (wr.alloc (.cells #[.int .i64 x, .int .i64 y, .int .i64 0] 38)) u3 38 3 R.length (lkCells R) := Own.alloc hown _; clear hrl hRR hpre hxe; go_wp2_with (at_builtin; refine wpList_append_row _ rfl (.tmp 35) (.tmp 44) 22 rfl 38 (.agg #[.int .i64 0, .int .i64 0, .int .i64 0]) 3 24 Tryz.underlying22 link_info rfl u3 R.length _ rfl hownB ⟨wr.heap.size, 0, none⟩ 1 1 [.int .i64 x, .int .i64 y, .int .i64 0] rfl rfl (news3 _ _ _ _ _) (one3 _ _ _) (by omega) (by unfold maxLen; omega) (by omega) ?_; intro g5 c5 w5 hr5 hc5 hg5 hor5); have hB5 : Below w.heap.size w w5 := (bl_trans hB (bl_alloc wr (.cells #[.int .i64 x, .int .i64 y, .int .i64 0] 38))).grown hg5 (by simp; omega) (fun j hj => Hyoung.out j hj); have hy5 : w.heap.size ≤ g5 := by
        rcases hor5 with h | h
        · exact Hyoung.out g5 h
        · simp at h; omega
       have hown5 : OwnL w5 (.slice (some ⟨g5, 0, none⟩) (R.length + 1) c5) (realsO (preQ Q i (k + 1))) := by
        rw [Hrl.out]; have e2 : lkCells R ++ [Value.int .i64 x, Value.int .i64 y, Value.int .i64 0] = lkCells (R ++ [(x, y, 0)]) := by rw [lkCells_append]; rfl
        rw [e2] at hr5; exact ⟨lkCells_length _, .inr ⟨g5, c5, by simp, by simpa using hc5, hr5⟩⟩
       clear hr5 hg5 hor5 hown hownB q0 q1 q2; go_wp2_with fail; go_roundg (gk - 1)
       case measure => have := Hk.out; omega
       case rel => exact ⟨k + 1, by have := Hk.out; omega, by go_num, hown5, fun j hj => by cases hj; exact hy5, hB5⟩
      ·
       have e9 : (z == 0) = false := by simpa using hz9
       have hrl : realsO (preQ Q i (k + 1)) = realsO (preQ Q i k) := by rw [hpre, realsO_append]; simp [realsO, hz9]
       have Hrl := Lib.hid hrl; clear hrl hz9 hpre hxe; go_wp2_with fail; go_roundg (gk - 1)
       case measure => have := Hk.out; omega
       case rel => exact ⟨k + 1, by have := Hk.out; omega, by go_num, by rw [Hrl.out]; exact hown, Hyoung.out, hB⟩
     ·
      have hkn : k = ls.length := by omega
      subst hkn; have hrow : preQ Q i ls.length = preQ Q (i + 1) 0 := by
       have := preQ_row Q i; rw [Hln.out] at this; rw [this, preQ_zero]
      rw [hrow] at hown; clear hk hrow; go_wp2_with fail; go_roundg (gko - 1)
      case measure => have := Hi.out; have := Hgko.out; omega
      case rel => exact ⟨i + 1, by have := Hi.out; have := Hgko.out; omega, by go_num, hown, Hyoung.out, hB⟩
   ·
    have hin : i = Q.length := by omega
    subst hin; rw [show preQ Q Q.length 0 = allQ Q by rw [preQ_zero]; rfl] at hown; have hRl : (realsO (allQ Q)).length ≤ 91000 := by
     have h1 := realsO_len (allQ Q); have h2 := preQ_len hR Q.length 0 (by omega); rw [show preQ Q Q.length 0 = allQ Q by rw [preQ_zero]; rfl] at h2; omega
    obtain ⟨a2, c2, rfl, hr2, -, -, -⟩ := hown.read; have hsw := refSorted12_walk a2 c2 (realsO (allQ Q)) wr hr2 (by omega); have Hsw := Lib.hid hsw; clear hi Hi hown hr2 hsw; go_wp2_with fail; refine Hsw.out.mono ?_; rintro e w2 ⟨v, rfl, h1, h2, h3⟩; have hB2 := bl_trans hB h3; have hsz := hB.size; go_wp2_with fail; go_ret; rw [Hw.out]; exact ⟨v, rfl, h1, fun g hg => by have := h2 g hg; omega, hB2⟩
end Go.Proofs.YtagcbnpahgfgmaaGreat
namespace Go.Proofs.YtagcbnpahgfgmaaGreat
open Go Go.RowKit Go.ChangeShapes Go.WideShapes Go.ChangeAt Go.Joins Go.Deep
theorem rowOwn : ownKnob Tryz.prog.godebug = none := by kernel_rfl
theorem rowLaid : laidOutB Tryz.prog = true := by kernel_rfl
theorem rowInt : Tryz.prog.cellsOf 3 = 1 := by kernel_rfl
theorem rowLink : Tryz.prog.cellsOf 38 = 3 := by kernel_rfl
theorem no_far {w : World} {b o : Nat} {s : Option Nat} {x : Value} (h : w.cell? ⟨b, o, s⟩ = some x) : s = none := by
 cases s with
 | none => rfl
 | some k =>
  exfalso
  simp only [World.cell?] at h
  split at h <;> simp at h
section
variable {H : Type} {enc : TypeId × Value → H} {W : World} {base fuel : Nat} {spare : Nat → Bool} {held : Bool}
set_option maxRecDepth 100000 in
theorem link_of {cs : List Value} {x : DataW H × List MemPlace} (h : DataW.trod enc Tryz.prog W base spare held fuel 38 cs = some x) :
  ∃ k : Lk, cs = [.int .i64 k.1, .int .i64 k.2.1, .int .i64 k.2.2] ∧ WfZ k.1 ∧ WfZ k.2.1 ∧ WfZ k.2.2 := by
 obtain ⟨xs, n, rfl, rfl, hl, hx, hi⟩ := DataW.trod_struct Tryz.underlying38 h
 rw [rowLink] at hl
 match cs, hl with
 | [u, v, t], _ =>
  have h0 : DataW.trod enc Tryz.prog W base spare held n 3 [u] = xs[0]? := by have := hi 0 _ rfl; simpa [rowInt] using this
  have h1 : DataW.trod enc Tryz.prog W base spare held n 3 [v] = xs[1]? := by have := hi 1 _ rfl; simpa [rowInt] using this
  have h2 : DataW.trod enc Tryz.prog W base spare held n 3 [t] = xs[2]? := by have := hi 2 _ rfl; simpa [rowInt] using this
  simp at hx
  rw [List.getElem?_eq_getElem (by omega)] at h0 h1 h2
  obtain ⟨a, e0, _, w0⟩ := DataW.trod_int Tryz.underlying3 h0
  obtain ⟨b, e1, _, w1⟩ := DataW.trod_int Tryz.underlying3 h1
  obtain ⟨c, e2, _, w2⟩ := DataW.trod_int Tryz.underlying3 h2
  simp at e0 e1 e2
  exact ⟨(a, b, c), by rw [e0, e1, e2], w0, w1, w2⟩
set_option maxRecDepth 100000 in
theorem open_links {r : Reach} {b0 : Nat} {v : Value} {d : DataW H} {p : List MemPlace} (hv : Value.okWide Tryz.prog W r b0 22 v) (h : DataW.Trod enc Tryz.prog W base spare held 22 v d p) :
  ∃ (a : Option Addr) (cap : Nat) (ls : List Lk), v = .slice a ls.length cap ∧ RdL W a ls ∧ ls.length ≤ cap ∧ cap ≤ maxLen ∧ ∀ k ∈ ls, WfZ k.1 ∧ WfZ k.2.1 ∧ WfZ k.2.2 := by
 obtain ⟨fuel, hf⟩ := h
 obtain ⟨a1, l1, c1, rfl⟩ := okWide_slice Tryz.underlying22 hv
 rcases open_slice Tryz.underlying22 hf with ⟨e, _⟩ | ⟨a, len, cap, m, n, D, Pl, e, _, hl, hm, hmm, _, hx⟩
 ·
  simp [Value.cells] at e
  obtain ⟨rfl, rfl, rfl⟩ := e
  exact ⟨none, 0, [], rfl, rdL_nil _ _, by simp, by unfold maxLen; omega, fun k hk => by simp at hk⟩
 ·
  simp [Value.cells] at e
  obtain ⟨rfl, rfl, rfl⟩ := e
  have hle : l1 ≤ m := by rw [hmm]; split <;> omega
  have hp : ∀ i, i < l1 → ∃ k : Lk, (W.cell? (a.add (i * 3)) = some (.int .i64 k.1) ∧ W.cell? ((a.add (i * 3)).add 1) = some (.int .i64 k.2.1) ∧ W.cell? ((a.add (i * 3)).add 2) = some (.int .i64 k.2.2)) ∧ WfZ k.1 ∧ WfZ k.2.1 ∧ WfZ k.2.2 := by
   intro i hi; obtain ⟨cs', h1, h2⟩ := hx i (by omega); rw [rowLink] at h1; obtain ⟨k, rfl, hw⟩ := link_of h2; obtain ⟨_, _, h5⟩ := World.cells?_some h1; exact ⟨k, ⟨by simpa [Addr.add] using h5 0 (by omega), by simpa using h5 1 (by omega), by simpa using h5 2 (by omega)⟩, hw⟩
  obtain ⟨f, hf2⟩ := choose_lt (p := fun i (k : Lk) => (W.cell? (a.add (i * 3)) = some (.int .i64 k.1) ∧ W.cell? ((a.add (i * 3)).add 1) = some (.int .i64 k.2.1) ∧ W.cell? ((a.add (i * 3)).add 2) = some (.int .i64 k.2.2)) ∧ WfZ k.1 ∧ WfZ k.2.1 ∧ WfZ k.2.2) hp
  refine ⟨some a, c1, (List.range l1).map f, by simp, ?_, by simpa using hl, hm, ?_⟩
  ·
   intro i u hu; have hi := (List.getElem?_eq_some_iff.1 hu).1; rw [lkCells_length] at hi; simp only [List.length_map, List.length_range] at hi; have hk : i / 3 < l1 := by omega
   obtain ⟨b, o, sp⟩ := a; obtain ⟨⟨h1, h2, h3⟩, _⟩ := hf2 (i / 3) hk; have hsp : sp = none := by
    obtain ⟨⟨h1, _⟩, _⟩ := hf2 0 (by omega); have h2 : W.cell? ⟨b, o, sp⟩ = some (.int .i64 (f 0).1) := by simpa [Addr.add] using h1
    exact no_far h2
   subst hsp; refine ⟨b, o, rfl, ?_⟩; obtain ⟨g1, g2, g3⟩ := lkCells_get ((List.range l1).map f) (i / 3) (by simpa using hk); simp only [List.getElem_map, List.getElem_range] at g1 g2 g3; rw [Addr.add_lit] at h1 h2 h3; rw [Addr.add_lit] at h2 h3; have hmod : i % 3 = 0 ∨ i % 3 = 1 ∨ i % 3 = 2 := by omega
   rcases hmod with h | h | h
   ·
    rw [show i / 3 * 3 = i by omega] at g1 h1; rw [g1] at hu; cases hu; exact h1
   ·
    rw [show i / 3 * 3 + 1 = i by omega] at g2; rw [g2] at hu; cases hu; rw [show o + i = o + i / 3 * 3 + 1 by omega]; exact h2
   ·
    rw [show i / 3 * 3 + 2 = i by omega] at g3; rw [g3] at hu; cases hu; rw [show o + i = o + i / 3 * 3 + 2 by omega]; exact h3
  ·
   intro k hk; obtain ⟨i, hi, rfl⟩ := List.mem_map.1 hk; exact (hf2 i (List.mem_range.1 hi)).2
end
end Go.Proofs.YtagcbnpahgfgmaaGreat
namespace Go.Proofs.YtagcbnpahgfgmaaGreat
open Go Go.RowKit Go.ChangeShapes Go.WideShapes Go.ChangeAt Go.Joins Go.Deep
theorem rowPart : Tryz.prog.cellsOf 49 = 2 := by kernel_rfl
theorem rowLinks : Tryz.prog.cellsOf 22 = 1 := by kernel_rfl
section
variable {H : Type} {enc : TypeId × Value → H} {W : World} {base fuel : Nat} {spare : Nat → Bool} {held : Bool}
set_option maxRecDepth 100000 in
theorem links_of {cs : List Value} {x : DataW H × List MemPlace} (hf : DataW.trod enc Tryz.prog W base spare held fuel 22 cs = some x) :
  ∃ (a : Option Addr) (cap : Nat) (ls : List Lk), cs = [.slice a ls.length cap] ∧ RdL W a ls ∧ ls.length ≤ cap ∧ cap ≤ maxLen ∧ ∀ k ∈ ls, WfZ k.1 ∧ WfZ k.2.1 ∧ WfZ k.2.2 := by
 rcases open_slice Tryz.underlying22 hf with ⟨rfl, _⟩ | ⟨a, l1, c1, m, n, D, Pl, rfl, _, hl, hm, hmm, _, hx⟩
 · exact ⟨none, 0, [], rfl, rdL_nil _ _, by simp, by unfold maxLen; omega, fun k hk => by simp at hk⟩
 ·
  have hle : l1 ≤ m := by rw [hmm]; split <;> omega
  have hp : ∀ i, i < l1 → ∃ k : Lk, (W.cell? (a.add (i * 3)) = some (.int .i64 k.1) ∧ W.cell? ((a.add (i * 3)).add 1) = some (.int .i64 k.2.1) ∧ W.cell? ((a.add (i * 3)).add 2) = some (.int .i64 k.2.2)) ∧ WfZ k.1 ∧ WfZ k.2.1 ∧ WfZ k.2.2 := by
   intro i hi; obtain ⟨cs', h1, h2⟩ := hx i (by omega); rw [rowLink] at h1; obtain ⟨k, rfl, hw⟩ := link_of h2; obtain ⟨_, _, h5⟩ := World.cells?_some h1; exact ⟨k, ⟨by simpa [Addr.add] using h5 0 (by omega), by simpa using h5 1 (by omega), by simpa using h5 2 (by omega)⟩, hw⟩
  obtain ⟨f, hf2⟩ := choose_lt (p := fun i (k : Lk) => (W.cell? (a.add (i * 3)) = some (.int .i64 k.1) ∧ W.cell? ((a.add (i * 3)).add 1) = some (.int .i64 k.2.1) ∧ W.cell? ((a.add (i * 3)).add 2) = some (.int .i64 k.2.2)) ∧ WfZ k.1 ∧ WfZ k.2.1 ∧ WfZ k.2.2) hp
  refine ⟨some a, c1, (List.range l1).map f, by simp, ?_, by simpa using hl, hm, ?_⟩
  ·
   intro i u hu; have hi := (List.getElem?_eq_some_iff.1 hu).1; rw [lkCells_length] at hi; simp only [List.length_map, List.length_range] at hi; have hk : i / 3 < l1 := by omega
   obtain ⟨b, o, sp⟩ := a; obtain ⟨⟨h1, h2, h3⟩, _⟩ := hf2 (i / 3) hk; have hsp : sp = none := by
    obtain ⟨⟨h1, _⟩, _⟩ := hf2 0 (by omega); have h2 : W.cell? ⟨b, o, sp⟩ = some (.int .i64 (f 0).1) := by simpa [Addr.add] using h1
    exact no_far h2
   subst hsp; refine ⟨b, o, rfl, ?_⟩; obtain ⟨g1, g2, g3⟩ := lkCells_get ((List.range l1).map f) (i / 3) (by simpa using hk); simp only [List.getElem_map, List.getElem_range] at g1 g2 g3; rw [Addr.add_lit] at h1 h2 h3; rw [Addr.add_lit] at h2 h3; have hmod : i % 3 = 0 ∨ i % 3 = 1 ∨ i % 3 = 2 := by omega
   rcases hmod with h | h | h
   ·
    rw [show i / 3 * 3 = i by omega] at g1 h1; rw [g1] at hu; cases hu; exact h1
   ·
    rw [show i / 3 * 3 + 1 = i by omega] at g2; rw [g2] at hu; cases hu; rw [show o + i = o + i / 3 * 3 + 1 by omega]; exact h2
   ·
    rw [show i / 3 * 3 + 2 = i by omega] at g3; rw [g3] at hu; cases hu; rw [show o + i = o + i / 3 * 3 + 2 by omega]; exact h3
  ·
   intro k hk; obtain ⟨i, hi, rfl⟩ := List.mem_map.1 hk; exact (hf2 i (List.mem_range.1 hi)).2
structure PartAt (W : World) (u v : Value) (q : Pt × Option Addr × Nat) : Prop where
 kind : u = .int .i64 q.1.1
 links : v = .slice q.2.1 q.1.2.length q.2.2
 rd : RdL W q.2.1 q.1.2
 len : q.1.2.length ≤ q.2.2
 cap : q.2.2 ≤ maxLen
 wf : WfZ q.1.1 ∧ ∀ k ∈ q.1.2, WfZ k.1 ∧ WfZ k.2.1 ∧ WfZ k.2.2
set_option maxRecDepth 100000 in
theorem part_of {cs : List Value} {x : DataW H × List MemPlace} (h : DataW.trod enc Tryz.prog W base spare held fuel 49 cs = some x) :
  ∃ u v q, cs = [u, v] ∧ PartAt W u v q := by
 obtain ⟨xs, n, rfl, rfl, hl, hx, hi⟩ := DataW.trod_struct Tryz.underlying49 h
 rw [rowPart] at hl
 match cs, hl with
 | [u, v], _ =>
  have h0 : DataW.trod enc Tryz.prog W base spare held n 3 [u] = xs[0]? := by have := hi 0 _ rfl; simpa [rowInt, rowLinks] using this
  have h1 : DataW.trod enc Tryz.prog W base spare held n 22 [v] = xs[1]? := by have := hi 1 _ rfl; simpa [rowInt, rowLinks] using this
  simp at hx
  rw [List.getElem?_eq_getElem (by omega)] at h0 h1
  obtain ⟨a, e0, _, w0⟩ := DataW.trod_int Tryz.underlying3 h0
  obtain ⟨b, c, ls, e1, r1, l1, m1, w1⟩ := links_of h1
  simp at e0 e1
  exact ⟨u, v, ((a, ls), b, c), rfl, e0, e1, r1, l1, m1, w0, w1⟩
set_option maxRecDepth 100000 in
theorem open_parts {r : Reach} {b0 : Nat} {v : Value} {d : DataW H} {p : List MemPlace} (hv : Value.okWide Tryz.prog W r b0 24 v) (h : DataW.Trod enc Tryz.prog W base spare held 24 v d p) :
  ∃ (a : Option Addr) (cap : Nat) (Q : List Pt), v = .slice a Q.length cap ∧ RdQ W a Q ∧ Q.length ≤ cap ∧ cap ≤ maxLen ∧ ∀ q ∈ Q, WfZ q.1 ∧ ∀ k ∈ q.2, WfZ k.1 ∧ WfZ k.2.1 ∧ WfZ k.2.2 := by
 obtain ⟨fuel, hf⟩ := h
 obtain ⟨a1, l1, c1, rfl⟩ := okWide_slice Tryz.underlying24 hv
 rcases open_slice Tryz.underlying24 hf with ⟨e, _⟩ | ⟨a, len, cap, m, n, D, Pl, e, _, hl, hm, hmm, _, hx⟩
 ·
  simp [Value.cells] at e
  obtain ⟨rfl, rfl, rfl⟩ := e
  exact ⟨none, 0, [], rfl, fun i q hq => by simp at hq, by simp, by unfold maxLen; omega, fun k hk => by simp at hk⟩
 ·
  simp [Value.cells] at e
  obtain ⟨rfl, rfl, rfl⟩ := e
  have hle : l1 ≤ m := by rw [hmm]; split <;> omega
  have hp : ∀ i, i < l1 → ∃ q : Pt × Option Addr × Nat, ∃ u v, W.cell? (a.add (i * 2)) = some u ∧ W.cell? ((a.add (i * 2)).add 1) = some v ∧ PartAt W u v q := by
   intro i hi; obtain ⟨cs', h1, h2⟩ := hx i (by omega); rw [rowPart] at h1; obtain ⟨u, v, q, rfl, hq⟩ := part_of h2; obtain ⟨_, _, h5⟩ := World.cells?_some h1; exact ⟨q, u, v, by simpa [Addr.add] using h5 0 (by omega), by simpa using h5 1 (by omega), hq⟩
  obtain ⟨f, hf2⟩ := choose_lt (p := fun i (q : Pt × Option Addr × Nat) => ∃ u v, W.cell? (a.add (i * 2)) = some u ∧ W.cell? ((a.add (i * 2)).add 1) = some v ∧ PartAt W u v q) hp
  refine ⟨some a, c1, (List.range l1).map fun i => (f i).1, by simp, ?_, by simpa using hl, hm, ?_⟩
  ·
   intro i q hq; have hi := (List.getElem?_eq_some_iff.1 hq).1; simp only [List.length_map, List.length_range] at hi; simp [hi] at hq; obtain ⟨u, v, c0, c1', hP⟩ := hf2 i hi; obtain ⟨b, o, sp⟩ := a; have hsp : sp = none := by
    obtain ⟨u0, v0, h1, _⟩ := hf2 0 (by omega); have h2 : W.cell? ⟨b, o, sp⟩ = some u0 := by simpa [Addr.add] using h1
    exact no_far h2
   subst hsp; rw [Addr.add_lit] at c0 c1'; rw [Addr.add_lit] at c1'; obtain ⟨q1, q2, q3, q4, q5, _⟩ := hP; rw [q1] at c0; rw [q2] at c1'; rw [← hq]; exact ⟨b, o, _, _, rfl, c0, c1', q3, q4, q5⟩
  ·
   intro q hq; obtain ⟨i, hi, rfl⟩ := List.mem_map.1 hq; obtain ⟨u, v, _, _, hP⟩ := hf2 i (List.mem_range.1 hi); exact hP.wf
end
end Go.Proofs.YtagcbnpahgfgmaaGreat
namespace Go.Proofs.YtagcbnpahgfgmaaGreat
open Go Go.RowKit Go.ChangeShapes Go.WideShapes Go.ChangeAt Go.Joins Go.Deep
theorem besideL_len {Q : List Pt} (i : Int) : (besideL Q i).length ≤ Q.length := by
 unfold besideL
 split
 ·
  rename_i h
  have hR := rightB_iff.1 h.2.2
  have := nodup_len_le (hR.treeG.nd i.toNat) (m := List.range Q.length) fun x hx => List.mem_range.2 (hR.treeG.lt _ _ hx)
  simpa using this
 · simp
theorem centreL_len {Q : List Pt} : (centreL Q).length ≤ Q.length := by
 unfold centreL
 split
 ·
  unfold centreQ
  have := List.length_filter_le (fun j => !peels (besQ Q) Q.length Q.length j) (List.range Q.length)
  simpa using this
 · simp
theorem wholeL_len {Q : List Pt} (hQ : Q.length ≤ 30) (hR : ∀ q ∈ Q, q.2.length ≤ 40) : (wholeL Q).length ≤ 1000000 := by
 unfold wholeL
 split
 ·
  rw [sortL_length]
  have := realQ_len (Q := Q) fun q hq => by have := hR q hq; omega
  have h2 : Q.length * 1000 ≤ 30 * 1000 := Nat.mul_le_mul_right _ hQ
  omega
 · simp
theorem TreeTo.len {ls : List Lk} {T : List Pt} (h : TreeTo kindL ls T) (hR : RightL ls) (hv : ∀ k ∈ ls, k.2.2 = 0) (h3 : 3 ≤ ls.length) : T.length ≤ 1000 := by
 have h1 := (h.qi hR hv h3).len
 have := hR.1
 omega
theorem want_facts {ls : List Lk} (h : wantT ls = true) : RightL ls ∧ (∀ k ∈ ls, k.2.2 = 0) ∧ 3 ≤ ls.length := by
 unfold wantT at h
 simp only [Bool.and_eq_true, Bool.not_eq_true', decide_eq_true_eq] at h
 obtain ⟨h1, h2, h3⟩ := h
 refine ⟨two_right h1, fun k hk => ?_, three_links h1 h3⟩
 have := List.any_eq_false.1 h2 k hk
 simpa using this
set_option maxRecDepth 100000 in
set_option maxHeartbeats 8000000 in
theorem spqrTells_walk (a : Option Addr) (cap : Nat) (ls : List Lk) (ap : Option Addr) (cp : Nat) (Q : List Pt) (at9 : Int) (w : World) (hr : RdL w a ls) (hl : ls.length ≤ cap) (hm : cap ≤ maxLen) (_hw : ∀ k ∈ ls, WfZ k.1 ∧ WfZ k.2.1 ∧ WfZ k.2.2)
  (hq : RdQ w ap Q) (hql : Q.length ≤ cp) (hqm : cp ≤ maxLen) (_hqw : ∀ q ∈ Q, WfZ q.1 ∧ ∀ k ∈ q.2, WfZ k.1 ∧ WfZ k.2.1 ∧ WfZ k.2.2) (ha : (Lit.int .i64 at9).wf = true) :
  Calls Tryz.prog 4 #[.slice a ls.length cap, .slice ap Q.length cp, .int .i64 at9] w (RetT w true) := by
 have hcap : ls.length ≤ 9223372036854775807 := by unfold maxLen at hm; omega
 have hqcap : Q.length ≤ 9223372036854775807 := by unfold maxLen at hqm; omega
 have ha' : WfZ at9 := ha
 clear _hw hl _hqw hql hqm ha
 by_cases h40 : 40 < ls.length
 ·
  have e1 : decide ((40 : Int) < (ls.length : Int)) = true := by simp; omega
  go_enter Tryz.func4, Tryz.ntmps4
  go_wp2_with fail
  refine (awake15_walk _).mono ?_
  rintro e w1 ⟨rfl, hb1⟩
  go_wp2_with fail
  go_ret
  exact ⟨rfl, hb1⟩
 have e1 : decide ((40 : Int) < (ls.length : Int)) = false := by simp; omega
 have e1' : decide (40 < ls.length) = false := by simp; omega
 cases hg : greatB Q with
 | true =>
  have Hg := Lib.hid hg
  clear hg h40
  go_enter Tryz.func4, Tryz.ntmps4
  go_wp2_with fail
  refine (great15_walk ap cp Q _ hq hqcap).mono ?_
  rw [Hg.out]
  rintro e w0 ⟨rfl, rfl⟩
  go_wp2_with fail
  refine (awake15_walk _).mono ?_
  rintro e w1 ⟨rfl, hb1⟩
  go_wp2_with fail
  go_ret
  exact ⟨rfl, hb1⟩
 | false =>
  obtain ⟨hQ1, hQ2⟩ := great_no hg
  have hQ3 : ∀ q ∈ Q, q.2.length ≤ 1000 := fun q h => by have := hQ2 q h; omega
  have hwl := wholeL_len hQ1 hQ2
  have hbl := besideL_len (Q := Q) at9
  have hcl := centreL_len (Q := Q)
  have Hg := Lib.hid hg; have HQ := Lib.hid hQ3; have Hw := Lib.hid hwl; have Hbl := Lib.hid hbl; have Hcl := Lib.hid hcl; have Ha := Lib.hid ha'
  have h40' : ls.length ≤ 40 := by omega
  clear hg hQ2 hQ3 hwl hbl hcl ha' h40
  go_enter Tryz.func4, Tryz.ntmps4
  go_wp2_with fail
  refine (great15_walk ap cp Q _ hq hqcap).mono ?_
  rw [Hg.out]
  rintro e w0 ⟨rfl, rfl⟩
  go_wp2_with fail
  refine (stree_walk a cap ls _ hr hcap).mono ?_
  rintro e w1 ⟨hb1, ⟨hwt, s1, d1, T1, rfl, hq1, ht1, -, -⟩ | ⟨hwt, rfl⟩⟩
  ·
   obtain ⟨hRl, hv0, hl3⟩ := want_facts hwt; have hTl := ht1.len hRl hv0 hl3; have Hwt := Lib.hid hwt; have Ht1 := Lib.hid ht1; have HRl := Lib.hid hRl; have Hv0 := Lib.hid hv0; clear hwt ht1 hRl hv0; go_wp2_with fail; refine (tree15_walk a cap ls _ (hr.below hb1) hcap hm).mono ?_; rintro e w2 ⟨hb2, ⟨-, s2, d2, T2, rfl, hq2, ht2, -, -⟩ | ⟨hno, -⟩⟩; rotate_left
   · rw [Hwt.out] at hno; cases hno
   obtain rfl : T2 = T1 := ht2.one Ht1.out HRl.out Hv0.out hl3; have hB2 := bl_trans hb1 hb2; have hq1 := hq1.below hb2; clear ht2 hb1 hb2; go_wp2_with fail; refine (same15_walk s1 s2 d1 d2 T2 T2 _ hq1 hq2 (by omega) (by omega)).mono ?_; rw [decide_eq_true rfl]; rintro e w3 ⟨rfl, d3, rfl⟩; have hB3 := below_drewN hB2 d3; clear hB2 hq1 hq2; go_wp2_with fail; refine (kind_walk a cap ls _ (hr.below hB3) hcap).mono ?_; rintro e wa ⟨rfl, hba⟩; have hBa := bl_trans hB3 hba; go_wp2_with fail; refine (kind15_walk a cap ls _ (hr.below hBa) hcap).mono ?_; rw [kind_same]; rintro e wb ⟨rfl, hbb⟩; have hBb := bl_trans hBa hbb; obtain ⟨kd, hkd⟩ : ∃ kd, kd = kindL ls := ⟨_, rfl⟩
   rw [← hkd]; have ek : (kd == kd) = true := by simp
   clear hkd hBa hba hbb; go_wp2_with fail; refine (sright_walk ap cp Q _ (hq.below hBb) (by omega)).mono ?_; rintro e wc ⟨rfl, hbc⟩; have hBc := bl_trans hBb hbc; go_wp2_with fail; refine (refRight15_walk ap cp Q _ (hq.below hBc) (by omega) HQ.out).mono ?_; rintro e wd ⟨rfl, hbd⟩; have hBd := bl_trans hBc hbd; obtain ⟨rb, hrb⟩ : ∃ rb, rb = rightB Q := ⟨_, rfl⟩
   rw [← hrb]; have er : (rb == rb) = true := by simp
   clear hrb hBb hBc hbc hbd ek; go_wp2_with fail; refine (whole_walk ap cp Q _ (hq.below hBd) (by omega)).mono ?_; rintro e we ⟨ve, rfl, hoe, -, hbe⟩; obtain ⟨ae, ce, rfl, hre, -, -, -⟩ := hoe.read; have hBe := bl_trans hBd hbe; clear hoe hbe hBd er; go_wp2_with fail; refine (whole15_walk ap cp Q _ (hq.below hBe) (by omega) HQ.out).mono ?_; rintro e wf ⟨vf, rfl, hof, -, hbf⟩; obtain ⟨af, cf, rfl, hrf, -, -, -⟩ := hof.read; have hBf := bl_trans hBe hbf; have hre := hre.below hbf; clear hof hbf hBe; go_wp2_with fail; refine (same_walk ae af ce cf _ _ _ hre hrf (by have := Hw.out; omega) (by have := Hw.out; omega)).mono ?_; rw [decide_eq_true rfl]; rintro e wg ⟨rfl, dg, rfl⟩; have hBg := below_drewN hBf dg; clear hre hrf hBf; go_wp2_with fail; refine (sbeside_walk ap cp Q at9 _ (hq.below hBg) (by omega) Ha.out).mono ?_; rintro e wh ⟨ah, ch, rfl, hch, hbh⟩; have hBh := bl_trans hBg hbh; clear hbh hBg; go_wp2_with fail; refine (beside15_walk ap cp Q at9 _ (hq.below hBh) (by omega) HQ.out Ha.out).mono ?_; rintro e wi ⟨ai, ci, rfl, hci, hbi⟩; have hBi := bl_trans hBh hbi; have hch := hch.below hbi; clear hbi hBh; go_wp2_with fail; refine (sameInts15_walk ah ai ch ci _ _ _ hch hci (by have := Hbl.out; omega) (by have := Hbl.out; omega)).mono ?_; rw [decide_eq_true rfl]; rintro e wj ⟨rfl, dj, rfl⟩; have hBj := below_drewN hBi dj; clear hch hci hBi; go_wp2_with fail; refine (centre_walk ap cp Q _ (hq.below hBj) (by omega)).mono ?_; rintro e wk ⟨ak, ck, rfl, hck, hbk⟩; have hBk := bl_trans hBj hbk
   clear hbk hBj; go_wp2_with fail; refine (centre15_walk ap cp Q _ (hq.below hBk) (by omega) HQ.out).mono ?_; rintro e wl ⟨al, cl, rfl, hcl, hbl⟩; have hBl := bl_trans hBk hbl; have hck := hck.below hbl; clear hbl hBk; go_wp2_with fail; refine (sameInts15_walk ak al ck cl _ _ _ hck hcl (by have := Hcl.out; omega) (by have := Hcl.out; omega)).mono ?_; rw [decide_eq_true rfl]; rintro e wm ⟨rfl, dm, rfl⟩; have hBm := below_drewN hBl dm; clear hck hcl hBl; go_wp2_with fail; refine (awake15_walk _).mono ?_; rintro e wn ⟨rfl, hbn⟩; go_wp2_with fail; go_ret; exact ⟨rfl, bl_trans hBm hbn⟩
  ·
   have Hwt := Lib.hid hwt; clear hwt; go_wp2_with fail; refine (tree15_walk a cap ls _ (hr.below hb1) hcap hm).mono ?_; rintro e w2 ⟨hb2, ⟨hno, -⟩ | ⟨-, rfl⟩⟩
   · rw [Hwt.out] at hno; cases hno
   have hB2 := bl_trans hb1 hb2; clear hb1 hb2; go_wp2_with fail; refine (same15_walk none none 0 0 [] [] _ (fun i q h => by simp at h) (fun i q h => by simp at h) (by simp) (by simp)).mono ?_; rw [decide_eq_true rfl]; rintro e w3 ⟨rfl, d3, rfl⟩; have hB3 := below_drewN hB2 d3; clear hB2; go_wp2_with fail; refine (kind_walk a cap ls _ (hr.below hB3) hcap).mono ?_; rintro e wa ⟨rfl, hba⟩; have hBa := bl_trans hB3 hba; go_wp2_with fail; refine (kind15_walk a cap ls _ (hr.below hBa) hcap).mono ?_; rw [kind_same]; rintro e wb ⟨rfl, hbb⟩; have hBb := bl_trans hBa hbb; obtain ⟨kd, hkd⟩ : ∃ kd, kd = kindL ls := ⟨_, rfl⟩
   rw [← hkd]; have ek : (kd == kd) = true := by simp
   clear hkd hBa hba hbb; go_wp2_with fail; refine (sright_walk ap cp Q _ (hq.below hBb) (by omega)).mono ?_; rintro e wc ⟨rfl, hbc⟩; have hBc := bl_trans hBb hbc; go_wp2_with fail; refine (refRight15_walk ap cp Q _ (hq.below hBc) (by omega) HQ.out).mono ?_; rintro e wd ⟨rfl, hbd⟩; have hBd := bl_trans hBc hbd; obtain ⟨rb, hrb⟩ : ∃ rb, rb = rightB Q := ⟨_, rfl⟩
   rw [← hrb]; have er : (rb == rb) = true := by simp
   clear hrb hBb hBc hbc hbd ek; go_wp2_with fail; refine (whole_walk ap cp Q _ (hq.below hBd) (by omega)).mono ?_; rintro e we ⟨ve, rfl, hoe, -, hbe⟩; obtain ⟨ae, ce, rfl, hre, -, -, -⟩ := hoe.read; have hBe := bl_trans hBd hbe; clear hoe hbe hBd er; go_wp2_with fail; refine (whole15_walk ap cp Q _ (hq.below hBe) (by omega) HQ.out).mono ?_; rintro e wf ⟨vf, rfl, hof, -, hbf⟩; obtain ⟨af, cf, rfl, hrf, -, -, -⟩ := hof.read; have hBf := bl_trans hBe hbf; have hre := hre.below hbf; clear hof hbf hBe; go_wp2_with fail; refine (same_walk ae af ce cf _ _ _ hre hrf (by have := Hw.out; omega) (by have := Hw.out; omega)).mono ?_; rw [decide_eq_true rfl]; rintro e wg ⟨rfl, dg, rfl⟩; have hBg := below_drewN hBf dg; clear hre hrf hBf; go_wp2_with fail; refine (sbeside_walk ap cp Q at9 _ (hq.below hBg) (by omega) Ha.out).mono ?_; rintro e wh ⟨ah, ch, rfl, hch, hbh⟩; have hBh := bl_trans hBg hbh; clear hbh hBg; go_wp2_with fail; refine (beside15_walk ap cp Q at9 _ (hq.below hBh) (by omega) HQ.out Ha.out).mono ?_; rintro e wi ⟨ai, ci, rfl, hci, hbi⟩; have hBi := bl_trans hBh hbi; have hch := hch.below hbi; clear hbi hBh; go_wp2_with fail; refine (sameInts15_walk ah ai ch ci _ _ _ hch hci (by have := Hbl.out; omega) (by have := Hbl.out; omega)).mono ?_; rw [decide_eq_true rfl]; rintro e wj ⟨rfl, dj, rfl⟩; have hBj := below_drewN hBi dj; clear hch hci hBi; go_wp2_with fail; refine (centre_walk ap cp Q _ (hq.below hBj) (by omega)).mono ?_; rintro e wk ⟨ak, ck, rfl, hck, hbk⟩; have hBk := bl_trans hBj hbk
   clear hbk hBj; go_wp2_with fail; refine (centre15_walk ap cp Q _ (hq.below hBk) (by omega) HQ.out).mono ?_; rintro e wl ⟨al, cl, rfl, hcl, hbl⟩; have hBl := bl_trans hBk hbl; have hck := hck.below hbl; clear hbl hBk; go_wp2_with fail; refine (sameInts15_walk ak al ck cl _ _ _ hck hcl (by have := Hcl.out; omega) (by have := Hcl.out; omega)).mono ?_; rw [decide_eq_true rfl]; rintro e wm ⟨rfl, dm, rfl⟩; have hBm := below_drewN hBl dm; clear hck hcl hBl; go_wp2_with fail; refine (awake15_walk _).mono ?_; rintro e wn ⟨rfl, hbn⟩; go_wp2_with fail; go_ret; exact ⟨rfl, bl_trans hBm hbn⟩
namespace spqrTells
open Go Go.RowKit Go.ChangeShapes Go.WideShapes Go.ChangeAt
set_option maxRecDepth 100000 in
theorem lifted (os : Os) (started : os.Started) (H : Type) (enc : TypeId × Value → H) :
  ReturnsInHanded {} Tryz.checked os 4 .any (Rows.spqrTellsSpec.pre6 enc Tryz.prog Tryz.f4 Rows.spqrTellsRow.domain false) (Rows.spqrTellsSpec.post enc Tryz.prog Tryz.f4 false true false false) := by
 refine returnsInHanded_of_change (C := Tryz.checked) rowOwn started (by kernel_rfl) Tryz.func4
  (ChangeSpec.witness6 (enc := enc) (C := Tryz.checked) false ⟨#[], #[.slice none 0 0, .slice none 0 0, .int .i64 0], []⟩ 8 (by kernel_rfl) (by kernel_rfl) (by kernel_rfl) (by kernel_rfl)) ?_
 intro W base args ds gs before hval0 hW hcnd _
 have hval : ∀ (j : Nat) t v, Tryz.f4.params[j]? = some t → args[j]? = some v → Value.okWide Tryz.prog W .any base t v := hval0
 have hW' := hW
 obtain ⟨p, q, hA0, hV, rfl, hfz, hnd⟩ := hW
 have hA : DataW.TrodAll enc Tryz.prog W 0 (fun _ => true) true Tryz.f4.params.toList args.toList ds p := hA0
 rw [Tryz.params4] at hA hval
 obtain ⟨v0, vs0, d0, ds0, p0, q0, hargs, rfl, rfl, h0, r0⟩ := trodAll_cons hA
 obtain ⟨v1, vs1, d1, ds1, p1, q1, rfl, rfl, rfl, h1, r1⟩ := trodAll_cons r0
 obtain ⟨v2, vs2, d2, ds2, p2, q2, rfl, rfl, rfl, h2, r2⟩ := trodAll_cons r1
 obtain ⟨rfl, rfl, rfl⟩ := trodAll_nil r2
 obtain rfl : args = #[v0, v1, v2] := by cases args; simp_all
 obtain ⟨rfl, rfl⟩ := trodVars_none hV
 have k0 := h0
 have lt0 : ∀ x ∈ p0, x.block < W.heap.size := by obtain ⟨m, hm⟩ := k0; exact DataW.trod_lt m _ _ _ hm
 obtain ⟨a0, cap0, es0, rfl, rd0, hl0, hm0, wn0⟩ := open_links (hval 0 22 v0 rfl rfl) h0
 have k1 := h1
 have lt1 : ∀ x ∈ p1, x.block < W.heap.size := by obtain ⟨m, hm⟩ := k1; exact DataW.trod_lt m _ _ _ hm
 obtain ⟨a1, cap1, es1, rfl, rd1, hl1, hm1, wn1⟩ := open_parts (hval 1 24 v1 rfl rfl) h1
 obtain ⟨x2, rfl, rfl, rfl, wn2⟩ := open_int Tryz.underlying3 (hval 2 3 v2 rfl rfl) h2
 clear hA0 hval0
 refine (spqrTells_walk a0 cap0 es0 a1 cap1 es1 x2 W rd0 hl0 hm0 wn0 rd1 hl1 hm1 wn1 wn2).mono fun e W' ⟨he, bel⟩ => ?_
 subst he
 exact ⟨_, rfl, _, _, _, [], _, [], hW', trodAll_mk1 (shut_bool Tryz.underlying4 _), (trodAll_cons_mk (Below.trod rowLaid (by kernel_rfl) (of_decide_eq_true (by kernel_rfl)) k0 bel lt0) (trodAll_cons_mk (Below.trod rowLaid (by kernel_rfl) (of_decide_eq_true (by kernel_rfl)) k1 bel lt1) (trodAll_cons_mk (shut_int Tryz.underlying3 wn2) trodAll_mk0))), rfl, bel.frame _, fun h => by cases h⟩
theorem over : Rows.spqrTellsRow.holds Tryz.pinned (OpenSpec.ofChange Rows.spqrTellsSpec) :=
 OpenClaim.holds_of_wide 4 Tryz.f4 rfl rfl rfl rfl rfl rfl rfl ⟨rfl, rfl, rfl, rfl, rfl⟩ rfl rfl rfl rfl rfl (by kernel_rfl) Tryz.func4 (by kernel_rfl)
  (of_decide_eq_true (by kernel_rfl)) (by unfold Func.isWrapper; first | (rw [if_pos (by decide +kernel)]; kernel_rfl) | (rw [if_neg (by decide +kernel)]; exact ⟨rfl, rfl⟩))
  (fun os started H enc _ => lifted os started H enc)
theorem proved : Rows.SpqrTellsSaid := over
end spqrTells
end Go.Proofs.YtagcbnpahgfgmaaGreat
