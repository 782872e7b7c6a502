/- Facts that the claim rests on, part 13. -/
import Derived.Test.YtagcbnpahgfgmaaGreatK11
namespace Go.Proofs.YtagcbnpahgfgmaaGreat
open Go Go.RowKit Go.Maps
def tstB (e f : Lk) : Bool := decide (0 < e.2.2) && decide (e.2.2 = f.2.2)
def hitA (ls ms : List Lk) (a : Nat) : Bool := (ls.take a).any fun e => ms.any fun f => tstB e f
def hitB (e : Lk) (ms : List Lk) (b : Nat) : Bool := (ms.take b).any fun f => tstB e f
theorem hitA_zero (ls ms : List Lk) : hitA ls ms 0 = false := by simp [hitA]
theorem hitB_zero (e : Lk) (ms : List Lk) : hitB e ms 0 = false := by simp [hitB]
theorem hitA_succ {ls ms : List Lk} {a : Nat} (h : a < ls.length) : hitA ls ms (a + 1) = (hitA ls ms a || hitB ls[a] ms ms.length) := by
 unfold hitA hitB
 rw [List.take_succ_eq_append_getElem h, List.any_append, List.take_length]
 simp
theorem hitB_succ {e : Lk} {ms : List Lk} {b : Nat} (h : b < ms.length) : hitB e ms (b + 1) = (hitB e ms b || tstB e ms[b]) := by
 unfold hitB
 rw [List.take_succ_eq_append_getElem h, List.any_append]
 simp
theorem hit_adj {Q : List Pt} (hR : RightQ Q) (i k : Nat) : (decide (i ≠ k) && hitA (lnQ Q i) (lnQ Q k) (lnQ Q i).length) = adjQ Q i k := by
 rw [Bool.eq_iff_iff, adjQ_iff]
 unfold hitA tstB
 rw [List.take_length]
 simp only [Bool.and_eq_true, decide_eq_true_eq, List.any_eq_true]
 refine and_congr_right fun hne => ?_
 constructor
 ·
  rintro ⟨e, he, f, hf, h1, h2⟩
  exact ⟨e, f, he, hf, by omega, h2.symm⟩
 ·
  rintro ⟨e, f, he, hf, h1, h2⟩
  refine ⟨e, he, f, hf, ?_, h2.symm⟩
  have hl := lnQ_mem he
  rw [lnQ_at hl] at he
  have := (hR.right (List.getElem_mem hl)).1.2.1 e he
  unfold OkL at this
  omega
theorem nb_bes {Q : List Pt} (hR : RightQ Q) (i : Nat) : nbQ Q i = besQ Q i := by
 have h1 : (nbQ Q i).Pairwise (· < ·) := List.pairwise_lt_range.sublist List.filter_sublist
 have h2 : (besQ Q i).Pairwise (· < ·) := by
  have a1 : (besQ Q i).Pairwise (· ≤ ·) := srtN_sorted _
  have a2 : (besQ Q i).Pairwise (· ≠ ·) := hR.bes_nodup i
  exact (a1.and a2).imp fun ⟨x, y⟩ => by omega
 have hp : (nbQ Q i).Perm (besQ Q i) := (List.perm_ext_iff_of_nodup (h1.imp fun h => by omega) (h2.imp fun h => by omega)).2 fun j => by
  rw [mem_nbQ, mem_besQ hR.bes]
 exact hp.eq_of_pairwise (fun a b _ _ h k => by omega) h1 h2
def nbTo (Q : List Pt) (i k : Nat) : List Nat := (List.range k).filter (adjQ Q i)
theorem nbTo_succ (Q : List Pt) (i k : Nat) : nbTo Q i (k + 1) = nbTo Q i k ++ if adjQ Q i k then [k] else [] := by
 unfold nbTo
 rw [List.range_succ, List.filter_append]
 congr 1
 cases h : adjQ Q i k <;> simp [h]
theorem nbTo_le (Q : List Pt) (i k : Nat) : (nbTo Q i k).length ≤ k := by
 have := List.length_filter_le (adjQ Q i) (List.range k)
 simpa [nbTo] using this
set_option maxRecDepth 100000 in
set_option maxHeartbeats 8000000 in
theorem beside15_walk (a : Option Addr) (cap : Nat) (Q : List Pt) (iz : Int) (w : World) (hr : RdQ w a Q) (hQ : Q.length ≤ 90) (hR : ∀ q ∈ Q, q.2.length ≤ 1000) (hi : WfZ iz) :
  Calls Tryz.prog 27 #[.slice a Q.length cap, .int .i64 iz] w (RetIs w (besideL Q iz)) := by
 by_cases h1 : iz < 0
 ·
  have e1 : decide (iz < 0) = true := by simpa using h1
  have hb : besideL Q iz = [] := by unfold besideL; rw [if_neg (by omega)]
  have Hb := Lib.hid hb
  clear hb h1
  go_enter Tryz.func27, Tryz.ntmps27
  go_wp2_with fail
  go_ret
  rw [Hb.out]
  exact ⟨none, 0, rfl, fun i u hu => by simp at hu, bl_refl w⟩
 have e1 : decide (iz < 0) = false := by simpa using h1
 by_cases h2 : iz < Q.length
 ·
  obtain ⟨i, rfl⟩ : ∃ i : Nat, iz = i := ⟨iz.toNat, by omega⟩
  have hil : i < Q.length := by omega
  have i1 : (i : Int) < (Q.length : Int) := by omega
  have e2 : decide ((Q.length : Int) ≤ (i : Int)) = false := by simp; omega
  have e3 : decide (Q.length ≤ i) = false := by simp; omega
  cases hb : rightB Q with
  | false =>
   have hbl : besideL Q (i : Int) = [] := by unfold besideL; rw [if_neg (by rw [hb]; simp)]
   have Hb := Lib.hid hb; have Hbl := Lib.hid hbl; clear hb hbl h1 h2; go_enter Tryz.func27, Tryz.ntmps27; go_wp2_with fail; refine (refRight15_walk a cap Q _ hr hQ hR).mono ?_; rw [Hb.out]; rintro e w1 ⟨rfl, hb1⟩; go_wp2_with fail; go_ret; rw [Hbl.out]; exact ⟨none, 0, rfl, fun i u hu => by simp at hu, hb1⟩
  | true =>
   have hRR := rightB_iff.1 hb; have hbl : besideL Q (i : Int) = nbTo Q i Q.length := by unfold besideL; rw [if_pos ⟨by omega, by omega, hb⟩, Int.toNat_natCast, ← nb_bes hRR]; rfl
   have hadj := fun k => hit_adj hRR i k; have hqi : Q[i]? = some Q[i] := List.getElem?_eq_getElem hil; have hln := lnQ_at hil; have Hb := Lib.hid hb; have Hbl := Lib.hid hbl; have Hadj := Lib.hid hadj; obtain ⟨bp, op, au, cu, rfl, -, p1w, hrq, hcu, hcm⟩ := hr i _ hqi; obtain ⟨⟨kd, ls⟩, hq⟩ : ∃ q : Pt, Q[i] = q := ⟨_, rfl⟩
   have hRq := hR _ (List.getElem_mem hil); rw [hq] at p1w hrq hcu hln hRq; simp only at p1w hrq hcu hln hRq; have Hln := Lib.hid hln; clear hb hbl hadj hRR hqi hq hln h1 h2; go_enter Tryz.func27, Tryz.ntmps27; go_wp2_with fail; refine (refRight15_walk _ cap Q _ hr hQ hR).mono ?_; rw [Hb.out]; rintro e w1 ⟨rfl, hb1⟩; have ho0 : Own w1 (.slice none 0 0) 3 1 (nbTo Q i 0).length ((nbTo Q i 0).map vN) := own_nil _ _ _; go_wp2_with fail; go_loopg [5, 6] Q.length (fun r ov kv wj => ∃ k : Nat, k + r = Q.length ∧ kv = .int .i64 k ∧ Own wj ov 3 1 (nbTo Q i k).length ((nbTo Q i k).map vN) ∧ (∀ g, ov.ownBlock = some g → w.heap.size ≤ g) ∧ Below w.heap.size w wj)
   case atStart => exact ⟨0, by omega, rfl, ho0, fun g hg => by simp [Value.ownBlock] at hg, hb1⟩
   case round =>
    as_aux_lemma =>
     clear ho0 hb1; obtain ⟨k, hk, rfl, hown, hyoung, hB⟩ := hrel; have Hk := Lib.hid hk; have Hyoung := Lib.hid hyoung; clear hyoung; by_cases hkl : k < Q.length
     ·
      have hqk : Q[k]? = some Q[k] := List.getElem?_eq_getElem hkl; have hlk := lnQ_at hkl; obtain ⟨b2, o2, am, cm, hbo, -, r1w, hrm, hcu2, hcm2⟩ := hr k _ hqk; cases hbo; obtain ⟨⟨ke, ms⟩, hq⟩ : ∃ q : Pt, Q[k] = q := ⟨_, rfl⟩
      have hRm := hR _ (List.getElem_mem hkl); rw [hq] at r1w hrm hcu2 hlk hRm; simp only at r1w hrm hcu2 hlk hRm; have k1 : (k : Int) < (Q.length : Int) := by omega
      have hres : nbTo Q i (k + 1) = nbTo Q i k ++ if (decide (i ≠ k) && hitA ls ms ls.length) then [k] else [] := by
       rw [nbTo_succ, ← Hadj.out k, Hln.out, hlk]
      have hle := nbTo_le Q i k; have Hres := Lib.hid hres; obtain ⟨gko, hgko⟩ : ∃ g, g = gk := ⟨_, rfl⟩
      have Hgko := Lib.hid hgko; obtain ⟨ne, hne⟩ : ∃ ne, ne = decide (i ≠ k) := ⟨_, rfl⟩
      have hne2 : ((i : Int) != (k : Int)) = ne := by
       rw [hne, Bool.eq_iff_iff]; simp; omega
      rw [← hne] at hres; have Hne := Lib.hid hne; have Hres := Lib.hid hres; obtain ⟨L, hL⟩ : ∃ L, L = nbTo Q i k := ⟨_, rfl⟩
      rw [← hL] at hown hle Hres; have HL := Lib.hid hL; clear hk hqk hlk hq hres hgko hL hne; have p1 := keep_cell hB p1w; go_upto_region 9 with (fail)
      go_loopg [7, 8] ls.length (fun r bv av wj => ∃ a : Nat, a + r = ls.length ∧ av = .int .i64 a ∧ bv = .bool (ne && hitA ls ms a) ∧ Own wj u5 3 1 L.length (L.map vN) ∧ Below w.heap.size w wj)
      case atStart => exact ⟨0, by omega, rfl, by rw [hitA_zero, Bool.and_false], hown, hB⟩
      case round =>
       as_aux_lemma =>
        clear hown hB p1; obtain ⟨a, ha, rfl, rfl, hown, hB⟩ := hrel; have Ha := Lib.hid ha; have p1 := keep_cell hB p1w; by_cases hal : a < ls.length
        ·
         have a1 : (a : Int) < (ls.length : Int) := by omega
         have hsa := hitA_succ (ms := ms) hal; obtain ⟨bl, ol, rfl, l0, l1, l2w⟩ := hrq.at a hal; obtain ⟨⟨x, y, z⟩, hxe⟩ : ∃ u : Lk, ls[a] = u := ⟨_, rfl⟩
         rw [hxe] at l2w hsa; simp only at l2w; obtain ⟨HA, hHA⟩ : ∃ H, H = hitA ls ms a := ⟨_, rfl⟩
         rw [← hHA] at hsa ⊢; have Hsa := Lib.hid hsa; obtain ⟨gka, hgka⟩ : ∃ g, g = gk := ⟨_, rfl⟩
         have Hgka := Lib.hid hgka; have r1 := keep_cell hB r1w; clear ha l0 l1 hxe hsa hHA hgka; go_upto_region 12 with (fail)
         go_loopg [7, 9] ms.length (fun r bv cv wj => ∃ b : Nat, b + r = ms.length ∧ cv = .int .i64 b ∧ bv = .bool (ne && (HA || hitB (x, y, z) ms b)) ∧ Own wj u5 3 1 L.length (L.map vN) ∧ Below w.heap.size w wj)
         case atStart => exact ⟨0, by omega, rfl, by rw [hitB_zero, Bool.or_false], hown, hB⟩
         case round =>
          as_aux_lemma =>
           clear hown hB p1 r1; obtain ⟨b, hb, rfl, rfl, hown, hB⟩ := hrel; have Hb := Lib.hid hb; have p1 := keep_cell hB p1w; have r1 := keep_cell hB r1w; have l2 := keep_cell hB l2w; by_cases hbl : b < ms.length
           ·
            have b1 : (b : Int) < (ms.length : Int) := by omega
            have hsb := hitB_succ (e := (x, y, z)) hbl; obtain ⟨bm, om, rfl, m0, m1, m2w⟩ := hrm.at b hbl; have m2 := keep_cell hB m2w; obtain ⟨⟨x2, y2, z2⟩, hye⟩ : ∃ u : Lk, ms[b] = u := ⟨_, rfl⟩
            rw [hye] at m2 hsb; simp only at m2; obtain ⟨HB, hHB⟩ : ∃ H, H = hitB (x, y, z) ms b := ⟨_, rfl⟩
            rw [← hHB] at hsb ⊢; have Hsb := Lib.hid hsb; clear hb m0 m1 hye hsb hHB m2w; obtain ⟨old, hold⟩ : ∃ o, o = (ne && (HA || HB)) := ⟨_, rfl⟩
            rw [← hold]; have Hold := Lib.hid hold; clear hold; cases hn : ne with
            | false =>
             have hfin : (ne && (HA || (HB || tstB (x, y, z) (x2, y2, z2)))) = old := by rw [Hold.out, hn]; rfl
             have Hfin := Lib.hid hfin; have Hn := Lib.hid hn; rw [hn] at hne2; clear hn hfin; go_wp2_with fail; go_quiet (fail)
             go_wp2_with fail; go_roundg (gk - 1)
             case measure => have := Hb.out; omega
             case rel => exact ⟨b + 1, by have := Hb.out; omega, by go_num, by rw [Hsb.out, Hfin.out], hown.below fun g hg => rfl, below_drewN hB _⟩
            | true =>
             rw [hn] at hne2; by_cases hz : 0 < z
             ·
              have ez : decide (0 < z) = true := by simpa using hz
              by_cases hzz : z = z2
              ·
               have ezz : (z == z2) = true := by simpa using hzz
               have hfin : (ne && (HA || (HB || tstB (x, y, z) (x2, y2, z2)))) = true := by
                rw [hn]; unfold tstB; simp only; rw [decide_eq_true hz, decide_eq_true hzz]; simp
               have Hfin := Lib.hid hfin; have Hn := Lib.hid hn; clear hn hfin hzz hz; go_wp2_with fail; go_quiet (fail)
               go_wp2_with fail; go_roundg (gk - 1)
               case measure => have := Hb.out; omega
               case rel => exact ⟨b + 1, by have := Hb.out; omega, by go_num, by rw [Hsb.out, Hfin.out], hown.below fun g hg => rfl, below_drewN hB _⟩
              ·
               have ezz : (z == z2) = false := by simpa using hzz
               have hfin : (ne && (HA || (HB || tstB (x, y, z) (x2, y2, z2)))) = old := by
                rw [Hold.out, hn]; unfold tstB; simp [hzz]
               have Hfin := Lib.hid hfin; have Hn := Lib.hid hn; clear hn hfin hzz hz; go_wp2_with fail; go_quiet (fail)
               go_wp2_with fail; go_roundg (gk - 1)
               case measure => have := Hb.out; omega
               case rel => exact ⟨b + 1, by have := Hb.out; omega, by go_num, by rw [Hsb.out, Hfin.out], hown.below fun g hg => rfl, below_drewN hB _⟩
             ·
              have ez : decide (0 < z) = false := by simpa using hz
              have hfin : (ne && (HA || (HB || tstB (x, y, z) (x2, y2, z2)))) = old := by
               rw [Hold.out, hn]; unfold tstB; simp [hz]
              have Hfin := Lib.hid hfin; have Hn := Lib.hid hn; clear hn hfin hz; go_wp2_with fail; go_quiet (fail)
              go_wp2_with fail; go_roundg (gk - 1)
              case measure => have := Hb.out; omega
              case rel => exact ⟨b + 1, by have := Hb.out; omega, by go_num, by rw [Hsb.out, Hfin.out], hown.below fun g hg => rfl, below_drewN hB _⟩
           ·
            have hbn : b = ms.length := by omega
            subst hbn; rw [← Hsa.out]; clear hb; go_wp2_with fail; go_roundg (gka - 1)
            case measure => have := Ha.out; have := Hgka.out; omega
            case rel => exact ⟨a + 1, by have := Ha.out; have := Hgka.out; omega, by go_num, rfl, hown, hB⟩
        ·
         have han : a = ls.length := by omega
         subst han; have hres := Hres.out; obtain ⟨t, ht⟩ : ∃ t, t = (ne && hitA ls ms ls.length) := ⟨_, rfl⟩
         rw [← ht] at hres ⊢; clear ha; cases t with
         | true =>
          have Hres2 := Lib.hid hres; have hA := hown.alloc (.cells #[.int .i64 (k : Nat)] 3); clear hres ht; go_wp2_with (at_builtin; refine wpList_append_row _ rfl (.tmp 86) (.tmp 88) 33 rfl 3 (.int .i64 0) 1 8 Tryz.underlying33 int_info rfl u5 L.length _ rfl hA ⟨wr.heap.size, 0, none⟩ 1 1 [.int .i64 (k : Nat)] rfl rfl (one_new (cell_new1 rfl)) (one_ok _ _) (by omega) (by unfold maxLen; omega) (by omega) ?_; intro g5 c5 w5 hr5 hc5 hg5 hor5); have hz := hB.size; have hB5 : Below w.heap.size w w5 := (bl_trans hB (bl_alloc wr (.cells #[.int .i64 (k : Nat)] 3))).grown hg5 (by simp; omega) (fun j hj => Hyoung.out j hj); have hy5 : w.heap.size ≤ g5 := by
           rcases hor5 with h | h
           · exact Hyoung.out g5 h
           · simp at h; omega
          have hown5 : Own w5 (.slice (some ⟨g5, 0, none⟩) (L.length + 1) c5) 3 1 (nbTo Q i (k + 1)).length ((nbTo Q i (k + 1)).map vN) := by
           rw [Hres2.out]; simp only [if_true]; have h1 := hr5.own1; have e1 : L.map vN ++ [Value.int .i64 (k : Int)] = (L ++ [k]).map vN := by rw [List.map_append]; rfl
           rw [e1] at h1; simpa using h1
          clear hr5 hg5 hor5 hown hA hB; go_wp2_with fail; go_roundg (gko - 1)
          case measure => have := Hk.out; have := Hgko.out; omega
          case rel => exact ⟨k + 1, by have := Hk.out; have := Hgko.out; omega, by go_num, hown5, fun j hj => by cases hj; exact hy5, hB5⟩
         | false =>
          have hown5 : Own wr u5 3 1 (nbTo Q i (k + 1)).length ((nbTo Q i (k + 1)).map vN) := by
           rw [hres]; simp only [Bool.false_eq_true, if_false, List.append_nil]; exact hown
          clear hres ht hown; go_wp2_with fail; go_roundg (gko - 1)
          case measure => have := Hk.out; have := Hgko.out; omega
          case rel => exact ⟨k + 1, by have := Hk.out; have := Hgko.out; omega, by go_num, hown5, Hyoung.out, hB⟩
     ·
      have hkn : k = Q.length := by omega
      subst hkn; obtain ⟨L, hL⟩ : ∃ L, L = nbTo Q i Q.length := ⟨_, rfl⟩
      rw [← hL] at hown; have hbl := Hbl.out; rw [← hL] at hbl; have Hbl2 := Lib.hid hbl; obtain ⟨a2, c2, hv, hr2⟩ : ∃ a2 c2, u5 = .slice a2 L.length c2 ∧ CellsAt wr a2 (L.map vN) := by
       rcases hown.2 with ⟨h, h0⟩ | ⟨g, cg, h, hcg, hrow⟩
       ·
        have h0' := List.eq_nil_of_length_eq_zero h0; rw [h0']; exact ⟨none, 0, h, fun i u hu => by simp at hu⟩
       · exact ⟨_, _, h, hrow.at_⟩
      subst hv; clear hk Hk hown hL hbl; go_wp2_with fail; go_ret; rw [Hbl2.out]; exact ⟨a2, c2, rfl, hr2, hB⟩
 ·
  have e2 : decide ((Q.length : Int) ≤ iz) = true := by simp; omega
  have hb : besideL Q iz = [] := by unfold besideL; rw [if_neg (by omega)]
  have Hb := Lib.hid hb
  clear hb h1 h2
  go_enter Tryz.func27, Tryz.ntmps27
  go_wp2_with fail
  go_ret
  rw [Hb.out]
  exact ⟨none, 0, rfl, fun i u hu => by simp at hu, bl_refl w⟩
end Go.Proofs.YtagcbnpahgfgmaaGreat
namespace Go.Proofs.YtagcbnpahgfgmaaGreat
open Go Go.RowKit
noncomputable def centreL (Q : List Pt) : List Nat := if rightB Q then centreQ Q else []
def vI : Int → Value := fun z => .int .i64 z
def upF (bs : Nat → List Nat) (i : Nat) : Nat → Int := fun j => if j < i then ((bs j).length : Int) else 0
theorem upF_next (bs : Nat → List Nat) (i : Nat) : updC (upF bs i) i ((bs i).length : Int) = upF bs (i + 1) := by
 funext x
 unfold updC upF
 by_cases e : x = i
 · subst e; simp
 ·
  rw [if_neg e]
  by_cases h : x < i
  · rw [if_pos h, if_pos (by omega)]
  · rw [if_neg h, if_neg (by omega)]
def lvF (bs : Nat → List Nat) (i : Nat) : List Nat := (List.range i).filter fun j => decide ((bs j).length < 2)
theorem lvF_next (bs : Nat → List Nat) (i : Nat) : lvF bs (i + 1) = lvF bs i ++ if (bs i).length < 2 then [i] else [] := by
 unfold lvF
 rw [List.range_succ, List.filter_append]
 congr 1
 by_cases h : (bs i).length < 2 <;> simp [h]
theorem lvF_le (bs : Nat → List Nat) (i : Nat) : (lvF bs i).length ≤ i := by
 unfold lvF
 have := List.length_filter_le (fun j => decide ((bs j).length < 2)) (List.range i)
 simpa using this
set_option maxRecDepth 100000 in
set_option maxHeartbeats 8000000 in
theorem centre_walk (a : Option Addr) (cap : Nat) (Q : List Pt) (w : World) (hr : RdQ w a Q) (hQ : Q.length ≤ 1000) :
  Calls Tryz.prog 28 #[.slice a Q.length cap] w (RetIs w (centreL Q)) := by
 go_enter Tryz.func28, Tryz.ntmps28
 go_wp2_with fail
 refine (tree_walk a cap Q _ hr hQ).mono ?_
 rintro e w2 ⟨hb2, ⟨hR, G, rfl, hG⟩ | ⟨hR, v, rfl⟩⟩
 ·
  have hbl : centreL Q = centreQ Q := by unfold centreL; rw [rightB_iff.2 hR]; rfl
  have ht := hR.treeG
  have hlen := fun k => besQ_len hQ (fun q hq => (hR.right hq).1.1) k
  have hbl2 : ∀ k, (besQ Q k).length ≤ Q.length := fun k => by
   have := nodup_len_le (ht.nd k) (m := List.range Q.length) fun x hx => List.mem_range.2 (ht.lt _ _ hx); simpa using this
  have hn0 : 0 < Q.length := List.length_pos_iff.2 hR.ne
  have Hbl := Lib.hid hbl; have Ht := Lib.hid ht; have Hbl2 := Lib.hid hbl2
  have hB2 : Below w.heap.size w w2 := hb2
  obtain ⟨n, hn⟩ : ∃ n, n = Q.length := ⟨_, rfl⟩
  clear hbl ht hlen hbl2 hR hr hb2
  have hwn := hB2.size
  have hmk := run_make_row' (P := Tryz.prog) 33 3 (.int .i64 0) 8 Tryz.underlying33 int_info rfl .i64 .i64 Q.length (by omega) (by omega)
  have hrc0 : Row (w2.alloc (.cells (madeCells #[.int .i64 0] Q.length) 3)) w2.heap.size 3 1 Q.length (List.replicate Q.length (.int .i64 0)) := row_made w2 (.int .i64 0) Q.length 3 (by unfold maxLen; omega)
  have hbA := bl_alloc w2 (.cells (madeCells #[.int .i64 0] Q.length) 3)
  go_upto_region 5 with (fail)
  clear hmk
  generalize w2.alloc (.cells (madeCells #[.int .i64 0] Q.length) 3) = wM at hrc0 hbA ⊢
  have hrc : Row wM w2.heap.size 3 1 Q.length ((cntV Q.length (upF (besQ Q) 0)).map vI) := by
   have e : cntV Q.length (upF (besQ Q) 0) = cntV Q.length fun _ => 0 := by
    unfold cntV upF; refine List.map_congr_left fun j _ => ?_; rw [if_neg (by omega)]
   rw [e, ← cntV_zero, List.map_replicate]; exact hrc0
  clear hrc0
  have hl0 : Own wM (.slice none 0 0) 3 1 0 [] := own_nil _ _ _
  go_upto_region 7 with (fail)
  go_loopg [6, 32] Q.length (fun r lv iv wj => ∃ i : Nat, i + r = Q.length ∧ iv = .int .i64 i ∧ Row wj w2.heap.size 3 1 Q.length ((cntV Q.length (upF (besQ Q) i)).map vI) ∧ Own wj lv 3 1 (lvF (besQ Q) i).length ((lvF (besQ Q) i).map vN) ∧ (∀ g, lv.ownBlock = some g → w2.heap.size < g) ∧ Below w2.heap.size w2 wj)
  case atStart => exact ⟨0, by omega, rfl, hrc, hl0, fun g hg => by simp [Value.ownBlock] at hg, hbA⟩
  case round =>
   clear hrc hl0 hbA; obtain ⟨i, hi, rfl, hrow, hown, hyoung, hB⟩ := hrel; have Hi := Lib.hid hi; by_cases hil : i < Q.length
   ·
    clear hi; obtain ⟨ab, cb, cG2, hbs⟩ := hG i hil; have cG := keep_cell hB cG2; have hbl := Hbl2.out i; have i1 : (i : Int) < (Q.length : Int) := by omega
    have f0 := hrow.frozen i; have c0 : wr.cell? ⟨w2.heap.size, i, none⟩ = some (vI (upF (besQ Q) i i)) := by
     rw [hrow.cell? i (by rw [List.length_map, cntV_len]; exact hil), List.getElem?_map, cntV_get hil]; rfl
    have hrow1 : Row (wr.setCell ⟨w2.heap.size, i, none⟩ (.int .i64 ((besQ Q i).length : Nat))) w2.heap.size 3 1 Q.length ((cntV Q.length (upF (besQ Q) (i + 1))).map vI) := by
     have := hrow.set i (vI ((besQ Q i).length : Nat)); rw [← List.map_set, cntV_set, upF_next] at this; exact this
    have hown1 : Own (wr.setCell ⟨w2.heap.size, i, none⟩ (.int .i64 ((besQ Q i).length : Nat))) u6 3 1 (lvF (besQ Q) i).length ((lvF (besQ Q) i).map vN) := hown.below fun g hg => Below.heap_setCell _ _ _ _ (by have := hyoung g hg; simp only; omega); have hB1 : Below w2.heap.size w2 (wr.setCell ⟨w2.heap.size, i, none⟩ (.int .i64 ((besQ Q i).length : Nat))) := hB.setCell (Nat.le_refl _) _; have Hyoung := Lib.hid hyoung; clear hyoung; go_upto_region 10 with (fail)
    clear f0 c0 cG cG2 hbs hrow hown hB; generalize wr.setCell ⟨w2.heap.size, i, none⟩ (.int .i64 ((besQ Q i).length : Nat)) = wS at hrow1 hown1 hB1 ⊢; have hlf := lvF_next (besQ Q) i; have Hlf := Lib.hid hlf; by_cases h2 : (besQ Q i).length < 2
    ·
     have e2 : decide (((besQ Q i).length : Int) < 2) = true := by simp; omega
     rw [if_pos h2] at hlf; have hle := lvF_le (besQ Q) i; have Hlf := Lib.hid hlf; clear h2 hlf; obtain ⟨L, hL⟩ : ∃ L, L = lvF (besQ Q) i := ⟨_, rfl⟩
     rw [← hL] at hown1 hle Hlf; have hAl := hown1.alloc (.cells #[.int .i64 (i : Nat)] 3); clear hL; go_wp2_with (at_builtin; refine wpList_append_row _ rfl (.tmp 45) (.tmp 47) 33 rfl 3 (.int .i64 0) 1 8 Tryz.underlying33 int_info rfl u6 L.length _ rfl hAl ⟨wS.heap.size, 0, none⟩ 1 1 [.int .i64 (i : Nat)] rfl rfl (one_new (cell_new1 rfl)) (one_ok _ _) (by omega) (by unfold maxLen; omega) (by omega) ?_; intro g5 c5 w5 hr5 hc5 hg5 hor5); have hgS := hrow1.lt; have hyg : w2.heap.size < g5 := by
      rcases hor5 with h | h
      · exact Hyoung.out g5 h
      · simp at h; omega
     have hrow2 := (hrow1.alloc (.cells #[.int .i64 (i : Nat)] 3)).grown hg5 (fun e => by have := Hyoung.out _ e; omega); have hown2 : Own w5 (.slice (some ⟨g5, 0, none⟩) (L.length + 1) c5) 3 1 (lvF (besQ Q) (i + 1)).length ((lvF (besQ Q) (i + 1)).map vN) := by
      rw [Hlf.out]; have h1 := hr5.own1; have e1 : L.map vN ++ [Value.int .i64 (i : Int)] = (L ++ [i]).map vN := by rw [List.map_append]; rfl
      rw [e1] at h1; simpa using h1
     have hB5 : Below w2.heap.size w2 w5 := (bl_trans hB1 (bl_alloc wS (.cells #[.int .i64 (i : Nat)] 3))).grown hg5 (by have := hB1.size; simp; omega) (fun k hk => by have := Hyoung.out k hk; omega); clear hr5 hg5 hor5 hrow1 hown1 hB1 hAl; go_wp2_with fail; go_roundg (gk - 1)
     case measure => have := Hi.out; omega
     case rel => exact ⟨i + 1, by have := Hi.out; omega, by go_num, hrow2, hown2, fun k hk => by cases hk; exact hyg, hB5⟩
    ·
     have e2 : decide (((besQ Q i).length : Int) < 2) = false := by simp; omega
     rw [if_neg h2, List.append_nil] at hlf; have Hlf := Lib.hid hlf; clear h2 hlf; go_wp2_with fail; go_roundg (gk - 1)
     case measure => have := Hi.out; omega
     case rel => exact ⟨i + 1, by have := Hi.out; omega, by go_num, hrow1, by rw [Hlf.out]; exact hown1, Hyoung.out, hB1⟩
   ·
    have hin : i = Q.length := by omega
    subst hin; obtain ⟨L0, hL0⟩ : ∃ L0, L0 = lvF (besQ Q) Q.length := ⟨_, rfl⟩
    rw [← hL0] at hown; have hlv : LvI (besQ Q) Q.length (peels (besQ Q) Q.length 0) L0 := by rw [hL0]; exact LvI.start Ht.out
    have hcn : cntV Q.length (upF (besQ Q) Q.length) = cntV Q.length (fun j => (degG (besQ Q) (peels (besQ Q) Q.length 0) j : Int)) := by
     unfold cntV; refine List.map_congr_left fun j hj => ?_; have := List.mem_range.1 hj; unfold upF; rw [if_pos this]; have h0 := deg_none (besQ Q) j; show ((besQ Q j).length : Int) = ((degG (besQ Q) (fun _ => false) j : Nat) : Int)
     rw [h0]
    rw [hcn] at hrow; have hlf : leftN Q.length (peels (besQ Q) Q.length 0) = Q.length := leftN_none _; have Hlv := Lib.hid hlv; have Hlf := Lib.hid hlf; have Hyoung := Lib.hid hyoung; clear hi Hi hL0 hlv hcn hlf hyoung; have hmk := run_make_row' (P := Tryz.prog) 78 4 (.bool false) 1 Tryz.underlying78 bool_info rfl .i64 .i64 Q.length (by omega) (by omega); have hrt0 : Row (wr.alloc (.cells (madeCells #[.bool false] Q.length) 4)) wr.heap.size 4 1 Q.length (List.replicate Q.length (.bool false)) := row_made wr (.bool false) Q.length 4 (by unfold maxLen; omega); have hrowA := hrow.alloc (.cells (madeCells #[.bool false] Q.length) 4); have hownA := hown.alloc (.cells (madeCells #[.bool false] Q.length) 4); have hBA := bl_trans hB (bl_alloc wr (.cells (madeCells #[.bool false] Q.length) 4)); obtain ⟨gt, hgt⟩ : ∃ gt, gt = wr.heap.size := ⟨_, rfl⟩
    have hgct : w2.heap.size < gt := by rw [hgt]; exact hrow.lt
    have hylt : ∀ g, u6.ownBlock = some g → g < gt := fun g hg => by rw [hgt]; exact Own.lt hown hg
    go_upto_region 14 with (fail)
    clear hmk hrow hown hB; rw [← hgt] at hrt0 ⊢; generalize wr.alloc (.cells (madeCells #[.bool false] Q.length) 4) = wA at hrt0 hrowA hownA hBA ⊢; have hrt : Row wA gt 4 1 Q.length ((tkV Q.length (peels (besQ Q) Q.length 0)).map Value.bool) := by
     have e : tkV Q.length (peels (besQ Q) Q.length 0) = List.replicate Q.length false := (tkV_zero _).symm; rw [e, List.map_replicate]; exact hrt0
    clear hrt0 hgt; have hlq : (Q.length : Int) = (leftN Q.length (peels (besQ Q) Q.length 0) : Nat) := by rw [Hlf.out]
    have Hlq := Lib.hid hlq; clear hlq; go_upto_region 15 with (fail)
    have Hylt := Lib.hid hylt; clear hylt; go_loopg [6, 11] Q.length (fun r lv zv wj => ∃ (k : Nat) (L : List Nat), k + r = Q.length ∧ zv = .int .i64 (leftN Q.length (peels (besQ Q) Q.length k) : Nat) ∧ leftN Q.length (peels (besQ Q) Q.length k) + k ≤ Q.length ∧ LvI (besQ Q) Q.length (peels (besQ Q) Q.length k) L ∧ Row wj w2.heap.size 3 1 Q.length ((cntV Q.length (fun j => (degG (besQ Q) (peels (besQ Q) Q.length k) j : Int))).map vI) ∧ Row wj gt 4 1 Q.length ((tkV Q.length (peels (besQ Q) Q.length k)).map Value.bool) ∧ Own wj lv 3 1 L.length (L.map vN) ∧ (∀ g, lv.ownBlock = some g → w2.heap.size < g ∧ g ≠ gt) ∧ Below w2.heap.size w2 wj)
    case atStart => exact ⟨0, L0, by omega, by rw [Hlf.out], by rw [Hlf.out]; omega, Hlv.out, hrowA, hrt, hownA, fun g hg => ⟨Hyoung.out g hg, by have := Hylt.out g hg; omega⟩, hBA⟩
    case round =>
     clear hrowA hrt hownA hBA Hlv Hlf Hyoung Hylt Hlq; obtain ⟨k, L, hk, rfl, hlk, hlv, hrow, hrt, hown, hyoung, hB⟩ := hrel; obtain ⟨GG, hGG⟩ : ∃ GG, GG = peels (besQ Q) Q.length k := ⟨_, rfl⟩
     have hnx : peels (besQ Q) Q.length (k + 1) = peel (besQ Q) Q.length GG := by rw [hGG]; rfl
     rw [← hGG] at hlk hlv hrow hrt ⊢; obtain ⟨ln, hln⟩ : ∃ ln, ln = leftN Q.length GG := ⟨_, rfl⟩
     rw [← hln] at hlk ⊢; have Hk := Lib.hid hk; have Hlk := Lib.hid hlk; have Hlv := Lib.hid hlv; have Hnx := Lib.hid hnx; have HGG := Lib.hid hGG; have Hln := Lib.hid hln; have Hyoung := Lib.hid hyoung; have hlnn : ln ≤ Q.length := by omega
     clear hk hlk hlv hnx hGG hyoung; by_cases h2 : 2 < ln
     ·
      have e2 : decide ((2 : Int) < (ln : Int)) = true := by simp; omega
      have h22 : 2 < leftN Q.length GG := by rw [← hln]; exact h2
      have hpos := Hlv.out.pos Ht.out (by omega); have hLn := Hlv.out.le; have hleft := Hlv.out.left h22; rw [← hln] at hleft; obtain ⟨lm, hlm⟩ : ∃ lm, lm = leftN Q.length (peel (besQ Q) Q.length GG) := ⟨_, rfl⟩
      rw [← hlm] at hleft; obtain ⟨gl, cl, hu6, hcl, hrl⟩ : ∃ gl cl, u6 = .slice (some ⟨gl, 0, none⟩) L.length cl ∧ L.length ≤ cl ∧ Row wr gl 3 1 cl (L.map vN) := by
       rcases hown.2 with ⟨_, h0⟩ | ⟨g, cg, h, hc, hr⟩
       · omega
       · exact ⟨g, cg, h, hc, hr⟩
      subst hu6; obtain ⟨hgl1, hgl2⟩ := Hyoung.out gl rfl; have H22 := Lib.hid h22; have Hlm := Lib.hid hlm; have Hpos := Lib.hid hpos; clear hown Hyoung hln h2 h22 hlm hcl hpos; have ho0 : ∀ j ∈ L.take 0, j ∈ L := fun j hj => by simp at hj
      have hrt0 : Row wr gt 4 1 Q.length ((tkV Q.length (orL GG (L.take 0))).map Value.bool) := by rw [List.take_zero, orL_nil]; exact hrt
      obtain ⟨gko, hgko⟩ : ∃ g, g = gk := ⟨_, rfl⟩
      have Hgko := Lib.hid hgko; clear ho0 hrt hgko; go_upto_region 18 with (fail)
      go_loopg [63] L.length (fun r iv wj => ∃ a : Nat, a + r = L.length ∧ iv = .int .i64 a ∧ Row wj gt 4 1 Q.length ((tkV Q.length (orL GG (L.take a))).map Value.bool) ∧ Row wj w2.heap.size 3 1 Q.length ((cntV Q.length (fun j => (degG (besQ Q) GG j : Int))).map vI) ∧ Row wj gl 3 1 cl (L.map vN) ∧ Below w2.heap.size w2 wj)
      case atStart => exact ⟨0, by omega, rfl, hrt0, hrow, hrl, hB⟩
      case round =>
       clear hrt0 hrow hrl hB; obtain ⟨a, ha, rfl, hrt, hrow, hrl, hB⟩ := hrel; have Ha := Lib.hid ha; by_cases hal : a < L.length
       ·
        clear ha; obtain ⟨x, hx⟩ : ∃ x, L[a]? = some x := ⟨_, List.getElem?_eq_getElem hal⟩
        have hxn : x < Q.length := Hlv.out.lt (List.mem_of_getElem? hx); have cL : wr.cell? ⟨gl, a, none⟩ = some (.int .i64 (x : Nat)) := by
         rw [hrl.cell? a (by rw [List.length_map]; exact hal), List.getElem?_map, hx]; rfl
        have cT : wr.cell? ⟨gt, x, none⟩ = some (.bool (orL GG (L.take a) x)) := by
         rw [hrt.cell? x (by rw [List.length_map, tkV_len]; exact hxn), List.getElem?_map, tkV_get hxn]; rfl
        have fT := hrt.frozen x; have htk : L.take (a + 1) = L.take a ++ [x] := by rw [List.take_add_one, hx]; rfl
        have i1 : (a : Int) < (L.length : Int) := by omega
        have i2 : (x : Int) < (Q.length : Int) := by omega
        have hrt1 : Row (wr.setCell ⟨gt, x, none⟩ (.bool true)) gt 4 1 Q.length ((tkV Q.length (orL GG (L.take (a + 1)))).map Value.bool) := by
         have := hrt.set x (.bool true); rw [htk, ← tkV_set, List.map_set]; exact this
        have hrow1 : Row (wr.setCell ⟨gt, x, none⟩ (.bool true)) w2.heap.size 3 1 Q.length ((cntV Q.length (fun j => (degG (besQ Q) GG j : Int))).map vI) := hrow.other (a := ⟨gt, x, none⟩) (by simp only; omega) _; have hrl1 : Row (wr.setCell ⟨gt, x, none⟩ (.bool true)) gl 3 1 cl (L.map vN) := hrl.other (a := ⟨gt, x, none⟩) (by simp only; omega) _; have hB1 : Below w2.heap.size w2 (wr.setCell ⟨gt, x, none⟩ (.bool true)) := hB.setCell (by simp only; omega) _; clear hx htk hrt hrow hrl hB; go_wp2_with fail; go_roundg (gk - 1)
        case measure => have := Ha.out; omega
        case rel => exact ⟨a + 1, by have := Ha.out; omega, by go_num, hrt1, hrow1, hrl1, hB1⟩
       ·
        have han : a = L.length := by omega
        subst han; rw [List.take_length, tkV_peel Hlv.out H22.out] at hrt; have hmo : MoI Q.length (peel (besQ Q) Q.length GG) (cntC (besQ Q) GG (L.take 0) []) [] := by
         rw [List.take_zero, cntC_start]; exact MoI.start H22.out
        have hrow0 : Row wr w2.heap.size 3 1 Q.length ((cntV Q.length (cntC (besQ Q) GG (L.take 0) [])).map vI) := by
         rw [List.take_zero, cntC_start]; exact hrow
        have hm0 : Own wr (.slice none 0 0) 3 1 0 [] := own_nil _ _ _; have Hmo := Lib.hid hmo; clear ha Ha hrow hmo; go_upto_region 24 with (fail)
        go_loopg [14, 73] L.length (fun r mv iv wj => ∃ (a : Nat) (M : List Nat), a + r = L.length ∧ iv = .int .i64 a ∧ Row wj w2.heap.size 3 1 Q.length ((cntV Q.length (cntC (besQ Q) GG (L.take a) [])).map vI) ∧ Row wj gt 4 1 Q.length ((tkV Q.length (peel (besQ Q) Q.length GG)).map Value.bool) ∧ Row wj gl 3 1 cl (L.map vN) ∧ MoI Q.length (peel (besQ Q) Q.length GG) (cntC (besQ Q) GG (L.take a) []) M ∧ Own wj mv 3 1 M.length (M.map vN) ∧ (∀ g, mv.ownBlock = some g → w2.heap.size < g ∧ g ≠ gt ∧ g ≠ gl) ∧ Below w2.heap.size w2 wj)
        case atStart => exact ⟨0, [], by omega, rfl, hrow0, hrt, hrl, Hmo.out, hm0, fun g hg => by simp [Value.ownBlock] at hg, hB⟩
        case round =>
         clear hrow0 hrt hrl Hmo hm0 hB; obtain ⟨a, M, ha, rfl, hrow, hrt, hrl, hmo, hown, hyoung, hB⟩ := hrel; have Ha := Lib.hid ha; by_cases hal : a < L.length
         ·
          clear ha; obtain ⟨x, hx⟩ : ∃ x, L[a]? = some x := ⟨_, List.getElem?_eq_getElem hal⟩
          have hxn : x < Q.length := Hlv.out.lt (List.mem_of_getElem? hx); have cL : wr.cell? ⟨gl, a, none⟩ = some (.int .i64 (x : Nat)) := by
           rw [hrl.cell? a (by rw [List.length_map]; exact hal), List.getElem?_map, hx]; rfl
          have htk : L.take (a + 1) = L.take a ++ [x] := by rw [List.take_add_one, hx]; rfl
          have Htk := Lib.hid htk; obtain ⟨P, hP⟩ : ∃ P, P = L.take a := ⟨_, rfl⟩
          have hPl : P.length ≤ Q.length := by rw [hP, List.length_take]; omega
          rw [← hP] at hrow hmo; have HP := Lib.hid hP; obtain ⟨ab, cb, cG2, hbs⟩ := hG x hxn; have cG := keep_cell hB cG2; have i1 : (a : Int) < (L.length : Int) := by omega
          have i2 : (x : Int) < (Q.length : Int) := by omega
          have hbl := Hbl2.out x; have hmo0 : MoI Q.length (peel (besQ Q) Q.length GG) (cntC (besQ Q) GG P ((besQ Q x).take 0)) M := by rw [List.take_zero]; exact hmo
          have hrow0 : Row wr w2.heap.size 3 1 Q.length ((cntV Q.length (cntC (besQ Q) GG P ((besQ Q x).take 0))).map vI) := by rw [List.take_zero]; exact hrow
          obtain ⟨gk4, hgk4⟩ : ∃ g, g = gk := ⟨_, rfl⟩
          have Hgk4 := Lib.hid hgk4; have Hmo0 := Lib.hid hmo0; clear hx htk hP hrow hmo hmo0 hgk4; go_upto_region 27 with (fail)
          go_loopg [14, 82] (besQ Q x).length (fun r mv iv wj => ∃ (b : Nat) (M : List Nat), b + r = (besQ Q x).length ∧ iv = .int .i64 b ∧ Row wj w2.heap.size 3 1 Q.length ((cntV Q.length (cntC (besQ Q) GG P ((besQ Q x).take b))).map vI) ∧ Row wj gt 4 1 Q.length ((tkV Q.length (peel (besQ Q) Q.length GG)).map Value.bool) ∧ Row wj gl 3 1 cl (L.map vN) ∧ MoI Q.length (peel (besQ Q) Q.length GG) (cntC (besQ Q) GG P ((besQ Q x).take b)) M ∧ Own wj mv 3 1 M.length (M.map vN) ∧ (∀ g, mv.ownBlock = some g → w2.heap.size < g ∧ g ≠ gt ∧ g ≠ gl) ∧ Below w2.heap.size w2 wj)
          case atStart => exact ⟨0, M, by omega, rfl, hrow0, hrt, hrl, Hmo0.out, hown, hyoung, hB⟩
          case round =>
           clear hrow0 hrt hrl Hmo0 hown hyoung hB i1 i2 cL cG cG2; obtain ⟨b, M, hb, rfl, hrow, hrt, hrl, hmo, hown, hyoung, hB⟩ := hrel; have Hb := Lib.hid hb; by_cases hbb : b < (besQ Q x).length
           ·
            clear hb; obtain ⟨j, hj⟩ : ∃ j, (besQ Q x)[b]? = some j := ⟨_, List.getElem?_eq_getElem hbb⟩
            have hjm : j ∈ besQ Q x := List.mem_of_getElem? hj; have hjn : j < Q.length := Ht.out.lt _ _ hjm; have hjt : j ∉ (besQ Q x).take b := fun hm => by
             have hnd := Ht.out.nd x; rw [← List.take_append_drop b (besQ Q x), List.nodup_append] at hnd; refine hnd.2.2 j hm j ?_ rfl; rw [List.mem_iff_getElem?]; exact ⟨0, by rw [List.getElem?_drop]; exact hj⟩
            obtain ⟨bb, ob, hab, cX⟩ := (hbs.below hB) b (vN j) (by rw [List.getElem?_map, hj]; rfl); subst hab; replace cX : wr.cell? ⟨bb, ob + b, none⟩ = some (.int .i64 (j : Nat)) := cX; have htk : (besQ Q x).take (b + 1) = (besQ Q x).take b ++ [j] := by rw [List.take_add_one, hj]; rfl
            obtain ⟨cj, hcj⟩ : ∃ c, c = cntC (besQ Q) GG P ((besQ Q x).take b) j := ⟨_, rfl⟩
            have hcb : -2000 ≤ cj ∧ cj ≤ 1000 := by
             have h1 : degG (besQ Q) GG j ≤ (besQ Q j).length := List.length_filter_le _ _; have h2 := Hbl2.out j; have h3 : hitC (besQ Q) P j ≤ P.length := List.length_filter_le _ _; rw [hcj]; unfold cntC; split <;> omega
            have hdec := cntC_dec (bs := besQ Q) (G := GG) (P := P) hjt; rw [← htk, ← hcj] at hdec; have cC : wr.cell? ⟨w2.heap.size, j, none⟩ = some (.int .i64 cj) := by
             rw [hrow.cell? j (by rw [List.length_map, cntV_len]; exact hjn), List.getElem?_map, cntV_get hjn, ← hcj]; rfl
            have fC := hrow.frozen j; have cT : wr.cell? ⟨gt, j, none⟩ = some (.bool (peel (besQ Q) Q.length GG j)) := by
             rw [hrt.cell? j (by rw [List.length_map, tkV_len]; exact hjn), List.getElem?_map, tkV_get hjn]; rfl
            have i1 : (b : Int) < ((besQ Q x).length : Int) := by omega
            have i2 : (j : Int) < (Q.length : Int) := by omega
            have hcb1 := hcb.1; have hcb2 := hcb.2; obtain ⟨tk, htkk⟩ : ∃ t, t = peel (besQ Q) Q.length GG j := ⟨_, rfl⟩
            rw [← htkk] at cT; have hrow1 : Row (wr.setCell ⟨w2.heap.size, j, none⟩ (.int .i64 (cj - 1))) w2.heap.size 3 1 Q.length ((cntV Q.length (cntC (besQ Q) GG P ((besQ Q x).take (b + 1)))).map vI) := by
             have := hrow.set j (vI (cj - 1)); rw [← hdec, ← cntV_set, List.map_set]; exact this
            have cS : (wr.setCell ⟨w2.heap.size, j, none⟩ (.int .i64 (cj - 1))).cell? ⟨w2.heap.size, j, none⟩ = some (.int .i64 (cj - 1)) := by
             rw [hrow1.cell? j (by rw [List.length_map, cntV_len]; exact hjn), List.getElem?_map, cntV_get hjn, ← hdec]; simp [updC, vI]
            have hrt1 : Row (wr.setCell ⟨w2.heap.size, j, none⟩ (.int .i64 (cj - 1))) gt 4 1 Q.length ((tkV Q.length (peel (besQ Q) Q.length GG)).map Value.bool) := hrt.other (a := ⟨w2.heap.size, j, none⟩) (by simp only; omega) _; have hrl1 : Row (wr.setCell ⟨w2.heap.size, j, none⟩ (.int .i64 (cj - 1))) gl 3 1 cl (L.map vN) := hrl.other (a := ⟨w2.heap.size, j, none⟩) (by simp only; omega) _; have cT1 : (wr.setCell ⟨w2.heap.size, j, none⟩ (.int .i64 (cj - 1))).cell? ⟨gt, j, none⟩ = some (.bool tk) := (World.cell?_setCell_far _ _ _ _ (by simp; omega)).trans cT; have hown1 : Own (wr.setCell ⟨w2.heap.size, j, none⟩ (.int .i64 (cj - 1))) u14 3 1 M.length (M.map vN) := hown.below fun g hg => Below.heap_setCell _ _ _ _ (by have := hyoung g hg; simp only; omega); have hB1 : Below w2.heap.size w2 (wr.setCell ⟨w2.heap.size, j, none⟩ (.int .i64 (cj - 1))) := hB.setCell (Nat.le_refl _) _; have Hmo := Lib.hid hmo; have Hdec := Lib.hid hdec; have Hcj := Lib.hid hcj; have Htkk := Lib.hid htkk; have Hyoung := Lib.hid hyoung; have Hjn := Lib.hid hjn; clear hj hjm hjt htk hcj hcb hdec hmo htkk hrow hrt hrl hown hB hyoung cT hbs; go_upto_region 30 with (fail)
            clear cC fC cX; generalize wr.setCell ⟨w2.heap.size, j, none⟩ (.int .i64 (cj - 1)) = wS at hrow1 hrt1 hrl1 hown1 hB1 cS cT1 ⊢; cases tk with
            | true =>
             have hmo1 := Hmo.out.no (j := j) (.inl Htkk.out.symm); rw [← Hcj.out, Hdec.out] at hmo1; have Hmo1 := Lib.hid hmo1; clear hmo1; go_wp2_with fail; go_roundg (gk - 1)
             case measure => have := Hb.out; omega
             case rel => exact ⟨b + 1, M, by have := Hb.out; omega, by go_num, hrow1, hrt1, hrl1, Hmo1.out, hown1, Hyoung.out, hB1⟩
            | false =>
             by_cases hc1 : cj - 1 = 1
             ·
              have e4 : (cj - 1 == 1) = true := by simpa using hc1
              have hmo1 := Hmo.out.yes Hjn.out Htkk.out.symm (by rw [← Hcj.out]; exact hc1); rw [← Hcj.out, Hdec.out] at hmo1; have hMl := Hmo.out.le; have Hmo1 := Lib.hid hmo1; have hAl := hown1.alloc (.cells #[.int .i64 (j : Nat)] 3); clear hmo1 hc1; go_wp2_with (at_builtin; refine wpList_append_row _ rfl (.tmp 104) (.tmp 106) 33 rfl 3 (.int .i64 0) 1 8 Tryz.underlying33 int_info rfl u14 M.length _ rfl hAl ⟨wS.heap.size, 0, none⟩ 1 1 [.int .i64 (j : Nat)] rfl rfl (one_new (cell_new1 rfl)) (one_ok _ _) (by omega) (by unfold maxLen; omega) (by omega) ?_; intro g5 c5 w5 hr5 hc5 hg5 hor5); have z1 := hrow1.lt; have z2 := hrt1.lt; have z3 := hrl1.lt; have hyg : w2.heap.size < g5 ∧ g5 ≠ gt ∧ g5 ≠ gl := by
               rcases hor5 with h | h
               · exact Hyoung.out g5 h
               · simp at h; omega
              have hne : ∀ q, (q = w2.heap.size ∨ q = gt ∨ q = gl) → u14.ownBlock ≠ some q := fun q hq e => by have := Hyoung.out _ e; omega
              have hrow2 := (hrow1.alloc (.cells #[.int .i64 (j : Nat)] 3)).grown hg5 (hne _ (.inl rfl)); have hrt2 := (hrt1.alloc (.cells #[.int .i64 (j : Nat)] 3)).grown hg5 (hne _ (.inr (.inl rfl))); have hrl2 := (hrl1.alloc (.cells #[.int .i64 (j : Nat)] 3)).grown hg5 (hne _ (.inr (.inr rfl))); have hown2 : Own w5 (.slice (some ⟨g5, 0, none⟩) (M.length + 1) c5) 3 1 (M ++ [j]).length ((M ++ [j]).map vN) := by
               have h1 := hr5.own1; have e1 : M.map vN ++ [Value.int .i64 (j : Int)] = (M ++ [j]).map vN := by rw [List.map_append]; rfl
               rw [e1] at h1; simpa using h1
              have hB5 : Below w2.heap.size w2 w5 := (bl_trans hB1 (bl_alloc wS (.cells #[.int .i64 (j : Nat)] 3))).grown hg5 (by have := hB1.size; simp; omega) (fun k hk => by have := Hyoung.out k hk; omega); clear hr5 hg5 hor5 hrow1 hrt1 hrl1 hown1 hB1 hAl hne cS cT1; go_wp2_with fail; go_roundg (gk - 1)
              case measure => have := Hb.out; omega
              case rel => exact ⟨b + 1, M ++ [j], by have := Hb.out; omega, by go_num, hrow2, hrt2, hrl2, Hmo1.out, hown2, fun k hk => by cases hk; exact hyg, hB5⟩
             ·
              have e4 : (cj - 1 == 1) = false := by simpa using hc1
              have hmo1 := Hmo.out.no (j := j) (.inr (by rw [← Hcj.out]; exact hc1)); rw [← Hcj.out, Hdec.out] at hmo1; have Hmo1 := Lib.hid hmo1; clear hmo1 hc1; go_wp2_with fail; go_roundg (gk - 1)
              case measure => have := Hb.out; omega
              case rel => exact ⟨b + 1, M, by have := Hb.out; omega, by go_num, hrow1, hrt1, hrl1, Hmo1.out, hown1, Hyoung.out, hB1⟩
           ·
            have hbn : b = (besQ Q x).length := by omega
            subst hbn; rw [List.take_length, cntC_next, HP.out, ← Htk.out] at hrow hmo; have Hmo := Lib.hid hmo; clear hb Hb hmo; go_wp2_with fail; go_roundg (gk4 - 1)
            case measure => have := Ha.out; have := Hgk4.out; omega
            case rel => exact ⟨a + 1, M, by have := Ha.out; have := Hgk4.out; omega, by go_num, hrow, hrt, hrl, Hmo.out, hown, hyoung, hB⟩
         ·
          have han : a = L.length := by omega
          subst han; rw [List.take_length, cntC_end Hlv.out Ht.out H22.out] at hrow hmo; have hlv2 := hmo.lv; have Hlv2 := Lib.hid hlv2; have hz : (ln : Int) - (L.length : Int) = (lm : Int) := by omega
          have Hhl := Lib.hid hleft; clear ha Ha hmo hlv2; go_wp2_with fail; go_roundg (gko - 1)
          case measure => have := Hk.out; have := Hlk.out; have := Hgko.out; have := Hpos.out; omega
          case rel => exact ⟨k + 1, M, by have := Hk.out; have := Hlk.out; have := Hgko.out; have := Hhl.out; have := Hpos.out; omega, by rw [Hnx.out, ← Hlm.out] <;> go_num, by rw [Hnx.out, ← Hlm.out]; have := Hlk.out; have := Hhl.out; have := Hpos.out; omega, by rw [Hnx.out]; exact Hlv2.out, by rw [Hnx.out]; exact hrow, by rw [Hnx.out]; exact hrt, hown, fun g hg => ⟨(hyoung g hg).1, (hyoung g hg).2.1⟩, hB⟩
     ·
      have e2 : decide ((2 : Int) < (ln : Int)) = false := by simp; omega
      have hfin : peels (besQ Q) Q.length Q.length = GG := by
       have h22 : ¬ 2 < leftN Q.length (peels (besQ Q) Q.length k) := by rw [← HGG.out, ← Hln.out]; exact h2
       have h1 := peels_end h22 (Q.length - k); have := Hlk.out; rw [show k + (Q.length - k) = Q.length by omega] at h1; rw [h1, HGG.out]
      have hcq : centreQ Q = (List.range Q.length).filter fun j => !GG j := by unfold centreQ; rw [hfin]
      have Hcq := Lib.hid hcq; have ho0 : Own wr (.slice none 0 0) 3 1 0 [] := own_nil _ _ _; have hgtw := hrt.lt; clear hfin hcq h2 hln hrow hown; go_upto_region 36 with (fail)
      go_loopg [7, 113] Q.length (fun r ov iv wj => ∃ (i : Nat) (O : List Nat), i + r = Q.length ∧ iv = .int .i64 i ∧ O = (List.range i).filter (fun j => !GG j) ∧ Row wj gt 4 1 Q.length ((tkV Q.length GG).map Value.bool) ∧ Own wj ov 3 1 O.length (O.map vN) ∧ (∀ g, ov.ownBlock = some g → w2.heap.size < g ∧ g ≠ gt) ∧ Below w2.heap.size w2 wj)
      case atStart => exact ⟨0, [], by omega, rfl, by simp, hrt, ho0, fun g hg => by simp [Value.ownBlock] at hg, hB⟩
      case round =>
       clear hrt ho0 hB hgtw; obtain ⟨i, O, hi, rfl, hO, hrt, hown, hyoung, hB⟩ := hrel; have Hi := Lib.hid hi; have HO := Lib.hid hO; have Hyoung := Lib.hid hyoung; have hOl : O.length ≤ i := by
        rw [hO]; have := List.length_filter_le (fun j => !GG j) (List.range i); simpa using this
       have hstep : (List.range (i + 1)).filter (fun j => !GG j) = O ++ if GG i = false then [i] else [] := by
        rw [List.range_succ, List.filter_append, hO]; congr 1; by_cases h : GG i = true <;> simp [h]
       clear hO hyoung; by_cases hil : i < Q.length
       ·
        clear hi; have cT : wr.cell? ⟨gt, i, none⟩ = some (.bool (GG i)) := by
         rw [hrt.cell? i (by rw [List.length_map, tkV_len]; exact hil), List.getElem?_map, tkV_get hil]; rfl
        have i1 : (i : Int) < (Q.length : Int) := by omega
        cases hgi : GG i with
        | true =>
         rw [hgi] at cT hstep; simp only [Bool.true_eq_false, if_false, List.append_nil] at hstep; have Hstep := Lib.hid hstep; clear hstep hgi; go_wp2_with fail; go_roundg (gk - 1)
         case measure => have := Hi.out; omega
         case rel => exact ⟨i + 1, O, by have := Hi.out; omega, by go_num, Hstep.out.symm, hrt, hown, Hyoung.out, hB⟩
        | false =>
         rw [hgi] at cT hstep; simp only [if_true] at hstep; have Hstep := Lib.hid hstep; have hAl := hown.alloc (.cells #[.int .i64 (i : Nat)] 3); have hBa := hB.size; clear hstep hgi; go_wp2_with (at_builtin; refine wpList_append_row _ rfl (.tmp 121) (.tmp 123) 33 rfl 3 (.int .i64 0) 1 8 Tryz.underlying33 int_info rfl u7 O.length _ rfl hAl ⟨wr.heap.size, 0, none⟩ 1 1 [.int .i64 (i : Nat)] rfl rfl (one_new (cell_new1 rfl)) (one_ok _ _) (by omega) (by unfold maxLen; omega) (by omega) ?_; intro g5 c5 w5 hr5 hc5 hg5 hor5); have z2 := hrt.lt; have hyg : w2.heap.size < g5 ∧ g5 ≠ gt := by
          rcases hor5 with h | h
          · exact Hyoung.out g5 h
          · simp at h; omega
         have hrt2 := (hrt.alloc (.cells #[.int .i64 (i : Nat)] 3)).grown hg5 (fun e => (Hyoung.out _ e).2 rfl); have hown2 : Own w5 (.slice (some ⟨g5, 0, none⟩) (O.length + 1) c5) 3 1 (O ++ [i]).length ((O ++ [i]).map vN) := by
          have h1 := hr5.own1; have e1 : O.map vN ++ [Value.int .i64 (i : Int)] = (O ++ [i]).map vN := by rw [List.map_append]; rfl
          rw [e1] at h1; simpa using h1
         have hB5 : Below w2.heap.size w2 w5 := (bl_trans hB (bl_alloc wr (.cells #[.int .i64 (i : Nat)] 3))).grown hg5 (by simp; omega) (fun k hk => by have := Hyoung.out k hk; omega); clear hr5 hg5 hor5 hrt hown hB hAl cT; go_wp2_with fail; go_roundg (gk - 1)
         case measure => have := Hi.out; omega
         case rel => exact ⟨i + 1, O ++ [i], by have := Hi.out; omega, by go_num, Hstep.out.symm, hrt2, hown2, fun k hk => by cases hk; exact hyg, hB5⟩
       ·
        have hin : i = Q.length := by omega
        subst hin; have hO2 : O = centreQ Q := by rw [HO.out, Hcq.out]
        subst hO2; have hfin := hown; have Hfin := Lib.hid hfin; obtain ⟨a9, c9, hvo, hca⟩ : ∃ a c, u7 = Value.slice a (centreQ Q).length c ∧ CellsAt wr a ((centreQ Q).map vN) := by
         rcases hown.2 with ⟨rfl, h0⟩ | ⟨g, cg, rfl, hcg, hr9⟩
         · exact ⟨none, 0, by rw [h0], fun i u hu => by rw [List.eq_nil_of_length_eq_zero h0] at hu; simp at hu⟩
         · exact ⟨_, _, rfl, hr9.at_⟩
        subst hvo; have hBw := bl_trans hB2 hB; clear hi Hi hstep hown hfin Hfin hrt hOl; go_wp2_with fail; go_ret; rw [Hbl.out]; exact ⟨a9, c9, rfl, hca, hBw⟩
 ·
  have hbl : centreL Q = [] := by unfold centreL; rw [rightB_not.2 hR]; rfl
  have Hbl := Lib.hid hbl
  clear hbl hR hr
  go_wp2_with fail
  go_ret
  rw [Hbl.out]
  exact ⟨none, 0, rfl, fun i u hu => by simp at hu, hb2⟩
end Go.Proofs.YtagcbnpahgfgmaaGreat
namespace Go.Proofs.YtagcbnpahgfgmaaGreat
open Go Go.RowKit
theorem grown_setCell (w : World) (g o : Nat) (u : Value) : w.grownBy (w.setCell ⟨g, o, none⟩ u) (some g) :=
 ⟨rfl, rfl, rfl, by simp, fun k _ hne => Below.heap_setCell w ⟨g, o, none⟩ u k (fun e => hne (by rw [e]))⟩
theorem grown_trans {a b c : World} {r : Option Nat} (h : a.grownBy b r) (k : b.grownBy c r) : a.grownBy c r :=
 ⟨k.os.trans h.os, k.tape.trans h.tape, k.output.trans h.output, Nat.le_trans h.size k.size, fun j h1 h2 => (k.block j (Nat.lt_of_lt_of_le h1 h.size) h2).trans (h.block j h1 h2)⟩
theorem grown_setCells (g : Nat) : ∀ (cs : List Value) (o : Nat) (w : World), w.grownBy (w.setCells g o cs) (some g)
 | [], _, w => ⟨rfl, rfl, rfl, Nat.le_refl _, fun _ _ _ => rfl⟩
 | c :: cs, o, w => grown_trans (grown_setCell w g o c) (grown_setCells g cs (o + 1) _)
theorem spliced_nil (vs : List Value) (o : Nat) : spliced vs o [] = vs := by simp [spliced]
theorem spliced_cons (vs : List Value) (o : Nat) (c : Value) (cs : List Value) (h : o < vs.length) : spliced (vs.set o c) (o + 1) cs = spliced vs o (c :: cs) := by
 unfold spliced
 rw [List.length_cons]
 have e1 : (vs.set o c).take (o + 1) = vs.take o ++ [c] := by
  rw [List.take_add_one, List.take_set_of_le (by omega)]
  simp [h]
 have e2 : (vs.set o c).drop (o + 1 + cs.length) = vs.drop (o + (cs.length + 1)) := by
  rw [List.drop_set_of_lt (by omega)]
  congr 1; omega
 rw [e1, e2]
 simp
theorem Row.setCells {g : Nat} {e : TypeId} {s cap : Nat} : ∀ (cs : List Value) (o : Nat) (w : World) (vs : List Value), Row w g e s cap vs → o + cs.length ≤ vs.length → Row (w.setCells g o cs) g e s cap (Go.Proofs.YtagcbnpahgfgmaaGreat.spliced vs o cs)
 | [], o, w, vs, h, _ => by rw [spliced_nil]; exact h
 | c :: cs, o, w, vs, h, hl => by
  simp only [List.length_cons] at hl
  have h1 := Row.setCells cs (o + 1) _ _ (h.set o c) (by rw [List.length_set]; omega)
  rw [spliced_cons _ _ _ _ (by omega)] at h1
  exact h1
theorem run_clear_many {P : Program} (w : World) (t e ty : TypeId) (z : Value) (s : Nat) (ht : P.underlying t = some (.slice e)) (hv : ∀ w, (zeroValue e).run P w = .ok z w) (hz : z.cells.size = s) (h1 : ∀ u ∈ z.cells.toList, u.oneCell' = true) (b o n c : Nat) (hn : 0 < n)
  (hc : ∀ j, j < n * s → (w.cell? ⟨b, o + j, none⟩).isSome = true) (hf : ∀ j, j < n * s → w.frozen? ⟨b, o + j, none⟩ = false) :
  (Builtin.clear_ #[t] ty #[.slice (some ⟨b, o, none⟩) n c]).run P w = .ok (.tuple #[]) (w.setCells b o (Builtin.zeroCells z.cells n).toList) := by
 have hsz : (Builtin.zeroCells z.cells n).toList.length = n * s := by rw [Array.length_toList, size_zeroCells, hz]
 have hst := run_storeCells_cells (P := P) b o (Builtin.zeroCells z.cells n).toList 0 w (by intro j hj; simpa using hc j (by omega)) (by intro j hj; first | (simp; done) | (have hfj := hf j (by omega); simpa using hfj)) (by
  intro v hv'
  obtain ⟨i, hi, rfl⟩ := List.getElem_of_mem hv'
  rw [hsz, ← hz] at hi
  have hp : 0 < z.cells.size := Nat.pos_of_ne_zero fun e => by rw [e] at hi; omega
  have hm := Nat.mod_lt i hp
  apply h1
  unfold Builtin.zeroCells
  simp [hm])
 simp only [Nat.add_zero] at hst
 obtain ⟨m, rfl⟩ : ∃ m, n = m + 1 := ⟨n - 1, by omega⟩
 simp [Builtin.clear_, run_underlying ht, hv, hst]
theorem zeroP (w : World) : (zeroValue 49).run Tryz.prog w = .ok (.agg #[.int .i64 0, .slice none 0 0]) w := by kernel_rfl
theorem info_part : (Tryz.prog.info? 49).map (fun i => (i.zero, i.size, i.bytes)) = some (some (.agg #[.int .i64 0, .slice none 0 0]), 2, 32) := by kernel_rfl
theorem run_fromP (b n cap k : Nat) (hk : k ≤ n) (w : World) : (Instr.slice 24 (.slice (some ⟨b, 0, none⟩) n cap) (some (.int .i64 k)) none none).run Tryz.prog w = .ok (.slice (if cap = k then some ⟨b, 0, none⟩ else some ⟨b, k * 2, none⟩) (n - k) (cap - k)) w := by
 have hu : Tryz.prog.underlying 24 = some (.slice (Tryz.prog.elem 24)) := by kernel_rfl
 have hs : ∀ w, (sizeOf (Tryz.prog.elem 24)).run Tryz.prog w = .ok 2 w := fun w => by kernel_rfl
 rw [run_slice_l w 24 (some ⟨b, 0, none⟩) n cap hu .i64 k (by omega) (by omega), hs]
 unfold sliced
 simp only [Result.andThen, Int.toNat_natCast]
 split <;> simp [Addr.add] <;> omega
set_option maxRecDepth 100000 in
set_option maxHeartbeats 4000000 in
theorem delP_walk (g cap n j : Nat) (vs : List Value) (w : World) (h : Row w g 49 2 cap vs) (hn : vs.length = n * 2) (hj : j < n) (hc : n ≤ cap) (h1 : ∀ u ∈ vs, u.oneCell' = true) :
  Calls Tryz.prog 74 #[.slice (some ⟨g, 0, none⟩) n cap, .int .i64 j, .int .i64 (j + 1)] w fun e w' =>
   e = .returned (.slice (some ⟨g, 0, none⟩) (n - 1) cap) ∧ Row w' g 49 2 cap (vs.take (j * 2) ++ vs.drop (j * 2 + 2)) ∧ w.grownBy w' (some g) := by
 have hcm := h.cap_le
 unfold maxLen at hcm
 have e1 : ((j : Int) == (j : Int) + 1) = false := by simp; omega
 obtain ⟨i0, hi0, hz0, hz1, hz2⟩ := info_parts info_part
 obtain ⟨news, hnews⟩ : ∃ news, news = vs.drop (j * 2 + 2) := ⟨_, rfl⟩
 have hlen : news.length = (n - (j + 1)) * 2 := by rw [hnews, List.length_drop, hn]; omega
 obtain ⟨A, hA, hsrc⟩ : ∃ A : Addr, (if cap = j + 1 then some (⟨g, 0, none⟩ : Addr) else some ⟨g, (j + 1) * 2, none⟩) = some A ∧ Hid (∀ t u, news[t]? = some u → w.drew.cell? (A.add t) = some u) := by
  by_cases hh : cap = j + 1
  ·
   refine ⟨⟨g, 0, none⟩, by simp [hh], fun t u hu => ?_⟩; have h0 : news.length = 0 := by rw [hlen]; omega
   rw [List.length_eq_zero_iff.1 h0] at hu; simp at hu
  ·
   refine ⟨⟨g, (j + 1) * 2, none⟩, by simp [hh], fun t u hu => ?_⟩; have ht : t < news.length := (List.getElem?_eq_some_iff.1 hu).1; rw [hnews, List.getElem?_drop] at hu; rw [Addr.add_lit]; exact (h.cell? ((j + 1) * 2 + t) (by rw [hn]; omega)).trans (by rw [show (j + 1) * 2 + t = j * 2 + 2 + t by omega]; exact hu)
 have hsl : ∀ w, (Instr.slice 24 (.slice (some ⟨g, 0, none⟩) n cap) (some (.int .i64 ((j : Int) + 1))) none none).run Tryz.prog w = .ok (.slice (some A) (n - (j + 1)) (cap - (j + 1))) w := fun w => by
  have := run_fromP g n cap (j + 1) (by omega) w
  rw [hA] at this
  exact this
 have s1 : Hid (news.length = (n - (j + 1)) * 2) := hlen
 have s2 : Hid (∀ u ∈ news, u.oneCell' = true) := fun u hu => h1 u (by rw [hnews] at hu; exact List.mem_of_mem_drop hu)
 have s3 : Hid (∀ t, t < news.length → (w.drew.cell? ⟨g, 0 + j * 2 + t, none⟩).isSome = true ∧ w.drew.frozen? ⟨g, 0 + j * 2 + t, none⟩ = false) := fun t ht => by
  rw [hlen] at ht
  rw [Nat.zero_add]
  refine ⟨?_, h.frozen _⟩
  show (w.cell? ⟨g, j * 2 + t, none⟩).isSome = true
  rw [h.cell? (j * 2 + t) (by rw [hn]; omega), List.getElem?_eq_getElem (by rw [hn]; omega)]; rfl
 obtain ⟨W1, hW1⟩ : ∃ W1, W1 = w.drew.setCells g (0 + j * 2) news := ⟨_, rfl⟩
 have hg1 : w.grownBy W1 (some g) := by
  rw [hW1]
  exact grown_trans (b := w.drew) ⟨rfl, rfl, rfl, Nat.le_refl _, fun _ _ _ => rfl⟩ (grown_setCells g _ _ _)
 have hR1 : Row W1 g 49 2 cap (spliced vs (j * 2) news) := by
  rw [hW1, Nat.zero_add]
  exact Row.setCells news (j * 2) w.drew vs h (by rw [hlen, hn]; omega)
 have hl1 : (spliced vs (j * 2) news).length = n * 2 := by rw [spliced_length (by rw [hlen, hn]; omega)]; exact hn
 have hcl : ∀ ty, (Builtin.clear_ #[24] ty #[.slice (some ⟨g, (j + (n - (j + 1))) * 2, none⟩) (n - (j + (n - (j + 1)))) (cap - (j + (n - (j + 1))))]).run Tryz.prog W1 = .ok (.tuple #[]) (W1.setCells g ((j + (n - (j + 1))) * 2) (Builtin.zeroCells (Value.agg #[.int .i64 0, .slice none 0 0]).cells (n - (j + (n - (j + 1))))).toList) := fun ty =>
  run_clear_many W1 _ _ ty _ 2 Tryz.underlying24 zeroP (by decide +kernel) (by decide +kernel) g _ _ _ (by omega)
   (fun t ht => by rw [hR1.cell? _ (by rw [hl1]; omega), List.getElem?_eq_getElem (by rw [hl1]; omega)]; rfl) (fun t ht => hR1.frozen _)
 have hR2 := Row.setCells (Builtin.zeroCells (Value.agg #[.int .i64 0, .slice none 0 0]).cells (n - (j + (n - (j + 1))))).toList ((j + (n - (j + 1))) * 2) W1 _ hR1 (by
  rw [Array.length_toList, size_zeroCells, hl1]
  have : (Value.agg #[.int .i64 0, .slice none 0 0]).cells.size = 2 := by decide +kernel
  rw [this]; omega)
 have hg2 := grown_trans hg1 (grown_setCells g (Builtin.zeroCells (Value.agg #[.int .i64 0, .slice none 0 0]).cells (n - (j + (n - (j + 1))))).toList ((j + (n - (j + 1))) * 2) W1)
 have hend : Row (W1.setCells g ((j + (n - (j + 1))) * 2) (Builtin.zeroCells (Value.agg #[.int .i64 0, .slice none 0 0]).cells (n - (j + (n - (j + 1))))).toList) g 49 2 cap (vs.take (j * 2) ++ vs.drop (j * 2 + 2)) := by
  have h3 := hR2.take ((n - 1) * 2)
  have h4 : (spliced (spliced vs (j * 2) news) ((j + (n - (j + 1))) * 2) (Builtin.zeroCells (Value.agg #[.int .i64 0, .slice none 0 0]).cells (n - (j + (n - (j + 1))))).toList).take ((n - 1) * 2) = vs.take (j * 2) ++ vs.drop (j * 2 + 2) := by
   have e2 : j + (n - (j + 1)) = n - 1 := by omega
   rw [e2]; unfold spliced; rw [List.take_append, List.length_take, List.take_take]; have hl1' : (List.take (j * 2) vs ++ (news ++ List.drop (j * 2 + news.length) vs)).length = n * 2 := hl1; rw [hl1', Nat.min_self, Nat.min_eq_left (by omega), Nat.sub_self, List.take_zero, List.append_nil]; rw [← List.append_assoc, List.take_append]; have h5 : (List.take (j * 2) vs ++ news).length = (n - 1) * 2 := by rw [List.length_append, List.length_take, hlen, hn]; omega
   rw [h5, Nat.sub_self, List.take_zero, List.append_nil, List.take_of_length_le (by omega), hnews]
  rw [h4] at h3; exact h3
 have hW : Hid (W1 = w.drew.setCells g (0 + j * 2) news) := hW1
 have Hend := Lib.hid hend; have Hg2 := Lib.hid hg2
 have hjc : j ≤ cap := by omega
 have hjc2 : j + 1 ≤ cap := by omega
 have hnc : j + (n - (j + 1)) ≤ n := by omega
 clear hR1 hR2 hg1 hg2 hend hl1 hlen hnews h hW1 h1
 go_enter Tryz.func74, Tryz.ntmps74
 go_wp2_with fail
 go_region_law (refine step_append_room rfl (.tmp 22) (.tmp 25) 24 rfl 49 i0 2 Tryz.underlying24 hi0 hz1 g 0 j cap (by simp [Act.eval, Act.put]) A (n - (j + 1)) (cap - (j + 1)) news (by simp [Act.eval, Act.put]) s1.out hsrc.out s2.out (by omega) s3.out ?_; rw [← hW.out])
 go_wp2
 go_ret
 exact ⟨by rw [show n - 1 = j + (n - (j + 1)) by omega]; rfl, Hend.out, Hg2.out⟩
end Go.Proofs.YtagcbnpahgfgmaaGreat
namespace Go.Proofs.YtagcbnpahgfgmaaGreat
open Go Go.RowKit
abbrev PtR := Pt × Option Addr × Nat
def ptV (p : PtR) : Value := .slice p.2.1 p.1.2.length p.2.2
def ptC (ps : List PtR) : List Value := ps.flatMap fun p => [.int .i64 p.1.1, ptV p]
def ptQ (ps : List PtR) : List Pt := ps.map fun p => p.1
theorem ptQ_len (ps : List PtR) : (ptQ ps).length = ps.length := by simp [ptQ]
theorem ptC_len (ps : List PtR) : (ptC ps).length = ps.length * 2 := by
 induction ps with
 | nil => rfl
 | cons p ps ih => simp only [ptC, List.flatMap_cons, List.length_append, List.length_cons, List.length_nil] at ih ⊢; omega
theorem ptC_cons (p : PtR) (ps : List PtR) : ptC (p :: ps) = .int .i64 p.1.1 :: ptV p :: ptC ps := rfl
theorem ptC_append (a b : List PtR) : ptC (a ++ b) = ptC a ++ ptC b := by simp [ptC]
theorem ptC_get (ps : List PtR) (i : Nat) (h : i < ps.length) : (ptC ps)[i * 2]? = some (.int .i64 ps[i].1.1) ∧ (ptC ps)[i * 2 + 1]? = some (ptV ps[i]) := by
 induction ps generalizing i with
 | nil => simp at h
 | cons p ps ih =>
  cases i with
  | zero => simp [ptC]
  | succ i =>
   have := ih i (by simpa using h); rw [ptC_cons, show (i + 1) * 2 = i * 2 + 1 + 1 by omega]; simpa using this
theorem ptC_del (ps : List PtR) (j : Nat) (h : j < ps.length) : (ptC ps).take (j * 2) ++ (ptC ps).drop (j * 2 + 2) = ptC (ps.eraseIdx j) := by
 induction ps generalizing j with
 | nil => simp at h
 | cons p ps ih =>
  cases j with
  | zero => simp [ptC_cons]
  | succ j =>
   have := ih j (by simpa using h); rw [List.eraseIdx_cons_succ, ptC_cons, ptC_cons, show (j + 1) * 2 = j * 2 + 1 + 1 by omega, show j * 2 + 1 + 1 + 2 = (j * 2 + 2) + 1 + 1 by omega]; simp only [List.take_succ_cons, List.drop_succ_cons, List.cons_append]; rw [this]
theorem ptC_set (ps : List PtR) (i : Nat) (h : i < ps.length) (p : PtR) (hk : p.1.1 = ps[i].1.1) : (ptC ps).set (i * 2 + 1) (ptV p) = ptC (ps.set i p) := by
 induction ps generalizing i with
 | nil => simp at h
 | cons q ps ih =>
  cases i with
  | zero => simp at hk; simp [ptC_cons, hk]
  | succ i =>
   have := ih i (by simpa using h) (by simpa using hk); rw [List.set_cons_succ, ptC_cons, ptC_cons, show (i + 1) * 2 + 1 = (i * 2 + 1) + 1 + 1 by omega]; simp only [List.set_cons_succ]; rw [this]
theorem ptC_one (ps : List PtR) : ∀ u ∈ ptC ps, u.oneCell' = true := fun u hu => by
 unfold ptC at hu
 obtain ⟨p, _, hp⟩ := List.mem_flatMap.1 hu
 simp at hp
 rcases hp with rfl | rfl <;> rfl
theorem ptQ_get {ps : List PtR} {i : Nat} (h : i < ps.length) : (ptQ ps)[i]? = some ps[i].1 := by simp [ptQ, h]
theorem ptQ_set (ps : List PtR) (i : Nat) (p : PtR) : ptQ (ps.set i p) = (ptQ ps).set i p.1 := by simp [ptQ, List.map_set]
theorem ptQ_del (ps : List PtR) (j : Nat) : ptQ (ps.eraseIdx j) = (ptQ ps).eraseIdx j := by
 unfold ptQ
 induction ps generalizing j with
 | nil => rfl
 | cons p ps ih =>
  cases j with
  | zero => rfl
  | succ j => simp [ih]
def RowP (w : World) (p : PtR) : Prop := RdL w p.2.1 p.1.2 ∧ p.1.2.length ≤ p.2.2 ∧ p.2.2 ≤ maxLen ∧ ∀ ad, p.2.1 = some ad → ad.block < w.heap.size
theorem RowP.grown {w w' : World} {p : PtR} (h : RowP w p) {k : Option Nat} (hg : w.grownBy w' k) (hf : ∀ ad, p.2.1 = some ad → k ≠ some ad.block) : RowP w' p :=
 ⟨fun i u hu => by
  obtain ⟨b, o, e, hc⟩ := h.1 i u hu
  exact ⟨b, o, e, grown_cell hg hc (hf _ e)⟩, h.2.1, h.2.2.1, fun ad ha => Nat.lt_of_lt_of_le (h.2.2.2 ad ha) hg.size⟩
theorem RowP.below {w w' : World} {p : PtR} (h : RowP w p) (hb : Below w.heap.size w w') : RowP w' p :=
 ⟨h.1.below hb, h.2.1, h.2.2.1, fun ad ha => Nat.lt_of_lt_of_le (h.2.2.2 ad ha) hb.size⟩
structure PtI (w : World) (B g cap : Nat) (ps : List PtR) : Prop where
 row : Row w g 49 2 cap (ptC ps)
 len : ps.length ≤ cap
 lo : B ≤ g
 each : ∀ p ∈ ps, RowP w p ∧ ∀ ad, p.2.1 = some ad → ad.block ≠ g
namespace PtI
variable {w w' : World} {B g cap : Nat} {ps : List PtR}
theorem cap_le (h : PtI w B g cap ps) : cap ≤ maxLen := h.row.cap_le
theorem lt (h : PtI w B g cap ps) : g < w.heap.size := h.row.lt
theorem below (h : PtI w B g cap ps) (hb : Below w.heap.size w w') : PtI w' B g cap ps :=
 ⟨h.row.block (hb.block _ h.lt), h.len, h.lo, fun p hp => ⟨(h.each p hp).1.below hb, (h.each p hp).2⟩⟩
theorem rdq (h : PtI w B g cap ps) : RdQ w (some ⟨g, 0, none⟩) (ptQ ps) := fun i q hq => by
 have hi : i < ps.length := by have := (List.getElem?_eq_some_iff.1 hq).1; rwa [ptQ_len] at this
 rw [ptQ_get hi] at hq
 cases hq
 obtain ⟨h1, h2⟩ := ptC_get ps i hi
 obtain ⟨⟨r1, r2, r3, _⟩, _⟩ := h.each _ (List.getElem_mem hi)
 refine ⟨g, 0, _, _, rfl, ?_, ?_, r1, r2, r3⟩
 · rw [Nat.zero_add, h.row.cell? _ (by rw [ptC_len]; omega)]; exact h1
 · rw [Nat.zero_add, h.row.cell? _ (by rw [ptC_len]; omega)]; exact h2
theorem store (h : PtI w B g cap ps) {i : Nat} (hi : i < ps.length) {p : PtR} (hk : p.1.1 = ps[i].1.1) (hr : RowP w p) (hf : ∀ ad, p.2.1 = some ad → ad.block ≠ g) :
  PtI (w.setCell ⟨g, i * 2 + 1, none⟩ (ptV p)) B g cap (ps.set i p) := by
 have hg := grown_setCell w g (i * 2 + 1) (ptV p)
 refine ⟨?_, by rw [List.length_set]; exact h.len, h.lo, fun q hq => ?_⟩
 ·
  rw [← ptC_set ps i hi p hk]
  exact h.row.set _ _
 ·
  rcases List.mem_or_eq_of_mem_set hq with hq | rfl
  ·
   obtain ⟨h1, h2⟩ := h.each q hq; exact ⟨h1.grown hg fun ad ha e => h2 ad ha (by cases e; rfl), h2⟩
  · exact ⟨hr.grown hg fun ad ha e => hf ad ha (by cases e; rfl), hf⟩
theorem del (h : PtI w B g cap ps) {j : Nat} (hj : j < ps.length) (hr : Row w' g 49 2 cap ((ptC ps).take (j * 2) ++ (ptC ps).drop (j * 2 + 2))) (hg : w.grownBy w' (some g)) : PtI w' B g cap (ps.eraseIdx j) := by
 rw [ptC_del ps j hj] at hr
 refine ⟨hr, ?_, h.lo, fun q hq => ?_⟩
 · rw [List.length_eraseIdx, if_pos hj]; have := h.len; omega
 ·
  obtain ⟨h1, h2⟩ := h.each q (List.mem_of_mem_eraseIdx hq)
  exact ⟨h1.grown hg fun ad ha e => h2 ad ha (by cases e; rfl), h2⟩
end PtI
end Go.Proofs.YtagcbnpahgfgmaaGreat
namespace Go.Proofs.YtagcbnpahgfgmaaGreat
open Go Go.RowKit Go.Maps
def RetAl (w : World) (Q : List Pt) (e : Ending) (w' : World) : Prop :=
 Below w.heap.size w w' ∧ ((∃ (i j : Nat) (v : Int), i < Q.length ∧ j < Q.length ∧ alikeP Q i j v ∧ e = .returned (.tuple #[.int .i64 i, .int .i64 j, .int .i64 v])) ∨ (clearP Q (allQ Q) ∧ e = .returned (.tuple #[.int .i64 0, .int .i64 0, .int .i64 0])))
def hF (Q : List Pt) (l : List Oc) : Int → Option Int := fun v => (lastO Q l v).map fun p => (p.1 : Int)
theorem hF_nil (Q : List Pt) : hF Q [] = fun _ => none := by funext v; simp [hF, lastO, colO, atV]
theorem hF_no {Q : List Pt} {l : List Oc} {p : Oc} (h : mayO Q p = false) : hF Q (l ++ [p]) = hF Q l := by funext v; unfold hF; rw [lastO_no h]
theorem hF_yes {Q : List Pt} {l : List Oc} {p : Oc} (h : mayO Q p = true) : updF (hF Q l) p.2.2.2 (p.1 : Int) = hF Q (l ++ [p]) := by
 funext v
 unfold updF hF
 rw [lastO_yes h]
 by_cases hv : v = p.2.2.2
 · rw [if_pos hv, if_pos hv]; rfl
 · rw [if_neg hv, if_neg hv]
theorem colO_row {Q : List Pt} {i : Nat} (h : kdQ Q i = 3) : colO Q (preQ Q (i + 1) 0) = colO Q (preQ Q i 0) := by
 rw [preQ_zero, preQ_zero, preO_succ]
 unfold colO
 rw [List.filter_append]
 have : (rowO Q i).filter (mayO Q) = [] := by
  rw [List.filter_eq_nil_iff]
  intro p hp
  unfold rowO at hp
  obtain ⟨e, _, rfl⟩ := List.mem_map.1 hp
  unfold mayO
  simp [h]
 rw [this, List.append_nil]
structure AlI (w wj : World) (Q : List Pt) (l : List Oc) : Prop where
 mz : ∃ c, MZ wj w.heap.size c (hF Q l) ∧ c ≤ l.length
 clr : clearP Q l
 bel : Below w.heap.size w wj
theorem AlI.grown {w wj w' : World} {Q : List Pt} {l : List Oc} (h : AlI w wj Q l) (hb : Below wj.heap.size wj w') : AlI w w' Q l := by
 obtain ⟨c, h1, h2⟩ := h.mz
 exact ⟨⟨c, h1.below hb, h2⟩, h.clr, bl_trans h.bel hb⟩
theorem lastO_mem {Q : List Pt} {l : List Oc} {v : Int} {p : Oc} (h : lastO Q l v = some p) : p ∈ l := by
 have h1 : p ∈ atV v (colO Q l) := List.mem_of_getLast? h
 exact (List.mem_filter.1 (mem_atV.1 h1).1).1
end Go.Proofs.YtagcbnpahgfgmaaGreat
namespace Go.Proofs.YtagcbnpahgfgmaaGreat
open Go Go.RowKit Go.Maps
set_option maxRecDepth 100000 in
set_option maxHeartbeats 4000000 in
theorem alike_walk (a : Option Addr) (cap : Nat) (Q : List Pt) (w : World) (hr : RdQ w a Q) (hQ : Q.length ≤ 1000) (hR : ∀ q ∈ Q, RightL q.2) :
  Calls Tryz.prog 72 #[.slice a Q.length cap] w (RetAl w Q) := by
 have hpl := fun i k hi => allQ_len hQ (fun q hq => (hR q hq).1) i k hi
 have Hpl := Lib.hid hpl
 clear hpl
 have hm1 := fun w => run_makeMapN 35 _ _ Tryz.underlying35 w
 go_enter Tryz.func72, Tryz.ntmps72
 go_wp2_with fail
 clear hm1
 have hI0 : AlI w (w.alloc (.map #[] 0)) Q (preQ Q 0 0) := by
  have e0 : preQ Q 0 0 = [] := by simp [preQ, preO]
  rw [e0]
  exact ⟨⟨0, by rw [hF_nil]; exact MZ.made w, Nat.le_refl _⟩, clear_nil Q, bl_alloc w _⟩
 generalize w.alloc (.map #[] 0) = w1 at hI0 ⊢
 go_loopg [15] Q.length (fun r iv wj => ∃ i : Nat, i + r = Q.length ∧ iv = .int .i64 i ∧ AlI w wj Q (preQ Q i 0))
 case atStart => exact ⟨0, by omega, rfl, hI0⟩
 case round =>
  clear hI0
  obtain ⟨i, hi, rfl, hI⟩ := hrel
  have Hi := Lib.hid hi
  by_cases hil : i < Q.length
  ·
   clear hi; have hqi : Q[i]? = some Q[i] := List.getElem?_eq_getElem hil; have hRq := hR _ (List.getElem_mem hil); have hln := lnQ_at hil; have hkd := kdQ_at hil; obtain ⟨bp, op, au, cu, rfl, p0w, p1w, hrq, hcu, hcm⟩ := hr i _ hqi; obtain ⟨⟨kd, ls⟩, hq⟩ : ∃ q : Pt, Q[i] = q := ⟨_, rfl⟩
   rw [hq] at p0w p1w hrq hcu hRq hln hkd; simp only at p0w p1w hrq hcu hRq hln hkd; have hlsl := hRq.1; have p0 := keep_cell hI.bel p0w; have p1 := keep_cell hI.bel p1w; have iI : (i : Int) < (Q.length : Int) := by omega
   have Hln := Lib.hid hln; have Hkd := Lib.hid hkd; have HRq := Lib.hid hRq; clear hln hkd hRq hq hqi; have hbl := bl_alloc wr (.cells #[.int .i64 kd, .slice au ls.length cu] 49); have d0 : (wr.alloc (.cells #[.int .i64 kd, .slice au ls.length cu] 49)).cell? ⟨wr.heap.size, 0, none⟩ = some (.int .i64 kd) := by simp
   have d1 : (wr.alloc (.cells #[.int .i64 kd, .slice au ls.length cu] 49)).cell? ⟨wr.heap.size, 1, none⟩ = some (.slice au ls.length cu) := by simp
   have hIa := hI.grown hbl; have hw8 : w.heap.size < wr.heap.size := by obtain ⟨c, h1, _⟩ := hI.mz; exact h1.lt
   by_cases hk3 : kd = 3
   ·
    subst hk3; have hcol := colO_row Hkd.out; have hIn : AlI w (wr.alloc (.cells #[.int .i64 3, .slice au ls.length cu] 49)) Q (preQ Q (i + 1) 0) := by
     obtain ⟨⟨c, h1, h2⟩, h3, h4⟩ := hIa; refine ⟨⟨c, ?_, ?_⟩, ?_, h4⟩
     · unfold hF lastO at h1 ⊢; rw [hcol]; exact h1
     ·
      rw [preQ_zero] at h2 ⊢; rw [preO_succ, List.length_append]; omega
     · unfold clearP at h3 ⊢; rw [hcol]; exact h3
    clear hI hIa hcol; go_wp2_with fail; go_roundg (gk - 1)
    case measure => have := Hi.out; omega
    case rel => exact ⟨i + 1, by have := Hi.out; omega, by go_num, hIn⟩
   ·
    have e3 : (kd == 3) = false := beq_eq_false_iff_ne.2 hk3; have Hk3 := Lib.hid hk3; clear hk3 hI; obtain ⟨gko, hgko⟩ : ∃ g, g = gk := ⟨_, rfl⟩
    have Hgko := Lib.hid hgko; obtain ⟨B8, hB8⟩ : ∃ b, b = wr.heap.size := ⟨_, rfl⟩
    clear hgko; go_upto_region 7 with (fail)
    rw [← hB8] at d0 d1 hw8 ⊢; clear hB8 p0 p1 hbl; generalize (wr.alloc (.cells #[.int .i64 kd, .slice au ls.length cu] 49)) = wa at *
    go_loopg [26] ls.length (fun r kv wj => ∃ k : Nat, k + r = ls.length ∧ kv = .int .i64 k ∧ AlI w wj Q (preQ Q i k) ∧ wj.cell? ⟨B8, 0, none⟩ = some (.int .i64 kd))
    case atStart => exact ⟨0, by omega, rfl, hIa, d0⟩
    case round =>
     clear hIa d0 d1; obtain ⟨k, hk, rfl, hI, d0⟩ := hrel; have Hk := Lib.hid hk; by_cases hkl : k < ls.length
     ·
      clear hk; obtain ⟨b1, o1, rfl, q0, q1, q2⟩ := (hrq.below hI.bel).at k hkl; have hpre : preQ Q i (k + 1) = preQ Q i k ++ [(i, ls[k])] := by
       have := preQ_succ Q i k (by rw [Hln.out]; exact hkl); rw [this]; congr 3; simp [Hln.out]
      have hok := HRq.out.2.1 _ (List.getElem_mem hkl); obtain ⟨⟨x, y, z⟩, hxe⟩ : ∃ u : Lk, ls[k] = u := ⟨_, rfl⟩
      rw [hxe] at q0 q1 q2 hpre hok; simp only at q0 q1 q2; have hwz : WfZ z := wfZ_of (by unfold OkL at hok; simp only at hok; omega); have i2 : (k : Int) < (ls.length : Int) := by omega
      have hll := Hpl.out i k (by omega); have hbl := bl_alloc wr (.cells #[.int .i64 x, .int .i64 y, .int .i64 z] 38); have hI2 := hI.grown hbl; have g0 := keep_cell hbl d0; obtain ⟨l, hl⟩ : ∃ l, l = preQ Q i k := ⟨_, rfl⟩
      rw [← hl] at hpre hI2 hll; have Hpre := Lib.hid hpre; clear hxe hok hl hI hpre; by_cases hz : z = 0
      ·
       subst hz; have hno : mayO Q (i, ((x, y, 0) : Lk)) = false := by simp [mayO]
       have hI3 : AlI w (wr.alloc (.cells #[.int .i64 x, .int .i64 y, .int .i64 0] 38)) Q (l ++ [(i, (x, y, 0))]) := by
        obtain ⟨⟨c, h1, h2⟩, h3, h4⟩ := hI2; exact ⟨⟨c, by rw [hF_no hno]; exact h1, by rw [List.length_append]; omega⟩, clear_no hno h3, h4⟩
       clear hno hI2 hbl; go_wp2_with fail; go_roundg (gk - 1)
       case measure => have := Hk.out; omega
       case rel => exact ⟨k + 1, by have := Hk.out; omega, by go_num, by rw [Hpre.out]; exact hI3, g0⟩
      ·
       have e1 : (z == 0) = false := beq_eq_false_iff_ne.2 hz; have hyes : mayO Q (i, ((x, y, z) : Lk)) = true := by
        unfold mayO; simp only [Hkd.out]; simp [Hk3.out, hz]
       have Hyes := Lib.hid hyes; obtain ⟨c, hmz, hcl⟩ := hI2.mz; have hlk := hmz.lookOk hwz; have HI2 := Lib.hid hI2; clear hyes hI2 hz; cases hla : lastO Q l z with
       | none =>
        have hF0 : hF Q l z = none := by unfold hF; rw [hla]; rfl
        rw [hF0] at hlk; simp only [Option.getD_none, Option.isSome_none] at hlk; have Hla := Lib.hid hla; clear hla hF0; go_wp2_with fail; go_quiet (fail)
        clear hlk; have Hm := Lib.hid (MZ.block (w' := (wr.alloc (.cells #[.int .i64 x, .int .i64 y, .int .i64 z] 38)).drewN nq) hmz rfl); go_wp2_with (at_mapUpdate; refine wpList_put_MZ rfl _ _ _ rfl Hm.out (k := z) (v := (i : Int)) rfl rfl rfl hwz (wfZ_of (by omega)) (by omega) ?_; intro w6 hm6 hg6); have hI3 : AlI w w6 Q (l ++ [(i, (x, y, z))]) := by
         have h6 := hF_yes (l := l) Hyes.out; simp only at h6; rw [h6] at hm6; exact ⟨⟨_, hm6, by rw [List.length_append, List.length_singleton]; split <;> omega⟩, clear_yes Hyes.out HI2.out.clr (fun q hq => by rw [Hla.out] at hq; cases hq), (below_drewN HI2.out.bel nq).grown hg6 (below_drewN HI2.out.bel nq).size (fun j hj => by cases hj; exact Nat.le_refl _)⟩
        have g6 := grown_cell hg6 g0 (fun e => by have := Option.some.inj e; omega); clear hm6 hg6; go_roundg (gk - 1)
        case measure => have := Hk.out; omega
        case rel => exact ⟨k + 1, by have := Hk.out; omega, by go_num, by rw [Hpre.out]; exact hI3, g6⟩
       | some p =>
        have hF0 : hF Q l z = some (p.1 : Int) := by unfold hF; rw [hla]; rfl
        rw [hF0] at hlk; simp only [Option.getD_some, Option.isSome_some] at hlk; have hpm := lastO_mem hla; have Hla := Lib.hid hla; have hpn : p.1 < Q.length := by
         have h1 : p ∈ preQ Q i (k + 1) := by rw [Hpre.out]; simp [hpm]
         obtain ⟨b, hb⟩ := preO_take Q i (k + 1) (by omega); have h2 : p ∈ allQ Q := by rw [hb]; simp [h1]
         exact lnQ_mem (mem_allQ.1 h2)
        obtain ⟨b9, o9, a9, c9, he9, pk0, _, _, _, _⟩ := hr p.1 _ (List.getElem?_eq_getElem hpn); cases he9; obtain ⟨kq, hkq⟩ : ∃ kq, kq = Q[p.1].1 := ⟨_, rfl⟩
        have hkp : kdQ Q p.1 = kq := by rw [kdQ_at hpn, hkq]
        rw [← hkq] at pk0; have Hkp := Lib.hid hkp; have pk := keep_cell HI2.out.bel pk0; have i3 : (p.1 : Int) < (Q.length : Int) := by omega
        clear hla hF0 hpm hkp hkq pk0; by_cases hkk : kq = kd
        ·
         have e2 : (kq == kd) = true := by simpa using hkk
         have hal : alikeP Q p.1 i z := by
          obtain ⟨b, hb⟩ := preO_take Q i (k + 1) (by omega); rw [Hpre.out] at hb; exact alike_at (l := l) (b := b) (p := (i, (x, y, z))) (q := p) (by rw [hb]; simp) Hyes.out Hla.out (by simp only; rw [Hkp.out, Hkd.out]; exact hkk)
         have Hal := Lib.hid hal; clear hal hkk; go_wp2_with fail; go_quiet (fail)
         clear hlk; go_wp2_with fail; go_quiet (fail)
         go_wp2_with fail; go_ret3; exact ⟨below_drewN (below_drewN HI2.out.bel _) _, .inl ⟨p.1, i, z, hpn, hil, Hal.out, rfl⟩⟩
        ·
         have e2 : (kq == kd) = false := by simpa using hkk
         have Hkk := Lib.hid hkk; clear hkk; go_wp2_with fail; go_quiet (fail)
         clear hlk; have Hm := Lib.hid (MZ.block (w' := (wr.alloc (.cells #[.int .i64 x, .int .i64 y, .int .i64 z] 38)).drewN nq) hmz rfl); go_wp2_with (at_mapUpdate; refine wpList_put_MZ rfl _ _ _ rfl Hm.out (k := z) (v := (i : Int)) rfl rfl rfl hwz (wfZ_of (by omega)) (by omega) ?_; intro w6 hm6 hg6); have hI3 : AlI w w6 Q (l ++ [(i, (x, y, z))]) := by
          have h6 := hF_yes (l := l) Hyes.out; simp only at h6; rw [h6] at hm6; exact ⟨⟨_, hm6, by rw [List.length_append, List.length_singleton]; split <;> omega⟩, clear_yes Hyes.out HI2.out.clr (fun q hq => by rw [Hla.out] at hq; cases hq; rw [Hkp.out, Hkd.out]; exact Hkk.out), (below_drewN HI2.out.bel nq).grown hg6 (below_drewN HI2.out.bel nq).size (fun j hj => by cases hj; exact Nat.le_refl _)⟩
         have g6 := grown_cell hg6 g0 (fun e => by have := Option.some.inj e; omega); clear hm6 hg6; go_roundg (gk - 1)
         case measure => have := Hk.out; omega
         case rel => exact ⟨k + 1, by have := Hk.out; omega, by go_num, by rw [Hpre.out]; exact hI3, g6⟩
     ·
      have hkn : k = ls.length := by omega
      subst hkn; have hrow : preQ Q i ls.length = preQ Q (i + 1) 0 := by
       have := preQ_row Q i; rw [Hln.out] at this; rw [this, preQ_zero]
      rw [hrow] at hI; clear hk hrow; go_wp2_with fail; go_roundg (gko - 1)
      case measure => have := Hi.out; have := Hgko.out; omega
      case rel => exact ⟨i + 1, by have := Hi.out; have := Hgko.out; omega, by go_num, hI⟩
  ·
   have hin : i = Q.length := by omega
   subst hin; rw [preQ_zero] at hI; have hI : AlI w wr Q (allQ Q) := hI; have hb := hI.bel; have hc := hI.clr; clear hi Hi hI; go_wp2_with fail; go_ret3; exact ⟨hb, .inr ⟨hc, rfl⟩⟩
end Go.Proofs.YtagcbnpahgfgmaaGreat
namespace Go.Proofs.YtagcbnpahgfgmaaGreat
open Go Go.RowKit
set_option maxHeartbeats 1000000 in
theorem chosen_walk (ac : Option Addr) (cc cb n cl : Nat) (al : Option Addr) (c : List Lk) (t : Bool) (w : World) (hb : w.cell? ⟨cb, 0, none⟩ = some (.slice al n cl)) (hn : n ≤ 100000) (hcl : c.length ≤ 100000) (ht : chosenB n c = t) :
  Calls Tryz.prog 93 #[.slice ac c.length cc, .pointer (some ⟨cb, 0, none⟩)] w fun e w' => e = .returned (.bool t) ∧ w = w' := by
 unfold chosenB at ht
 have i1 : IntKind.i64.wrap ((n : Int) - (c.length : Int)) = (n : Int) - (c.length : Int) := IntWalk.i64_in _ (by omega)
 by_cases h1 : 1 < c.length
 ·
  have q1 : decide ((1 : Int) < (c.length : Int)) = true := by simp; omega
  rw [decide_eq_true h1, Bool.true_and] at ht
  have q1' : decide (1 < c.length) = true := by simpa using h1
  clear h1
  cases t with
  | true =>
   go_enter Tryz.func93, Tryz.ntmps93; go_wp2_with fail; go_ret; exact ⟨rfl, rfl⟩
  | false =>
   go_enter Tryz.func93, Tryz.ntmps93; go_wp2_with fail; go_ret; exact ⟨rfl, rfl⟩
 ·
  have q1 : decide ((1 : Int) < (c.length : Int)) = false := by simp; omega
  rw [decide_eq_false h1, Bool.false_and] at ht
  have q1' : decide (1 < c.length) = false := by simpa using h1
  clear h1
  subst ht
  go_enter Tryz.func93, Tryz.ntmps93
  go_wp2_with fail
  go_ret
  exact ⟨rfl, rfl⟩
def idxZ (n : Nat) (G : List (List Lk)) : Int := match G.findIdx? (chosenB n) with
 | some i => (i : Int)
 | none => -1
set_option maxHeartbeats 1000000 in
theorem indexG_walk (a al : Option Addr) (cap cb n cl : Nat) (G : List (List Lk)) (w : World) (hr : RdLs w a G) (hb : w.cell? ⟨cb, 0, none⟩ = some (.slice al n cl)) (hn : n ≤ 100000) (hl : G.length ≤ 100000) (hG : ∀ r ∈ G, r.length ≤ 100000) :
  Calls Tryz.prog 94 #[.slice a G.length cap, .func (.func 93) #[] #[.pointer (some ⟨cb, 0, none⟩)]] w fun e w' => e = .returned (.int .i64 (idxZ n G)) ∧ w = w' := by
 have HG := Lib.hid hG; clear hG
 go_enter Tryz.func94, Tryz.ntmps94
 go_wp2_with fail
 go_loopg [8] G.length (fun r iv wj => ∃ i : Nat, i + r = G.length ∧ iv = .int .i64 i ∧ (∀ j (h : j < G.length), j < i → chosenB n G[j] = false) ∧ w = wj)
 case atStart => exact ⟨0, by omega, rfl, fun j h hj => absurd hj (by omega), rfl⟩
 case round =>
  obtain ⟨i, hi, rfl, hall, rfl⟩ := hrel
  have Hi := Lib.hid hi; have Hall := Lib.hid hall
  clear hall
  by_cases hil : i < G.length
  ·
   clear hi; obtain ⟨R, hR⟩ : ∃ R, G[i] = R := ⟨_, rfl⟩
   have hRi : G[i]? = some R := by rw [List.getElem?_eq_getElem hil, hR]
   obtain ⟨bo, oo, au, cu, rfl, p0, _, _, _⟩ := hr i R hRi; have hRl := HG.out R (by rw [← hR]; exact List.getElem_mem _); obtain ⟨t, ht⟩ : ∃ t, chosenB n R = t := ⟨_, rfl⟩
   have hcw := chosen_walk au cu cb n cl al R t w hb hn hRl ht; have Hcw := Lib.hid hcw; have HR := Lib.hid hR; have Ht := Lib.hid ht; clear hRi hR hcw ht; go_wp2_with fail; refine Hcw.out.mono ?_; rintro e w' ⟨rfl, rfl⟩; cases t with
   | true =>
    have hfin : idxZ n G = (i : Int) := by
     unfold idxZ; have : G.findIdx? (chosenB n) = some i := List.findIdx?_eq_some_iff_getElem.2 ⟨hil, by rw [HR.out]; exact Ht.out, fun j hj => by rw [Hall.out j (by omega) hj]; simp⟩; rw [this]
    have Hfin := Lib.hid hfin; clear hfin; go_wp2_with fail; go_ret; exact ⟨by rw [Hfin.out] <;> rfl, rfl⟩
   | false =>
    have hnx : ∀ j (h : j < G.length), j < i + 1 → chosenB n G[j] = false := fun j h hj => by
     by_cases e : j < i
     · exact Hall.out j h e
     ·
      obtain rfl : j = i := by omega
      rw [HR.out]; exact Ht.out
    have Hnx := Lib.hid hnx; clear hnx; go_wp2_with fail; go_roundg (gk - 1)
    case measure => have := Hi.out; omega
    case rel => exact ⟨i + 1, by have := Hi.out; omega, by go_num, Hnx.out, rfl⟩
  ·
   have hin : i = G.length := by omega
   subst hin; have hfin : idxZ n G = -1 := by
    unfold idxZ; have : G.findIdx? (chosenB n) = none := List.findIdx?_eq_none_iff.2 fun r hr => by
     obtain ⟨j, hj, rfl⟩ := List.getElem_of_mem hr; exact Hall.out j hj hj
    rw [this]
   have Hfin := Lib.hid hfin; clear hfin hi; go_wp2_with fail; go_ret; exact ⟨by rw [Hfin.out] <;> rfl, rfl⟩
def RetSides (w : World) (s : List Lk × List Lk) (e : Ending) (w' : World) : Prop :=
 ∃ v1 v2, e = .returned (.tuple #[v1, v2]) ∧ OwnL w' v1 s.1 ∧ OwnL w' v2 s.2 ∧ (∀ g, v1.ownBlock = some g → w.heap.size ≤ g) ∧ (∀ g, v2.ownBlock = some g → w.heap.size ≤ g) ∧ Below w.heap.size w w'
end Go.Proofs.YtagcbnpahgfgmaaGreat
namespace Go.Proofs.YtagcbnpahgfgmaaGreat
open Go Go.RowKit
theorem sides_take_le {ls : List Lk} {wo : List Int} (hR : RightL ls) (f t i : Nat) (hi : i ≤ (groupsL ls wo).length) : (inS f t (groupsL ls wo) i).length + (outS f t (groupsL ls wo) i).length ≤ ls.length := by
 rw [inS_len f t _ i hi]
 have h := congrArg (fun l => (lensL l).sum) (List.take_append_drop i (groupsL ls wo))
 have h2 := lens_sum (wo := wo) hR
 unfold lensL at h h2 ⊢
 simp only [List.map_append, List.sum_append] at h
 omega
set_option maxRecDepth 100000 in
set_option maxHeartbeats 8000000 in
theorem sides_walk (a : Option Addr) (cap : Nat) (ls : List Lk) (p q num : Int) (w : World) (hr : RdL w a ls) (h2 : twoL ls = true) (hmay : mayB ls p q = true) (hp : WfZ p) (hq : WfZ q) :
  Calls Tryz.prog 71 #[.slice a ls.length cap, .int .i64 p, .int .i64 q, .int .i64 num] w (RetSides w (sidesL ls p q num)) := by
 have hR := two_right h2
 have hn := hR.1
 obtain ⟨G, hG⟩ : ∃ G, G = groupsL ls [p, q] := ⟨_, rfl⟩
 have hcl : classesL ls p q = (G, 0) := by unfold classesL; rw [hmay, hG]; rfl
 have hGl : G.length ≤ 1000 := by rw [hG]; exact groups_len_le _ _
 have hGr : ∀ (i : Nat) r, G[i]? = some r → 0 < r.length ∧ r.length ≤ 1000 := fun i r h => by
  rw [hG] at h
  obtain ⟨i0, _, X⟩ := grp_at ((rightL_iff ls).2 hR) h
  exact ⟨List.length_pos_of_mem X.self, Nat.le_trans X.sub.length_le hn⟩
 have hGr2 : ∀ r ∈ G, r.length ≤ 100000 := fun r hr => by
  obtain ⟨i, hi⟩ := List.getElem?_of_mem hr
  have := (hGr i r hi).2
  omega
 obtain ⟨⟨F, T⟩, hft⟩ : ∃ ft, ft = fromTo ls.length G := ⟨_, rfl⟩
 have hsd : sidesL ls p q num = (sortL ((p, q, num) :: inS F T G G.length), sortL ((p, q, num) :: outS F T G G.length)) := by
  unfold sidesL
  simp only
  rw [← hG, ← hft]
 have hidx : (F = 0 ∧ T = 2 ∧ idxZ ls.length G = -1) ∨ (T = F + 1 ∧ idxZ ls.length G = (F : Int) ∧ F < G.length) := by
  unfold fromTo at hft
  unfold idxZ
  cases hf : G.findIdx? (chosenB ls.length) with
  | none => rw [hf] at hft; cases hft; exact .inl ⟨rfl, rfl, rfl⟩
  | some i =>
   rw [hf] at hft; cases hft; exact .inr ⟨rfl, rfl, by rw [List.findIdx?_eq_some_iff_getElem] at hf; exact hf.1⟩
 have hTb : T ≤ 1001 ∧ F ≤ 1001 := by rcases hidx with ⟨a1, a2, _⟩ | ⟨a1, _, a3⟩ <;> omega
 have htl : ∀ f t i, i ≤ G.length → (inS f t G i).length + (outS f t G i).length ≤ ls.length := fun f t i hi => by rw [hG] at hi ⊢; exact sides_take_le hR f t i hi
 have Hcl := Lib.hid hcl; have HG := Lib.hid hG; have HGr := Lib.hid hGr; have HGr2 := Lib.hid hGr2; have Hsd := Lib.hid hsd; have Hidx := Lib.hid hidx; have Htl := Lib.hid htl; have Hp := Lib.hid hp; have Hq := Lib.hid hq
 clear hcl hG hGr hGr2 hft hsd hidx htl h2 hmay hp hq hR
 have hbA := bl_alloc w (.cells #[.slice a ls.length cap] 22)
 have hbx : (w.alloc (.cells #[.slice a ls.length cap] 22)).cell? ⟨w.heap.size, 0, none⟩ = some (.slice a ls.length cap) := by simp
 have hrA := hr.below hbA
 go_enter Tryz.func71, Tryz.ntmps71
 go_wp2_with fail
 refine (classes_walk a cap ls p q _ hrA (by omega) Hp.out Hq.out).mono ?_
 rw [Hcl.out]
 rintro e w1 ⟨vo, vals, rfl, hL, hb1⟩
 simp only at hL ⊢
 obtain ⟨ao, co, rfl, hrG, _, _⟩ := hL.read
 have hbW := bl_trans hbA hb1
 have hbx1 := keep_cell hb1 hbx
 clear hL hb1 hbx hrA hbA hr
 go_wp2_with fail
 refine (indexG_walk ao a co w.heap.size ls.length cap G _ hrG hbx1 (by omega) (by omega) HGr2.out).mono ?_
 rintro e w' ⟨rfl, rfl⟩
 obtain ⟨z, hz⟩ : ∃ z, z = idxZ ls.length G := ⟨_, rfl⟩
 rw [← hz]
 have Hz := Lib.hid hz
 clear hz
 go_upto_if 32 with (fail)
 go_cut [13, 14] (fun f t wx => f = .int .i64 (F : Nat) ∧ t = .int .i64 (T : Nat) ∧ w1 = wx)
 case first =>
  rcases Hidx.out with ⟨rfl, rfl, hz⟩ | ⟨rfl, hz, hFl⟩
  ·
   rw [← Hz.out] at hz; subst hz; go_wp2_with fail; go_meet
   exact ⟨rfl, rfl, rfl⟩
  ·
   rw [← Hz.out] at hz; have z0 : decide (0 ≤ z) = true := by simp; omega
   have hz2 : z = (F : Int) := hz; subst hz2; clear z0; go_wp2_with fail; go_meet
   exact ⟨rfl, by go_num, rfl⟩
 case rest =>
 obtain ⟨rfl, rfl, rfl⟩ := hcut
 obtain ⟨x0, hx0⟩ : ∃ x0 : Lk, x0 = (p, q, num) := ⟨_, rfl⟩
 go_upto_region 9 with (fail)
 have ha1 := bl_alloc w1 (.cells #[.int .i64 p, .int .i64 q, .int .i64 num] 38)
 have hx1 : Row (w1.alloc (.cells #[.int .i64 p, .int .i64 q, .int .i64 num] 38)) w1.heap.size 38 3 1 (lkCells [x0]) := by
  have := row_new w1 #[.int .i64 p, .int .i64 q, .int .i64 num] 38 3 1 rfl (by unfold maxLen; omega)
  rw [hx0]
  simpa [lkCells] using this
 have hs2 : (w1.alloc (.cells #[.int .i64 p, .int .i64 q, .int .i64 num] 38)).heap.size = w1.heap.size + 1 := by simp
 generalize w1.alloc (.cells #[.int .i64 p, .int .i64 q, .int .i64 num] 38) = w2 at ha1 hx1 hs2 ⊢
 have ha2 := bl_alloc w2 (.cells #[.int .i64 p, .int .i64 q, .int .i64 num] 38)
 have hy1 : Row (w2.alloc (.cells #[.int .i64 p, .int .i64 q, .int .i64 num] 38)) (w1.heap.size + 1) 38 3 1 (lkCells [x0]) := by
  have := row_new w2 #[.int .i64 p, .int .i64 q, .int .i64 num] 38 3 1 rfl (by unfold maxLen; omega)
  rw [hs2] at this
  rw [hx0]
  simpa [lkCells] using this
 have hx2 := hx1.below ha2 hx1.lt
 have hb3 : Below w1.heap.size w1 (w2.alloc (.cells #[.int .i64 p, .int .i64 q, .int .i64 num] 38)) := bl_trans ha1 ha2
 generalize w2.alloc (.cells #[.int .i64 p, .int .i64 q, .int .i64 num] 38) = w3 at hy1 hx2 hb3 ⊢
 have hou : OwnL w3 (.slice (some ⟨w1.heap.size, 0, none⟩) 1 1) [x0] := hx2.own rfl (Nat.le_refl _)
 have hov : OwnL w3 (.slice (some ⟨w1.heap.size + 1, 0, none⟩) 1 1) [x0] := hy1.own rfl (Nat.le_refl _)
 have Hou := Lib.hid hou; have Hov := Lib.hid hov; have Hx0 := Lib.hid hx0
 clear hx1 hx2 hy1 ha1 ha2 hs2 hou hov hx0
 go_wp2_with fail
 go_loopg [16, 17, 48] G.length (fun r ov tv iv wj => ∃ (i : Nat) (u v : Value), i + r = G.length ∧ iv = .int .i64 i ∧ u = ov ∧ v = tv ∧ OwnL wj u (x0 :: inS F T G i) ∧ OwnL wj v (x0 :: outS F T G i) ∧ (∀ g, u.ownBlock = some g → w1.heap.size ≤ g) ∧ (∀ g, v.ownBlock = some g → w1.heap.size ≤ g ∧ u.ownBlock ≠ some g) ∧ Below w1.heap.size w1 wj)
 case atStart => exact ⟨0, _, _, by omega, rfl, rfl, rfl, Hou.out, Hov.out, (fun g hg => by have e : w1.heap.size = g := Option.some.inj hg; omega), (fun g hg => by have e : w1.heap.size + 1 = g := Option.some.inj hg; exact ⟨by omega, fun h => by have e2 : w1.heap.size = g := Option.some.inj h; omega⟩), hb3⟩
 case round =>
  clear hb3
  obtain ⟨i, u, v, hi, rfl, rfl, rfl, hu, hv, hub, hvb, hbj⟩ := hrel
  have Hi := Lib.hid hi; have Hu := Lib.hid hu; have Hv := Lib.hid hv; have Hlu := Lib.hid hub; have Hlv := Lib.hid hvb
  clear hu hv hub hvb
  by_cases hil : i < G.length
  ·
   clear hi; obtain ⟨R, hR⟩ : ∃ R, G[i] = R := ⟨_, rfl⟩
   have hRi : G[i]? = some R := by rw [List.getElem?_eq_getElem hil, hR]
   obtain ⟨bo, oo, au, cu, rfl, p0G, hrR, hRc, hcm⟩ := hrG i R hRi; have hR0 := HGr.out i R hRi; obtain ⟨b1, o1, rfl, _⟩ := hrR.at 0 hR0.1; have p0 := keep_cell hbj p0G; have e1 := inS_succ F T G i hil; have e2 := outS_succ F T G i hil; rw [hR] at e1 e2; have htl := Htl.out F T i (by omega); have hlt1 := Hidx.out; obtain ⟨hR1, hR2⟩ := hR0; clear hRi hR hlt1; by_cases hF : F ≤ i
   ·
    have q1 : decide ((F : Int) ≤ (i : Int)) = true := by simp; omega
    have q1' : decide (F ≤ i) = true := by simpa using hF
    by_cases hT : i < T
    ·
     have q2 : decide ((i : Int) < (T : Int)) = true := by simp; omega
     have q2' : decide (i < T) = true := by simpa using hT
     rw [if_pos ⟨hF, hT⟩] at e1; rw [if_pos ⟨hF, hT⟩, List.append_nil] at e2; have hPA : x0 :: inS F T G (i + 1) = (x0 :: inS F T G i) ++ R := by rw [e1] <;> simp
     have hPB : x0 :: outS F T G (i + 1) = x0 :: outS F T G i := by rw [e2] <;> simp
     obtain ⟨oA, hoA⟩ : ∃ o, o = x0 :: inS F T G i := ⟨_, rfl⟩
     obtain ⟨oB, hoB⟩ : ∃ o, o = x0 :: outS F T G i := ⟨_, rfl⟩
     have hua := Hu.out; have hub := Hv.out; have hoAl : oA.length ≤ 1001 := by rw [hoA, List.length_cons]; omega
     rw [← hoA] at hua hPA; rw [← hoB] at hub hPB; have Hua := Lib.hid hua; have Hub := Lib.hid hub; have HPA := Lib.hid hPA; have HPB := Lib.hid hPB; have hnews : ∀ (j : Nat) v, (lkCells R)[j]? = some v → wr.cell? ((⟨b1, o1, none⟩ : Addr).add j) = some v := fun j v hj => by
      obtain ⟨b', o', e1, e2⟩ := (hrR.below hbj) j v hj; cases e1; rw [addr_add]; exact e2
     have Hone := Lib.hid (lkCells_one R); have Hnews := Lib.hid hnews; have Hlen := Lib.hid (lkCells_length R); have hltB : ∀ g, v.ownBlock = some g → g < wr.heap.size := fun g h => Own.lt hub h; have hneAB : ∀ g, v.ownBlock = some g → u.ownBlock ≠ some g := (fun g h => (Hlv.out g h).2)
     have hloA : ∀ g, u.ownBlock = some g → w1.heap.size ≤ g := Hlu.out; have HltB := Lib.hid hltB; have HneAB := Lib.hid hneAB; have HloA := Lib.hid hloA; clear hua hub hPA hPB hoA hoB hnews hltB hneAB hloA; go_wp2_with (at_builtin; refine wpList_append_row _ rfl (.tmp 61) (.tmp 62) 22 rfl 38 (.agg #[.int .i64 0, .int .i64 0, .int .i64 0]) 3 24 Tryz.underlying22 link_info rfl u oA.length _ rfl Hua.out ⟨b1, o1, none⟩ R.length cu (lkCells R) rfl Hlen.out Hnews.out Hone.out (by omega) (by unfold maxLen; omega) (by omega) ?_); intro g5 c5 w5 hr5 hc5 hg5 hor5; have hb5 : Below w1.heap.size w1 w5 := hbj.grown hg5 hbj.size (fun j hj => HloA.out j hj); have hg6 : w1.heap.size ≤ g5 := by
      rcases hor5 with h | h
      · exact HloA.out g5 h
      · have := hbj.size; omega
     have hg7 : ∀ g, v.ownBlock = some g → g5 ≠ g := fun g hg e => by
      subst e; rcases hor5 with h | h
      · exact HneAB.out g5 hg h
      · have := HltB.out g5 hg; omega
     have hr6 : OwnL w5 (.slice (some ⟨g5, 0, none⟩) (oA.length + R.length) c5) (oA ++ R) := by
      have h1 : Row w5 g5 38 3 c5 (lkCells (oA ++ R)) := by rw [lkCells_append]; exact hr5
      have := h1.own (n := oA.length + R.length) (by rw [lkCells_length]; simp) hc5; unfold OwnL; rw [List.length_append]; exact this
     have hr7 : OwnL w5 v oB := OwnL.grown Hub.out hg5 HneAB.out; have Hr6 := Lib.hid hr6; have Hr7 := Lib.hid hr7; have Hg7 := Lib.hid hg7; clear hr5 hg5 hor5 hr6 hr7 hg7; go_wp2_with fail; go_roundg (gk - 1)
     case measure => have := Hi.out; omega
     case rel => exact ⟨i + 1, _, v, by have := Hi.out; omega, by go_num, rfl, rfl, by rw [HPA.out]; exact Hr6.out, by rw [HPB.out]; exact Hr7.out, (fun g hg => by cases hg; exact hg6), (fun g hg => ⟨(Hlv.out g hg).1, fun h => by cases h; exact Hg7.out _ hg rfl⟩), hb5⟩
    ·
     have q2 : decide ((i : Int) < (T : Int)) = false := by simp; omega
     have q2' : decide (i < T) = false := by simpa using hT
     rw [if_neg (fun h => hT h.2), List.append_nil] at e1; rw [if_neg (fun h => hT h.2)] at e2; have hPA : x0 :: outS F T G (i + 1) = (x0 :: outS F T G i) ++ R := by rw [e2] <;> simp
     have hPB : x0 :: inS F T G (i + 1) = x0 :: inS F T G i := by rw [e1] <;> simp
     obtain ⟨oA, hoA⟩ : ∃ o, o = x0 :: outS F T G i := ⟨_, rfl⟩
     obtain ⟨oB, hoB⟩ : ∃ o, o = x0 :: inS F T G i := ⟨_, rfl⟩
     have hua := Hv.out; have hub := Hu.out; have hoAl : oA.length ≤ 1001 := by rw [hoA, List.length_cons]; omega
     rw [← hoA] at hua hPA; rw [← hoB] at hub hPB; have Hua := Lib.hid hua; have Hub := Lib.hid hub; have HPA := Lib.hid hPA; have HPB := Lib.hid hPB; have hnews : ∀ (j : Nat) v, (lkCells R)[j]? = some v → wr.cell? ((⟨b1, o1, none⟩ : Addr).add j) = some v := fun j v hj => by
      obtain ⟨b', o', e1, e2⟩ := (hrR.below hbj) j v hj; cases e1; rw [addr_add]; exact e2
     have Hone := Lib.hid (lkCells_one R); have Hnews := Lib.hid hnews; have Hlen := Lib.hid (lkCells_length R); have hltB : ∀ g, u.ownBlock = some g → g < wr.heap.size := fun g h => Own.lt hub h; have hneAB : ∀ g, u.ownBlock = some g → v.ownBlock ≠ some g := (fun g h h2 => (Hlv.out g h2).2 h)
     have hloA : ∀ g, v.ownBlock = some g → w1.heap.size ≤ g := (fun g h => (Hlv.out g h).1)
     have HltB := Lib.hid hltB; have HneAB := Lib.hid hneAB; have HloA := Lib.hid hloA; clear hua hub hPA hPB hoA hoB hnews hltB hneAB hloA; go_wp2_with (at_builtin; refine wpList_append_row _ rfl (.tmp 64) (.tmp 65) 22 rfl 38 (.agg #[.int .i64 0, .int .i64 0, .int .i64 0]) 3 24 Tryz.underlying22 link_info rfl v oA.length _ rfl Hua.out ⟨b1, o1, none⟩ R.length cu (lkCells R) rfl Hlen.out Hnews.out Hone.out (by omega) (by unfold maxLen; omega) (by omega) ?_); intro g5 c5 w5 hr5 hc5 hg5 hor5; have hb5 : Below w1.heap.size w1 w5 := hbj.grown hg5 hbj.size (fun j hj => HloA.out j hj); have hg6 : w1.heap.size ≤ g5 := by
      rcases hor5 with h | h
      · exact HloA.out g5 h
      · have := hbj.size; omega
     have hg7 : ∀ g, u.ownBlock = some g → g5 ≠ g := fun g hg e => by
      subst e; rcases hor5 with h | h
      · exact HneAB.out g5 hg h
      · have := HltB.out g5 hg; omega
     have hr6 : OwnL w5 (.slice (some ⟨g5, 0, none⟩) (oA.length + R.length) c5) (oA ++ R) := by
      have h1 : Row w5 g5 38 3 c5 (lkCells (oA ++ R)) := by rw [lkCells_append]; exact hr5
      have := h1.own (n := oA.length + R.length) (by rw [lkCells_length]; simp) hc5; unfold OwnL; rw [List.length_append]; exact this
     have hr7 : OwnL w5 u oB := OwnL.grown Hub.out hg5 HneAB.out; have Hr6 := Lib.hid hr6; have Hr7 := Lib.hid hr7; have Hg7 := Lib.hid hg7; clear hr5 hg5 hor5 hr6 hr7 hg7; go_wp2_with fail; go_roundg (gk - 1)
     case measure => have := Hi.out; omega
     case rel => exact ⟨i + 1, u, _, by have := Hi.out; omega, by go_num, rfl, rfl, by rw [HPB.out]; exact Hr7.out, by rw [HPA.out]; exact Hr6.out, Hlu.out, (fun g hg => by cases hg; exact ⟨hg6, fun h => Hg7.out _ h rfl⟩), hb5⟩
   ·
    have q1 : decide ((F : Int) ≤ (i : Int)) = false := by simp; omega
    have q1' : decide (F ≤ i) = false := by simpa using hF
    rw [if_neg (fun h => hF h.1), List.append_nil] at e1; rw [if_neg (fun h => hF h.1)] at e2; have hPA : x0 :: outS F T G (i + 1) = (x0 :: outS F T G i) ++ R := by rw [e2] <;> simp
    have hPB : x0 :: inS F T G (i + 1) = x0 :: inS F T G i := by rw [e1] <;> simp
    obtain ⟨oA, hoA⟩ : ∃ o, o = x0 :: outS F T G i := ⟨_, rfl⟩
    obtain ⟨oB, hoB⟩ : ∃ o, o = x0 :: inS F T G i := ⟨_, rfl⟩
    have hua := Hv.out; have hub := Hu.out; have hoAl : oA.length ≤ 1001 := by rw [hoA, List.length_cons]; omega
    rw [← hoA] at hua hPA; rw [← hoB] at hub hPB; have Hua := Lib.hid hua; have Hub := Lib.hid hub; have HPA := Lib.hid hPA; have HPB := Lib.hid hPB; have hnews : ∀ (j : Nat) v, (lkCells R)[j]? = some v → wr.cell? ((⟨b1, o1, none⟩ : Addr).add j) = some v := fun j v hj => by
     obtain ⟨b', o', e1, e2⟩ := (hrR.below hbj) j v hj; cases e1; rw [addr_add]; exact e2
    have Hone := Lib.hid (lkCells_one R); have Hnews := Lib.hid hnews; have Hlen := Lib.hid (lkCells_length R); have hltB : ∀ g, u.ownBlock = some g → g < wr.heap.size := fun g h => Own.lt hub h; have hneAB : ∀ g, u.ownBlock = some g → v.ownBlock ≠ some g := (fun g h h2 => (Hlv.out g h2).2 h)
    have hloA : ∀ g, v.ownBlock = some g → w1.heap.size ≤ g := (fun g h => (Hlv.out g h).1)
    have HltB := Lib.hid hltB; have HneAB := Lib.hid hneAB; have HloA := Lib.hid hloA; clear hua hub hPA hPB hoA hoB hnews hltB hneAB hloA; go_wp2_with (at_builtin; refine wpList_append_row _ rfl (.tmp 64) (.tmp 65) 22 rfl 38 (.agg #[.int .i64 0, .int .i64 0, .int .i64 0]) 3 24 Tryz.underlying22 link_info rfl v oA.length _ rfl Hua.out ⟨b1, o1, none⟩ R.length cu (lkCells R) rfl Hlen.out Hnews.out Hone.out (by omega) (by unfold maxLen; omega) (by omega) ?_); intro g5 c5 w5 hr5 hc5 hg5 hor5; have hb5 : Below w1.heap.size w1 w5 := hbj.grown hg5 hbj.size (fun j hj => HloA.out j hj); have hg6 : w1.heap.size ≤ g5 := by
     rcases hor5 with h | h
     · exact HloA.out g5 h
     · have := hbj.size; omega
    have hg7 : ∀ g, u.ownBlock = some g → g5 ≠ g := fun g hg e => by
     subst e; rcases hor5 with h | h
     · exact HneAB.out g5 hg h
     · have := HltB.out g5 hg; omega
    have hr6 : OwnL w5 (.slice (some ⟨g5, 0, none⟩) (oA.length + R.length) c5) (oA ++ R) := by
     have h1 : Row w5 g5 38 3 c5 (lkCells (oA ++ R)) := by rw [lkCells_append]; exact hr5
     have := h1.own (n := oA.length + R.length) (by rw [lkCells_length]; simp) hc5; unfold OwnL; rw [List.length_append]; exact this
    have hr7 : OwnL w5 u oB := OwnL.grown Hub.out hg5 HneAB.out; have Hr6 := Lib.hid hr6; have Hr7 := Lib.hid hr7; have Hg7 := Lib.hid hg7; clear hr5 hg5 hor5 hr6 hr7 hg7; go_wp2_with fail; go_roundg (gk - 1)
    case measure => have := Hi.out; omega
    case rel => exact ⟨i + 1, u, _, by have := Hi.out; omega, by go_num, rfl, rfl, by rw [HPB.out]; exact Hr7.out, by rw [HPA.out]; exact Hr6.out, Hlu.out, (fun g hg => by cases hg; exact ⟨hg6, fun h => Hg7.out _ h rfl⟩), hb5⟩
  ·
   have hin : i = G.length := by omega
   subst hin; have htl := Htl.out F T G.length (Nat.le_refl _); obtain ⟨X, hX⟩ : ∃ X, X = x0 :: inS F T G G.length := ⟨_, rfl⟩
   obtain ⟨Y, hY⟩ : ∃ Y, Y = x0 :: outS F T G G.length := ⟨_, rfl⟩
   have hXl : X.length ≤ 1001 := by rw [hX, List.length_cons]; omega
   have hYl : Y.length ≤ 1001 := by rw [hY, List.length_cons]; omega
   have hsd := Hsd.out; rw [← Hx0.out, ← hX, ← hY] at hsd; have hu := Hu.out; have hv := Hv.out; rw [← hX] at hu; rw [← hY] at hv; obtain ⟨au, cu, rfl, hru, _, _, _⟩ := OwnL.read hu; obtain ⟨av, cv, rfl, hrv, _, _, _⟩ := OwnL.read hv; have Hsd2 := Lib.hid hsd; have hB1 := bl_trans hbW hbj; clear hX hY hsd hu hv hi htl; go_wp2_with fail; refine (sorted_walk au cu X _ hru (by omega)).mono ?_; rintro e w5 ⟨v5, rfl, ho5, hg5, hb5⟩; have hrv5 := hrv.below hb5; have hB5 := bl_trans hB1 hb5; go_wp2_with fail; refine (sorted_walk av cv Y _ hrv5 (by omega)).mono ?_; rintro e w6 ⟨v6, rfl, ho6, hg6, hb6⟩; have ho5' : OwnL w6 v5 (sortL X) := Own.ext ho5 hb6; have hs1 := hB1.size; have hs5 := hB5.size; have hB6 := bl_trans hB5 hb6; have Ho5 := Lib.hid ho5'; have Ho6 := Lib.hid ho6; have Hg5 := Lib.hid hg5; have Hg6 := Lib.hid hg6; clear ho5 ho5' ho6 hg5 hg6 hb5 hb6; go_wp2_with fail; go_ret2; rw [Hsd2.out]; exact ⟨v5, v6, rfl, Ho5.out, Ho6.out, fun g hg => by have := Hg5.out g hg; omega, fun g hg => by have := Hg6.out g hg; omega, hB6⟩
end Go.Proofs.YtagcbnpahgfgmaaGreat
