/- Facts that the claim rests on, part 12. -/
import Derived.Test.YtagjdkkfmfombaaGreatKB10
namespace Go.Proofs.YtagjdkkfmfombaaGreat
open Go Go.RowKit
def bA (l : List Int) : ByteArray := ⟨(byU l).toArray⟩
theorem strV_bA (l : List Int) : strV l = .string (bA l) := rfl
def strB (l : List Int) : Value := .string (bA l)
theorem str_info : (Tryz.prog.info? 9).map (fun i => (i.zero, i.size, i.bytes)) = some (some (.string ⟨#[]⟩), 1, 16) := by kernel_rfl
theorem bA_list (l : List Int) : (bA l).toList = byU l := by unfold bA; rw [ByteArray.toList_mk]
theorem bA_gtr {x y : List Int} (hx : ByL x) (hy : ByL y) (t : TypeId) : binOp .gtr t (.string (bA x)) (.string (bA y)) = pure (.bool (decide (cmpB y x < 0))) := by
 have e : binOp .gtr t (.string (bA x)) (.string (bA y)) = pure (.bool !(Op.bytesLess (bA x).toList (bA y).toList || (bA x).toList == (bA y).toList)) := by simp [binOp, Op.stringOp]
 rw [e, bA_list, bA_list]
 have h1 := bytesLess_iff hx hy
 have h2 := byU_inj hx hy
 have e3 : (!(Op.bytesLess (byU x) (byU y) || byU x == byU y)) = decide (cmpB y x < 0) := by
  rw [Bool.eq_iff_iff, decide_eq_true_iff, cmpB_neg]
  simp only [Bool.not_eq_true', Bool.or_eq_false_iff, beq_eq_false_iff_ne, ne_eq]
  rw [h2, ← Bool.not_eq_true, h1]
  constructor
  ·
   rintro ⟨a1, a2⟩; rcases lessB_tri x y with t | t | t
   · exact absurd t a1
   · exact absurd t a2
   · exact t
  · exact fun t => ⟨fun t2 => lessB_irr _ (lessB_trans t t2), fun t2 => by rw [t2] at t; exact lessB_irr _ t⟩
 rw [e3]
theorem bA_size (x : List Int) : (bA x).size = x.length := by rw [← byU_len]; rfl
theorem bA_app (x y : List Int) : bA x ++ bA y = bA (x ++ y) := by unfold bA; rw [byU_append, ByteArray.mk_append_mk]
def BesM (w : World) (G n : Nat) (es : List (Int × Int)) : Prop := ∀ v, v < n → ∃ av cv, w.cell? ⟨G, v, none⟩ = some (.slice av (adj es v).length cv) ∧ CellsAt w av ((adj es v).map vN)
theorem BesM.below {w w' : World} {G n : Nat} {es : List (Int × Int)} (h : BesM w G n es) (hb : Below w.heap.size w w') : BesM w' G n es := fun v hv => by
 obtain ⟨av, cv, h1, h2⟩ := h v hv
 exact ⟨av, cv, keep_cell hb h1, h2.below hb⟩
theorem RetBeside.bes {w w' : World} {n : Nat} {es : List (Int × Int)} {e : Ending} (h : RetBeside w n (besideL n es) e w') : ∃ G, e = .returned (.slice (some ⟨G, 0, none⟩) n n) ∧ BesM w' G n es ∧ Below w.heap.size w w' := by
 obtain ⟨G, vals, h1, _, h3, h4⟩ := h
 refine ⟨G, h1, fun v hv => ?_, h4⟩
 have hl : vals.length = n := by rw [h3.len]; simp [rowsV, besideL]
 have hu : vals[v]? = some vals[v] := List.getElem?_eq_getElem (by omega)
 have hr : (rowsV (besideL n es))[v]? = some ((adj es v).map vN) := by
  unfold rowsV
  rw [List.getElem?_map, besideL_get, if_pos hv]
  rfl
 obtain ⟨av, cv, h5, h6⟩ := own_cells (h3.own v _ _ hu hr)
 rw [List.length_map] at h5
 refine ⟨av, cv, ?_, h6⟩
 rw [h3.outer.cell? v (by omega), hu, h5]
def kidK (es : List (Int × Int)) (v : Nat) (u : Int) (k : Nat) : List Nat := ((adj es v).take k).filter fun w => !decide ((w : Int) = u)
theorem kidK_all (es : List (Int × Int)) (v : Nat) (u : Int) : kidK es v u (adj es v).length = kidsT es v u := by unfold kidK kidsT; rw [List.take_length]
theorem kidK_succ {es : List (Int × Int)} {v : Nat} {u : Int} {k x : Nat} (h : (adj es v)[k]? = some x) : kidK es v u (k + 1) = if (x : Int) = u then kidK es v u k else kidK es v u k ++ [x] := by
 unfold kidK
 rw [List.take_add_one, h]
 simp only [Option.toList_some, List.filter_append]
 by_cases e : (x : Int) = u <;> simp [e]
theorem kidK_len (es : List (Int × Int)) (v : Nat) (u : Int) (k : Nat) : (kidK es v u k).length ≤ k := by
 unfold kidK
 have := List.length_filter_le (fun w : Nat => !decide ((w : Int) = u)) ((adj es v).take k)
 rw [List.length_take] at this
 omega
theorem flat_take (L : List (List Int)) (k : Nat) : (L.take k).flatten.length ≤ L.flatten.length := by
 have : L.flatten = (L.take k).flatten ++ (L.drop k).flatten := by rw [← List.flatten_append, List.take_append_drop]
 rw [this, List.length_append]
 omega
theorem flat_one {L : List (List Int)} {x : List Int} (h : x ∈ L) : x.length ≤ L.flatten.length := by
 induction L with
 | nil => cases h
 | cons y L ih =>
  rw [List.flatten_cons, List.length_append]
  rcases List.mem_cons.1 h with e | e
  · rw [e]; omega
  · have := ih e; omega
section
variable {n r N : Nat} {es : List (Int × Int)} {ts : List Int} {up : Nat → Int} {dep : Nat → Nat}
structure SoL (es : List (Int × Int)) (ts : List Int) (up : Nat → Int) (f v k : Nat) (L : List (List Int)) : Prop where
 eq : L = sortB ((kidK es v (up v) k).map (txH es ts up f))
theorem SoL.rises {f v k : Nat} {L : List (List Int)} (h : SoL es ts up f v k L) : L.Pairwise fun x y => ¬ lessB y x := by rw [h.eq]; exact sortB_rises _
theorem SoL.perm {f v k : Nat} {L : List (List Int)} (h : SoL es ts up f v k L) : L.Perm ((kidK es v (up v) k).map (txH es ts up f)) := by rw [h.eq]; exact List.mergeSort_perm _ _
theorem SoL.by_ {f v k : Nat} {L : List (List Int)} (h : SoL es ts up f v k L) : ∀ y ∈ L, ByL y := fun y hy => by
 obtain ⟨x, _, rfl⟩ := List.mem_map.1 (h.perm.mem_iff.1 hy)
 exact textH_by es ts f x _
theorem SoL.len {f v k : Nat} {L : List (List Int)} (h : SoL es ts up f v k L) : L.length ≤ k := by
 rw [h.perm.length_eq, List.length_map]
 exact kidK_len es v (up v) k
set_option maxRecDepth 100000 in
set_option maxHeartbeats 8000000 in
theorem hung_walk (G : Nat) (b : Option Addr) (cb : Nat) (h : HV n es r up dep) (ht : TreeV n es) (hN : ∀ v, v < n → dep v < N) (htl : ts.length = n) : ∀ (f v : Nat) (w : World), v < n → N ≤ f + dep v → BesM w G n es → RdI w b ts →
  Calls Tryz.prog 22 #[.slice (some ⟨G, 0, none⟩) n n, .slice b n cb, .int .i64 v, .int .i64 (up v)] w fun e w' => e = .returned (strV (txH es ts up f v)) ∧ Below w.heap.size w w' := by
 intro f
 induction f with
 | zero => intro v w hv hd; have := hN v hv; omega
 | succ f ih =>
 intro v w hv hd hbes hts
 obtain ⟨av, cv, hcv, hav⟩ := hbes v hv
 have hle : (txH es ts up (f + 1) v).length ≤ 6 * n := txH_le ts h ht hN hv hd
 have hn200 := ((rightB_iff n es).1 ht.right).2.1
 have hm594 : (adj es v).length ≤ 594 := by have := adj_len es v; have := ((rightB_iff n es).1 ht.right).2.2.1; omega
 have hsucc := txH_succ (ts := ts) h ht hv f
 have hkid : ∀ (k x : Nat), (adj es v)[k]? = some x → (x : Int) ≠ up v → x < n ∧ up x = (v : Int) ∧ N ≤ f + dep x := fun k x hx hne => by
  have hm : x ∈ kidsT es v (up v) := by
   unfold kidsT; rw [List.mem_filter]; exact ⟨List.mem_of_getElem? hx, by simpa using hne⟩
  obtain ⟨h1, h2⟩ := (mem_kids h ht hv).1 hm
  have := (h.root h1 h2).2.2.2
  exact ⟨h1, h2, by omega⟩
 have i0 : (v : Int) < (n : Int) := by omega
 have Hih := Lib.hid ih; have Hbes := Lib.hid hbes; have Hts := Lib.hid hts; have Hle := Lib.hid hle; have Hn2 := Lib.hid hn200; have Hm5 := Lib.hid hm594; have Hsu := Lib.hid hsucc; have Hkid := Lib.hid hkid
 have Hht := Lib.hid ht; have Htl := Lib.hid htl; have Hav := Lib.hid hav
 clear ih hbes hts hle hn200 hm594 hsucc hkid ht htl hav hd hN h
 obtain ⟨M, hM⟩ : ∃ M, M = (adj es v).length := ⟨_, rfl⟩
 rw [← hM] at hcv
 have hMb : M ≤ 594 := by rw [hM]; exact Hm5.out
 have HM := Lib.hid hM
 clear hM
 go_enter Tryz.func22, Tryz.ntmps22
 go_wp2_with fail
 go_loopg [9, 22] M (fun rr lv iv wj => ∃ (k : Nat) (a9 : Option Addr × Nat) (L : List (List Int)), k + rr = M ∧ iv = .int .i64 k ∧ (SoL es ts up f v k L ∧ lv = .slice a9.1 L.length a9.2 ∧ Own wj (.slice a9.1 L.length a9.2) 9 1 L.length (L.map strB)) ∧ (∀ g, Value.ownBlock (.slice a9.1 L.length a9.2) = some g → w.heap.size ≤ g) ∧ Below w.heap.size w wj)
 case atStart => exact ⟨0, (none, 0), [], by omega, rfl, ⟨⟨by simp [kidK, sortB]⟩, rfl, own_nil _ _ _⟩, fun g hg => by simp [Value.ownBlock] at hg, Below.refl _ _⟩
 case round =>
  obtain ⟨gq, rfl⟩ : ∃ gq, gq = gk := ⟨_, rfl⟩
  obtain ⟨k, ⟨a9, c9⟩, L, hk, rfl, ⟨hL, rfl, hown⟩, hg9, hB⟩ := hrel
  simp only at hown hg9
  have HL := Lib.hid hL; have Hg9 := Lib.hid hg9
  clear hL hg9
  by_cases hkl : k < M
  ·
   have hkl' : k < (adj es v).length := by rw [← HM.out]; exact hkl
   obtain ⟨x, hx⟩ : ∃ x, (adj es v)[k]? = some x := ⟨_, List.getElem?_eq_getElem hkl'⟩
   obtain ⟨b5, o5, rfl, hxc⟩ := (CellsAt.below Hav.out hB) k (.int .i64 (x : Int)) (by rw [List.getElem?_map, hx]; rfl); have i1 : (k : Int) < (M : Int) := by omega
   have Hx := Lib.hid hx; have Hk := Lib.hid hk; clear hx hk hkl'; by_cases hxu : (x : Int) = up v
   ·
    have hks := kidK_succ (es := es) (v := v) (u := up v) (k := k) Hx.out; rw [if_pos hxu] at hks; have Hks := Lib.hid hks; have HB := Lib.hid hB; have Hown := Lib.hid hown; clear hks hB hown; go_wp2_with fail; go_roundg (gq - 1)
    case measure => have := Hk.out; omega
    case rel => exact ⟨k + 1, (a9, c9), L, by have := Hk.out; omega, by go_num, ⟨⟨by rw [Hks.out]; exact HL.out.eq⟩, rfl, Hown.out⟩, Hg9.out, HB.out⟩
   ·
    have hks := kidK_succ (es := es) (v := v) (u := up v) (k := k) Hx.out; rw [if_neg hxu] at hks; obtain ⟨hxn, hxup, hxd⟩ := Hkid.out k x Hx.out hxu; have hc := Hih.out x wr hxn hxd (Hbes.out.below hB) (Hts.out.below hB); rw [hxup] at hc; have hsb : ByL (txH es ts up f x) := textH_by es ts f x _; have hxs : txH es ts up f x ∈ [txH es ts up f x] := List.mem_singleton.2 rfl; obtain ⟨s, hs⟩ : ∃ s, s = txH es ts up f x := ⟨_, rfl⟩
    rw [← hs] at hc hsb; have hks' : (kidK es v (up v) (k + 1)).map (txH es ts up f) = (kidK es v (up v) k).map (txH es ts up f) ++ [s] := by rw [hks, List.map_append, hs]; rfl
    have Hks := Lib.hid hks'; have HB := Lib.hid hB; have Hown := Lib.hid hown; have Hc := Lib.hid hc; have Hsb := Lib.hid hsb; clear hks hks' hB hown hc hsb hxs hs hxn hxup hxd; go_wp2_with fail; refine Hc.out.mono ?_; rw [strV_bA]; rintro e w1 ⟨rfl, hb1⟩; have hown1 := Hown.out.ext hb1; have hB1 := HB.out.trans (hb1.mono HB.out.size); have hkL := HL.out.len; have hm := Hm5.out; rw [← HM.out] at hm; have HB1 := Lib.hid (bl_trans hB1 (bl_alloc w1 (.cells #[.string (bA s)] 9))); clear hB1 hb1 Hc Hown HB; go_wp2_with (at_builtin; go_loud (refine wpList_append_row _ rfl (.tmp 36) (.tmp 38) 37 rfl 9 (.string ⟨#[]⟩) 1 16 Tryz.underlying37 str_info rfl (.slice a9 L.length c9) L.length _ rfl (hown1.alloc _) ⟨w1.heap.size, 0, none⟩ 1 1 [.string (bA s)] rfl rfl (news_lit w1 _ [_]) (by intro u hu; simp at hu; subst hu; rfl) (by omega) (by unfold maxLen; omega) (by omega) ?_; intro g3 c3 w3 hr3 hc3 hg3 hor3)); have hg3' : w.heap.size ≤ g3 := by
     have h2 := HB1.out.size; rcases hor3 with h | h
     · exact Hg9.out g3 h
     · omega
    have hB3 := HB1.out.grown hg3 HB1.out.size (fun j hj => Hg9.out j hj); have HB3 := Lib.hid hB3; have Hr3 := Lib.hid hr3; have Hg3 := Lib.hid hg3'; have Hc3 := Lib.hid hc3; clear hr3 hg3 hor3 hB3 hg3' hc3 hown1 hkL hm hxc HB1; obtain ⟨wo, rfl⟩ : ∃ wo : World, wo = wr := ⟨_, rfl⟩
    go_wp2_with fail; go_loopg [13] L.length (fun rr iv wj => ∃ (a : Nat) (X : List Int), a = rr ∧ iv = .int .i64 a ∧ a ≤ L.length ∧ Row wj g3 9 1 c3 ((L.take a ++ [X] ++ L.drop a).map strB) ∧ (∀ y ∈ L.drop a, ¬ lessB y s) ∧ Below w.heap.size w wj)
    case atStart => exact ⟨L.length, s, rfl, rfl, Nat.le_refl _, by rw [List.take_length, List.drop_length, List.append_nil, List.map_append]; exact Hr3.out, fun y hy => by simp at hy, HB3.out⟩
    case round =>
     obtain ⟨a, X, rfl, rfl, ha, hR, hup, hBj⟩ := hrel; have Hup := Lib.hid hup; clear hup Hr3 HB3; have hj0 : (L.take a ++ [X] ++ L.drop a).length = L.length + 1 := by
      rw [List.length_append, List.length_append, List.length_take, List.length_drop, List.length_singleton]; omega
     have i2 : (a : Int) < (L.length : Int) + 1 := by omega
     have hfz : wr.frozen? ⟨g3, a, none⟩ = false := hR.frozen a; have hca : wr.cell? ⟨g3, a, none⟩ = some (.string (bA X)) := by
      rw [hR.cell? a (by rw [List.length_map, hj0]; omega), List.getElem?_map, List.append_assoc, List.getElem?_append_right (by rw [List.length_take]; omega), List.length_take, show a - min a L.length = 0 by omega]; rfl
     by_cases ha0 : 0 < a
     ·
      have hal : a - 1 < L.length := by omega
      have i3 : (a : Int) - 1 = ((a - 1 : Nat) : Int) := by omega
      have i4 : IntKind.i64.wrap ((a - 1 : Nat) : Int) = ((a - 1 : Nat) : Int) := IntWalk.i64_in _ (by have := HL.out.len; omega); obtain ⟨y, hy⟩ : ∃ y, L[a - 1] = y := ⟨_, rfl⟩
      have hcell : wr.cell? ⟨g3, a - 1, none⟩ = some (.string (bA y)) := by
       rw [hR.cell? (a - 1) (by rw [List.length_map, hj0]; omega), List.getElem?_map, List.append_assoc, List.getElem?_append_left (by rw [List.length_take]; omega), List.getElem?_take, if_pos (by omega), List.getElem?_eq_getElem hal, hy]; rfl
      have hyb : ByL y := by rw [← hy]; exact HL.out.by_ _ (List.getElem_mem hal)
      have hgt := bA_gtr hyb Hsb.out 9; have htk : L.take a = L.take (a - 1) ++ [y] := by
       have := List.take_succ_eq_append_getElem hal; rw [show a - 1 + 1 = a by omega, hy] at this; exact this
      have hdr : L.drop (a - 1) = y :: L.drop a := by
       have := List.drop_eq_getElem_cons hal; rw [show a - 1 + 1 = a by omega, hy] at this; exact this
      by_cases hlt : cmpB s y < 0
      ·
       rw [decide_eq_true hlt] at hgt; have hRs := hR.set a (.string (bA y)); have hset : ((L.take a ++ [X] ++ L.drop a).map strB).set a (.string (bA y)) = (L.take (a - 1) ++ [y] ++ L.drop (a - 1)).map strB := by
        have e : (L.take a).length = a := by rw [List.length_take]; omega
        rw [hdr, ← htk, List.map_append, List.map_append, List.append_assoc, List.set_append_right _ _ (by rw [List.length_map, e]; exact Nat.le_refl _), List.length_map, e, Nat.sub_self, List.map_append]; rfl
       rw [hset] at hRs; have hup2 : ∀ z ∈ L.drop (a - 1), ¬ lessB z s := by
        rw [hdr]; intro z hz; rcases List.mem_cons.1 hz with e | e
        · rw [e]; exact fun t => lessB_irr _ (lessB_trans t ((cmpB_neg _ _).1 hlt))
        · exact Hup.out z e
       have hBs := hBj.setCell (p := ⟨g3, a, none⟩) Hg3.out (.string (bA y)); have HRs := Lib.hid hRs; have Hup2 := Lib.hid hup2; have HBs := Lib.hid hBs; have Ha := Lib.hid ha; clear hRs hup2 hBs hset htk hdr hy hyb hlt hj0 hal Hup ha; go_wp2_with fail; go_roundg (a - 1)
       case measure => omega
       case rel => exact ⟨a - 1, y, rfl, by go_num, by have := Ha.out; omega, HRs.out, Hup2.out, HBs.out⟩
      ·
       rw [decide_eq_false hlt] at hgt; have hlo : ∀ z ∈ L.take a, ¬ lessB s z := by
        rw [htk]; intro z hz; rcases List.mem_append.1 hz with e | e
        ·
         intro t; have hr := HL.out.rises; rw [← List.take_append_drop (a - 1) L, List.pairwise_append] at hr; have h3 := hr.2.2 z e y (by rw [hdr]; exact List.mem_cons_self); rcases lessB_tri y z with t2 | t2 | t2
         · exact h3 t2
         · rw [← t2] at t; exact hlt ((cmpB_neg _ _).2 t)
         · exact hlt ((cmpB_neg _ _).2 (lessB_trans t t2))
        · rw [List.mem_singleton.1 e]; exact fun t => hlt ((cmpB_neg _ _).2 t)
       have Hlo := Lib.hid hlo; clear hlo htk hdr hy hyb hlt hal; have hins := sortB_ins (L := L) (s := s) (at_ := a) HL.out.rises Hlo.out Hup.out; have hRs := hR.set a (.string (bA s)); have hset : ((L.take a ++ [X] ++ L.drop a).map strB).set a (.string (bA s)) = (L.take a ++ [s] ++ L.drop a).map strB := by
        have e : (L.take a).length = a := by rw [List.length_take]; omega
        rw [List.map_append, List.map_append, List.map_append, List.map_append, List.append_assoc, List.append_assoc, List.set_append_right _ _ (by rw [List.length_map, e]; omega), List.length_map, e, Nat.sub_self]; rfl
       rw [hset] at hRs; have hnew : L.take a ++ [s] ++ L.drop a = sortB ((kidK es v (up v) (k + 1)).map (txH es ts up f)) := by
        rw [Hks.out]; refine riseB_eq ?_ hins.2 (sortB_rises _); exact hins.1.trans ((List.Perm.append_right _ HL.out.perm).trans (List.mergeSort_perm _ _).symm)
       have hBs := hBj.setCell (p := ⟨g3, a, none⟩) Hg3.out (.string (bA s)); have hln : (L.take a ++ [s] ++ L.drop a).length = L.length + 1 := by
        rw [List.length_append, List.length_append, List.length_take, List.length_drop, List.length_singleton]; omega
       have HRs := Lib.hid hRs; have Hnew := Lib.hid hnew; have HBs := Lib.hid hBs; have Hln := Lib.hid hln; have Ha := Lib.hid ha; clear hRs hnew hBs hln hset hins ha; go_wp2_with fail; go_roundg (gq - 1)
       case measure => have := Hk.out; omega
       case rel =>
        refine ⟨k + 1, (some ⟨g3, 0, none⟩, c3), L.take a ++ [s] ++ L.drop a, by have := Hk.out; omega, by go_num, ⟨⟨Hnew.out⟩, by rw [Hln.out], ?_⟩, ?_, HBs.out⟩
        ·
         rw [Hln.out]; have := HRs.out.own (n := L.length + 1) (by rw [List.length_map, Hln.out]; omega) Hc3.out; exact this
        ·
         intro g hg; simp [Value.ownBlock] at hg; subst hg; exact Hg3.out
     ·
      have hlo : ∀ z ∈ L.take a, ¬ lessB s z := fun z hz => by
       rw [show a = 0 by omega] at hz; simp at hz
      have i3 : ¬ (a : Int) > 0 := by omega
      have Hlo := Lib.hid hlo; clear hlo ha0; have hins := sortB_ins (L := L) (s := s) (at_ := a) HL.out.rises Hlo.out Hup.out; have hRs := hR.set a (.string (bA s)); have hset : ((L.take a ++ [X] ++ L.drop a).map strB).set a (.string (bA s)) = (L.take a ++ [s] ++ L.drop a).map strB := by
       have e : (L.take a).length = a := by rw [List.length_take]; omega
       rw [List.map_append, List.map_append, List.map_append, List.map_append, List.append_assoc, List.append_assoc, List.set_append_right _ _ (by rw [List.length_map, e]; omega), List.length_map, e, Nat.sub_self]; rfl
      rw [hset] at hRs; have hnew : L.take a ++ [s] ++ L.drop a = sortB ((kidK es v (up v) (k + 1)).map (txH es ts up f)) := by
       rw [Hks.out]; refine riseB_eq ?_ hins.2 (sortB_rises _); exact hins.1.trans ((List.Perm.append_right _ HL.out.perm).trans (List.mergeSort_perm _ _).symm)
      have hBs := hBj.setCell (p := ⟨g3, a, none⟩) Hg3.out (.string (bA s)); have hln : (L.take a ++ [s] ++ L.drop a).length = L.length + 1 := by
       rw [List.length_append, List.length_append, List.length_take, List.length_drop, List.length_singleton]; omega
      have HRs := Lib.hid hRs; have Hnew := Lib.hid hnew; have HBs := Lib.hid hBs; have Hln := Lib.hid hln; have Ha := Lib.hid ha; clear hRs hnew hBs hln hset hins ha; go_wp2_with fail; go_roundg (gq - 1)
      case measure => have := Hk.out; omega
      case rel =>
       refine ⟨k + 1, (some ⟨g3, 0, none⟩, c3), L.take a ++ [s] ++ L.drop a, by have := Hk.out; omega, by go_num, ⟨⟨Hnew.out⟩, by rw [Hln.out], ?_⟩, ?_, HBs.out⟩
       ·
        rw [Hln.out]; have := HRs.out.own (n := L.length + 1) (by rw [List.length_map, Hln.out]; omega) Hc3.out; exact this
       ·
        intro g hg; simp [Value.ownBlock] at hg; subst hg; exact Hg3.out
  ·
   have hkM : k = M := by omega
   obtain ⟨bb, oo, rfl, htc⟩ := (Hts.out.below hB).at v (by rw [Htl.out]; exact hv); obtain ⟨T, hT⟩ : ∃ T, ts[v]'(by rw [Htl.out]; exact hv) = T := ⟨_, rfl⟩
   rw [hT] at htc; have hfin : txH es ts up (f + 1) v = brack T L := by
    rw [Hsu.out, HL.out.eq, hkM, HM.out, kidK_all, ← hT, List.getD_eq_getElem?_getD, List.getElem?_eq_getElem (by rw [Htl.out]; exact hv)]; rfl
   have hsum : 6 + L.flatten.length ≤ 6 * n := by
    have := Hle.out; rw [hfin, brack_len] at this; exact this
   have i1 : ¬ (k : Int) < (M : Int) := by omega
   have hLb : L.length ≤ 594 := by have := HL.out.len; omega
   have hcells : ∀ (w : World) g, (∀ j v, [Value.int .u8 (T / 16777216 % 256), .int .u8 (T / 65536 % 256), .int .u8 (T / 256 % 256), .int .u8 (T % 256)][j]? = some v → w.cell? ((⟨g, 0, none⟩ : Addr).add j) = some v) → (convert 28 9 (.slice (some ⟨g, 0, none⟩) 4 4)).run Tryz.prog w = .ok (.string (bA (four T))) w := fun w g hc => by
    have := run_convert_bytes_back (P := Tryz.prog) w 28 9 5 ⟨g, 0, none⟩ 4 (byU (four T)) Tryz.underlying28 Tryz.underlying5 Tryz.underlying9 fun j hj => by
     rw [byU_len] at hj; have hj4 : j < 4 := hj; have hq := four_by T ((four T)[j]) (List.getElem_mem hj); have e : ((byU (four T))[j]'(by rw [byU_len]; exact hj)).toNat = ((four T)[j]).toNat := by
      simp only [byU, List.getElem_map]; rw [UInt8.toNat_ofNat']; omega
     refine hc j _ ?_; rw [e, Int.toNat_of_nonneg hq.1]; match j, hj4 with
     | 0, _ => rfl
     | 1, _ => rfl
     | 2, _ => rfl
     | 3, _ => rfl
    exact this
   have Hw8 := Lib.hid (show ∀ x, IntKind.u8.wrap x = x % 256 from fun x => rfl); have Hfin := Lib.hid hfin; have Hsum := Lib.hid hsum; have HB := Lib.hid hB; have Hown := Lib.hid hown; have Hcells := Lib.hid hcells; clear hfin hsum hB hown hT hcells hk hkM; go_upto_region 14 with (fail)
   refine regionT (fun w' => w'.cell? ⟨bb, oo + v, none⟩ = some (.int .i64 T)) 27 (by kernel_rfl) ?_; have hS : wr.drew.cell? ⟨bb, oo + v, none⟩ = some (.int .i64 T) := htc; clear htc; refine tkT 0 ?_ rfl hS ?_ ?_ (by kernel_rfl) (fun _ _ _ h => h) (by rfl); rotate_left; (· intro wS hSw; (try dsimp only at hSw); go_simp; try with_reducible rfl); simp only [Act.put, zT]; refine tkT 1 ?_ rfl hS ?_ ?_ (by kernel_rfl) (fun _ _ _ h => h) (by rfl); rotate_left; (· intro wS hSw; (try dsimp only at hSw); go_simp; try with_reducible rfl); simp only [Act.put, zT]; refine tkT 2 ?_ rfl hS ?_ ?_ (by kernel_rfl) (fun _ _ _ h => h) (by rfl); rotate_left; (· intro wS hSw; (try dsimp only at hSw); go_simp; try with_reducible rfl); simp only [Act.put, zT]; refine tkT 3 ?_ rfl hS ?_ ?_ (by kernel_rfl) (fun _ _ _ h => h) (by rfl); rotate_left; (· intro wS hSw; (try dsimp only at hSw); go_simp; try with_reducible rfl); simp only [Act.put, zT]; refine tkT 4 ?_ rfl hS ?_ ?_ (by kernel_rfl) (fun _ _ _ h => h) (by rfl); rotate_left; (· intro wS hSw; (try dsimp only at hSw); go_simp; try with_reducible rfl); simp only [Act.put, zT]; refine tkT 5 ?_ rfl hS ?_ ?_ (by kernel_rfl) (fun _ _ _ h => h) (by rfl); rotate_left; (· intro wS hSw; (try dsimp only at hSw); go_simp; try with_reducible rfl); simp only [Act.put, zT]; refine tkT 6 ?_ rfl hS ?_ ?_ (by kernel_rfl) (fun _ _ _ h => h) (by rfl); rotate_left; (· intro wS hSw; (try dsimp only at hSw); go_simp; try with_reducible rfl); simp only [Act.put, zT]; refine tkT 7 ?_ rfl hS ?_ ?_ (by kernel_rfl) (fun _ _ _ h => h) (by rfl); rotate_left; (· intro wS hSw; (try dsimp only at hSw); go_simp; try with_reducible rfl); simp only [Act.put, zT]
   refine tkT 8 ?_ rfl hS ?_ ?_ (by kernel_rfl) (fun _ _ _ h => h) (by rfl); rotate_left; (· intro wS hSw; (try dsimp only at hSw); go_simp; try with_reducible rfl); simp only [Act.put, zT]; refine tkT 9 ?_ rfl hS ?_ ?_ (by kernel_rfl) (fun _ _ _ h => h) (by rfl); rotate_left; (· intro wS hSw; (try dsimp only at hSw); go_simp; try with_reducible rfl); simp only [Act.put, zT]; refine tkT 10 ?_ rfl hS ?_ ?_ (by kernel_rfl) (fun _ _ _ h => h) (by rfl); rotate_left; (· intro wS hSw; (try dsimp only at hSw); go_simp; try with_reducible rfl); simp only [Act.put, zT]; refine tkT 11 ?_ rfl hS ?_ ?_ (by kernel_rfl) (fun _ _ _ h => h) (by rfl); rotate_left; (· intro wS hSw; (try dsimp only at hSw); go_simp; try with_reducible rfl); simp only [Act.put, zT]; refine tkT 12 ?_ rfl hS ?_ ?_ (by kernel_rfl) (fun _ _ _ h => h) (by rfl); rotate_left; (· intro wS hSw; (try dsimp only at hSw); go_simp; try with_reducible rfl); simp only [Act.put, zT]; refine tkT 13 ?_ rfl hS ?_ ?_ (by kernel_rfl) (fun _ _ _ h => h) (by rfl); rotate_left; (· intro wS hSw; (try dsimp only at hSw); go_simp; try with_reducible rfl); simp only [Act.put, zT]; refine tkT 14 ?_ rfl hS ?_ ?_ (by kernel_rfl) (fun _ _ _ h => h) (by rfl); rotate_left; (· intro wS hSw; (try dsimp only at hSw); go_simp; try with_reducible rfl); simp only [Act.put, zT]; refine tkT 15 ?_ rfl hS ?_ ?_ (by kernel_rfl) (fun _ _ _ h => h) (by rfl); rotate_left; (· intro wS hSw; (try dsimp only at hSw); go_simp; try with_reducible rfl); simp only [Act.put, zT]
   refine tkT 16 ?_ rfl hS ?_ ?_ (by kernel_rfl) (fun _ _ _ h => h) (by rfl); rotate_left; (· intro wS hSw; (try dsimp only at hSw); go_simp; try with_reducible rfl); simp only [Act.put, zT]; refine tkT 17 ?_ rfl hS ?_ ?_ (by kernel_rfl) (fun _ _ _ h => h) (by rfl); rotate_left; (· intro wS hSw; (try dsimp only at hSw); go_simp; try with_reducible rfl); simp only [Act.put, zT]; refine tkT 18 ?_ rfl hS ?_ ?_ (by kernel_rfl) (fun _ _ _ h => h) (by rfl); rotate_left; (· intro wS hSw; (try dsimp only at hSw); go_simp; try with_reducible rfl); simp only [Act.put, zT]; refine tkT 19 ?_ rfl hS ?_ ?_ (by kernel_rfl) (fun _ _ _ h => h) (by rfl); rotate_left; (· intro wS hSw; (try dsimp only at hSw); go_simp; try with_reducible rfl); simp only [Act.put, zT]; refine tkT 20 ?_ rfl hS ?_ ?_ (by kernel_rfl) (fun _ _ _ h => h) (by rfl); rotate_left; (· intro wS hSw; (try dsimp only at hSw); go_simp; try with_reducible rfl); simp only [Act.put, zT]; refine tkT 21 ?_ rfl hS ?_ ?_ (by kernel_rfl) (fun _ _ _ h => h) (by rfl); rotate_left; (· intro wS hSw; (try dsimp only at hSw); go_simp; try with_reducible rfl); simp only [Act.put, zT]; refine tkT 22 ?_ rfl hS ?_ ?_ (by kernel_rfl) (fun _ _ _ h => h) (by rfl); rotate_left; (· intro wS hSw; (try dsimp only at hSw); go_simp; try with_reducible rfl); simp only [Act.put, zT]; refine oneT (i := 23) rfl (by kernel_rfl) (fun K hK => ?_); go_simp; have hb := bl_alloc wr (.cells #[.int .u8 (IntKind.u8.wrap (T / 16777216)), .int .u8 (IntKind.u8.wrap (T / 65536)), .int .u8 (IntKind.u8.wrap (T / 256)), .int .u8 (IntKind.u8.wrap T)] 5)
   have hS2 : (wr.alloc (.cells #[.int .u8 (IntKind.u8.wrap (T / 16777216)), .int .u8 (IntKind.u8.wrap (T / 65536)), .int .u8 (IntKind.u8.wrap (T / 256)), .int .u8 (IntKind.u8.wrap T)] 5)).drew.cell? ⟨bb, oo + v, none⟩ = some (.int .i64 T) := (show _ from keep_cell hb (show wr.cell? ⟨bb, oo + v, none⟩ = some (.int .i64 T) from hS) : (wr.alloc (.cells #[.int .u8 (IntKind.u8.wrap (T / 16777216)), .int .u8 (IntKind.u8.wrap (T / 65536)), .int .u8 (IntKind.u8.wrap (T / 256)), .int .u8 (IntKind.u8.wrap T)] 5)).cell? ⟨bb, oo + v, none⟩ = some (.int .i64 T))
   have hcv : (convert 28 9 (.slice (some ⟨wr.heap.size, 0, none⟩) 4 4)).run Tryz.prog (wr.alloc (.cells #[.int .u8 (IntKind.u8.wrap (T / 16777216)), .int .u8 (IntKind.u8.wrap (T / 65536)), .int .u8 (IntKind.u8.wrap (T / 256)), .int .u8 (IntKind.u8.wrap T)] 5)).drew = .ok (.string (bA (four T))) (wr.alloc (.cells #[.int .u8 (IntKind.u8.wrap (T / 16777216)), .int .u8 (IntKind.u8.wrap (T / 65536)), .int .u8 (IntKind.u8.wrap (T / 256)), .int .u8 (IntKind.u8.wrap T)] 5)).drew := Hcells.out _ _ (by rw [Hw8.out, Hw8.out, Hw8.out, Hw8.out]; exact news_lit wr 5 _); refine hK _ _ (fun _ => hS2) ?_; clear hK K hS; have hS := hS2; clear hS2; generalize wr.alloc (.cells #[.int .u8 (IntKind.u8.wrap (T / 16777216)), .int .u8 (IntKind.u8.wrap (T / 65536)), .int .u8 (IntKind.u8.wrap (T / 256)), .int .u8 (IntKind.u8.wrap T)] 5) = wX at *
   refine oneT (i := 24) rfl (by kernel_rfl) (fun K hK => ?_); go_simp; refine hK _ _ (fun _ => hS) ?_; clear hK K; refine oneT (i := 25) rfl (by kernel_rfl) (fun K hK => ?_); go_simp; refine hK _ _ (fun _ => hS) ?_; clear hK K; refine tkT 26 ?_ rfl hS ?_ ?_ (by kernel_rfl) (fun _ _ _ h => h) (by rfl); rotate_left; (· intro wS hSw; (try dsimp only at hSw); go_simp; try with_reducible rfl); simp only [Act.put, zT]; refine doneT (by kernel_rfl) ?_ _; have hBX : Below w.heap.size w wX.drew := below_drewN (HB.out.trans (hb.mono HB.out.size)) 1; have hownX := (Hown.out.ext hb).drew; have hl0 : (⟨#[40]⟩ : ByteArray) ++ bA (four T) = bA (40 :: (four T ++ (L.take 0).flatten)) := by
    have := ByteArray.mk_append_mk [40] (byU (four T)); rw [List.take_zero, List.flatten_nil, List.append_nil]; exact this
   rw [hl0]; clear hb Hown HB Hcells hcv Hw8 hl0 hS; generalize wX.drew = wY at *
   have hsz : ∀ (j : Nat) (hj : j < L.length), (bA (40 :: (four T ++ (L.take j).flatten))).size + (bA L[j]).size ≤ 9223372036854775807 ∧ bA (40 :: (four T ++ (L.take j).flatten)) ++ bA L[j] = bA (40 :: (four T ++ (L.take (j + 1)).flatten)) := fun j hj => by
    have h1 := Hsum.out; have h2 := flat_take L j; have h3 := flat_one (List.getElem_mem hj); have h4 := Hn2.out; refine ⟨?_, ?_⟩
    ·
     rw [bA_size, bA_size, List.length_cons, List.length_append]; simp only [four, List.length_cons, List.length_nil]; omega
    ·
     rw [bA_app, List.take_succ_eq_append_getElem hj, List.flatten_append]; simp
   have hend : (bA (40 :: (four T ++ (L.take L.length).flatten))).size + 1 ≤ 9223372036854775807 ∧ bA (40 :: (four T ++ (L.take L.length).flatten)) ++ ⟨#[41]⟩ = bA (brack T L) := by
    have h1 := Hsum.out; have h4 := Hn2.out; refine ⟨?_, ?_⟩
    ·
     rw [bA_size, List.take_length, List.length_cons, List.length_append]; simp only [four, List.length_cons, List.length_nil]; omega
    ·
     rw [List.take_length]; have := bA_app (40 :: (four T ++ L.flatten)) [41]; refine this.trans ?_; unfold brack; simp
   have hrd : ∀ (j : Nat) (hj : j < L.length), ∃ g, a9 = some ⟨g, 0, none⟩ ∧ wY.cell? ⟨g, j, none⟩ = some (.string (bA L[j])) := fun j hj => by
    rcases hownX.2 with ⟨_, h0⟩ | ⟨g, c, e, _, hr⟩
    · omega
    ·
     cases e; exact ⟨g, rfl, by rw [hr.cell? j (by rw [List.length_map]; exact hj), List.getElem?_map, List.getElem?_eq_getElem hj]; rfl⟩
   have Hrd := Lib.hid hrd; have Hsz := Lib.hid hsz; have Hend := Lib.hid hend; have HBX := Lib.hid hBX; clear hrd hsz hend hBX hownX; go_wp2_with fail; go_loopg [14, 94] L.length (fun rr ov iv wj => ∃ j : Nat, j + rr = L.length ∧ iv = .int .i64 j ∧ ov = .string (bA (40 :: (four T ++ (L.take j).flatten))) ∧ wY = wj)
   case atStart => exact ⟨0, by omega, rfl, rfl, rfl⟩
   case round =>
    obtain ⟨j, hj, rfl, rfl, rfl⟩ := hrel; by_cases hjl : j < L.length
    ·
     obtain ⟨g, rfl, hcell⟩ := Hrd.out j hjl; obtain ⟨hs1, hs2⟩ := Hsz.out j hjl; have i2 : (j : Int) < (L.length : Int) := by omega
     obtain ⟨y, hy⟩ : ∃ y, L[j] = y := ⟨_, rfl⟩
     rw [hy] at hcell hs1 hs2; obtain ⟨P, hP⟩ : ∃ P, bA (40 :: (four T ++ (L.take j).flatten)) = P := ⟨_, rfl⟩
     obtain ⟨Y, hY⟩ : ∃ Y, bA y = Y := ⟨_, rfl⟩
     rw [hP, hY] at hs1 hs2; rw [hY] at hcell; rw [hP]; have hs3 : ¬ P.size + Y.size > 9223372036854775807 := by omega
     have Hj := Lib.hid hj; have Hs2 := Lib.hid hs2; clear hj hy hs1 hs2 hP hY; go_wp2_with fail; go_roundg (gk - 1)
     case measure => have := Hj.out; omega
     case rel => exact ⟨j + 1, by have := Hj.out; omega, by go_num, by rw [Hs2.out], rfl⟩
    ·
     have hjL : j = L.length := by omega
     subst hjL; obtain ⟨hs1, hs2⟩ := Hend.out; obtain ⟨P, hP⟩ : ∃ P, bA (40 :: (four T ++ (L.take L.length).flatten)) = P := ⟨_, rfl⟩
     rw [hP] at hs1 hs2; rw [hP]; have hs3 : ¬ P.size + 1 > 9223372036854775807 := by omega
     have Hs2 := Lib.hid hs2; clear hs1 hs2 hP hj; go_wp2_with fail; go_ret; exact ⟨by rw [Hfin.out, Hs2.out]; rfl, HBX.out⟩
end
end Go.Proofs.YtagjdkkfmfombaaGreat
namespace Go.Proofs.YtagjdkkfmfombaaGreat
theorem key2_eq (tx ty : Int) : key2 tx ty = bytesL [2, min tx ty, max tx ty, 1, 0, 1] := by
 unfold key2 codeL codeNums endsF
 congr 1
 by_cases h : ty < tx
 ·
  rw [if_pos h]
  have e1 : min tx ty = ty := by omega
  have e2 : max tx ty = tx := by omega
  rw [e1, e2]
  have a : List.idxOf (0 : Nat) [1, 0] = 1 := by decide
  have b : List.idxOf (1 : Nat) [1, 0] = 0 := by decide
  simp [endP, sortP, a, b]
  decide
 ·
  rw [if_neg h]
  have e1 : min tx ty = tx := by omega
  have e2 : max tx ty = ty := by omega
  rw [e1, e2]
  have a : List.idxOf (0 : Nat) [0, 1] = 0 := by decide
  have b : List.idxOf (1 : Nat) [0, 1] = 1 := by decide
  simp [endP, sortP, a, b]
  decide
theorem key2_inj {a b a' b' : Int} (h1 : 0 ≤ a ∧ a < 4294967296) (h2 : 0 ≤ b ∧ b < 4294967296) (h3 : 0 ≤ a' ∧ a' < 4294967296) (h4 : 0 ≤ b' ∧ b' < 4294967296) (h : key2 a b = key2 a' b') : min a b = min a' b' ∧ max a b = max a' b' := by
 rw [key2_eq, key2_eq] at h
 have := bytesL_inj (fun x hx => by simp only [List.mem_cons, List.not_mem_nil, or_false] at hx; omega) (fun x hx => by simp only [List.mem_cons, List.not_mem_nil, or_false] at hx; omega) h
 simp only [List.cons.injEq, and_true, true_and] at this
 exact this
theorem rankB_two {l m : List (List Int)} {x y : List Int} (hs : sortU l = sortU m) (hx : x ∈ l) (hy : y ∈ m) (e : rankB l x = rankB m y) : x = y := by
 unfold rankB at e
 rw [← hs] at e
 have h1 := List.getElem_idxOf (List.idxOf_lt_length_iff.2 (mem_sortU.2 hx))
 have h2 := List.getElem_idxOf (List.idxOf_lt_length_iff.2 (hs ▸ mem_sortU.2 hy : y ∈ sortU l))
 rw [← h1, ← h2]
 congr 1
theorem sorted_perm_eq {l m : List Nat} (hp : l.Perm m) (hl : l.Pairwise (· ≤ ·)) (hm : m.Pairwise (· ≤ ·)) : l = m :=
 List.Perm.eq_of_pairwise (fun a b _ _ h1 h2 => Nat.le_antisymm h1 h2) hl hm hp
theorem cmpW_negV (wo : Nat → Nat) (x y : Nat) : cmpW wo x y < 0 ↔ wo x < wo y ∨ (wo x = wo y ∧ x < y) := by
 unfold cmpW orI cmpI
 by_cases h1 : wo x < wo y
 · simp [h1]
 ·
  by_cases h2 : wo y < wo x
  ·
   have : ¬ wo x = wo y := by omega
   simp [h1, h2, this]
  ·
   have : wo x = wo y := by omega
   by_cases h3 : x < y
   · simp [this, h3]
   ·
    by_cases h4 : y < x
    · simp [this, h3, h4]
    · simp [this, h3, h4]
theorem below_sortedV (D : Kt) (wo : Nat → Nat) (q : Nat) : ((D.below wo q).map wo).Pairwise (· ≤ ·) := by
 have h : (D.below wo q).Pairwise fun x y => (!decide (cmpW wo y x < 0)) = true := by
  unfold Kt.below
  refine List.pairwise_mergeSort (fun a b c h1 h2 => ?_) (fun a b => ?_) _
  ·
   simp only [Bool.not_eq_true', decide_eq_false_iff_not, cmpW_negV] at *
   omega
  ·
   simp only [Bool.or_eq_true, Bool.not_eq_true', decide_eq_false_iff_not, cmpW_negV]; omega
 rw [List.pairwise_map]
 refine h.imp fun {a b} hab => ?_
 simp only [Bool.not_eq_true', decide_eq_false_iff_not, cmpW_negV] at hab
 omega
theorem below_perm (D : Kt) (wo : Nat → Nat) (q : Nat) : (D.below wo q).Perm (D.kids q) := List.mergeSort_perm _ _
theorem idxOf_two {U : List Int} {x y : Int} (hx : x ∈ U) (hy : y ∈ U) (e : U.idxOf x = U.idxOf y) : x = y := by
 have h1 := List.getElem_idxOf (List.idxOf_lt_length_iff.2 hx)
 have h2 := List.getElem_idxOf (List.idxOf_lt_length_iff.2 hy)
 rw [← h1, ← h2]
 congr 1
namespace KtG
variable {n n' : Nat} {es es' : List (Int × Int)} {ts ts' : List Int} {D D' : Kt} {U U' : List Int} {wo wo' : Nat → Nat}
theorem sh_lt (h : KtG n es ts D U wo) {v : Nat} (hv : v < n) : D.sh v < D.shs := by
 rw [h.s.sh v hv, h.s.shs]
 exact List.idxOf_lt_length_iff.2 ((h.s.mem _).2 ⟨v, hv, rfl⟩)
theorem mem_keys {D : Kt} {wo : Nat → Nat} {k : Nat} (hk : k < D.n) : D.key wo k ∈ D.keysAt wo (D.dep k) :=
 List.mem_map.2 ⟨k, List.mem_filter.2 ⟨List.mem_range.2 hk, by simp⟩, rfl⟩
theorem wo_lt (h : KtG n es ts D U wo) {k : Nat} (hk : k < D.n) : wo k < D.n := by
 rw [h.w k hk]
 have h1 := rankB_lt (mem_keys (wo := wo) hk)
 have h2 : (D.keysAt wo (D.dep k)).length ≤ D.n := by
  unfold Kt.keysAt
  rw [List.length_map]
  have := List.length_filter_le (fun j => D.dep j == D.dep k) (List.range D.n)
  simpa using this
 omega
theorem tint_le (h : KtG n es ts D U wo) {k v : Nat} (hv : v < n) : 0 ≤ D.tint wo k v ∧ D.tint wo k v < 4294967296 := by
 have h1 := h.nl
 have h2 := h.sl
 have h3 := h.sh_lt hv
 unfold Kt.tint
 cases hk : D.kn v with
 | none => simp only; omega
 | some q =>
  have h4 := h.wo_lt (h.v.kn v q hk).2.1
  simp only
  split <;> omega
theorem keyC_le (h : KtG n es ts D U wo) {q : Nat} (h1 : D.m ≤ q) (h2 : q < D.n) : ∀ a ∈ (D.sh (D.cv q) : Int) :: (D.below wo q).map fun x => (wo x : Int), 0 ≤ a ∧ a < 4294967296 := fun a ha => by
 have n1 := h.nl
 have n2 := h.sl
 rcases List.mem_cons.1 ha with e | ha
 ·
  have := h.sh_lt (h.v.cv q h1 h2).2
  omega
 ·
  obtain ⟨x, hx, rfl⟩ := List.mem_map.1 ha
  have := h.wo_lt (k := x) (by
   have := ((h.v.bs_cut h1 h2).1 (Kt.mem_below.1 hx).1).1
   have := h.v.mn
   omega)
  omega
theorem keyC_inj (h : KtG n es ts D U wo) (h' : KtG n' es' ts' D' U' wo') {q q' : Nat} (h1 : D.m ≤ q) (h2 : q < D.n) (h3 : D'.m ≤ q') (h4 : q' < D'.n) (e : D.keyC wo q = D'.keyC wo' q') : D.sh (D.cv q) = D'.sh (D'.cv q') ∧ (D.below wo q).map wo = (D'.below wo' q').map wo' := by
 have := bytesL_inj (h.keyC_le h1 h2) (h'.keyC_le h3 h4) e
 simp only [List.cons.injEq] at this
 refine ⟨by omega, ?_⟩
 have e2 := congrArg (List.map Int.toNat) this.2
 simpa [List.map_map, Function.comp_def] using e2
theorem keyB_inj (h : KtG n es ts D U wo) (h' : KtG n' es' ts' D' U' wo') {b b' v v' : Nat} (h1 : b < D.m) (h2 : b' < D'.m) (o1 : D.onB b v) (o2 : D'.onB b' v') (t1 : D.tint wo b v = 0) (t2 : D'.tint wo' b' v' = 0) (e : D.keyB wo b = D'.keyB wo' b') : D.tint wo b (D.oth v b) = D'.tint wo' b' (D'.oth v' b') := by
 have a := h.v.ends h1
 have a' := h'.v.ends h2
 have i := key2_inj (h.tint_le (k := b) (v := D.ex b) (by omega)) (h.tint_le (k := b) (v := D.ey b) (by omega)) (h'.tint_le (k := b') (v := D'.ex b') (by omega)) (h'.tint_le (k := b') (v := D'.ey b') (by omega)) e
 have k1 := h.tint_le (k := b) (v := D.ex b) (by omega)
 have k2 := h.tint_le (k := b) (v := D.ey b) (by omega)
 have k3 := h'.tint_le (k := b') (v := D'.ex b') (by omega)
 have k4 := h'.tint_le (k := b') (v := D'.ey b') (by omega)
 unfold Kt.onB at o1 o2
 unfold Kt.oth
 rcases o1 with rfl | rfl <;> rcases o2 with rfl | rfl
 · rw [if_pos rfl, if_pos rfl]; omega
 · rw [if_pos rfl, if_neg (by omega)]; omega
 · rw [if_neg (by omega), if_pos rfl]; omega
 · rw [if_neg (by omega), if_neg (by omega)]; omega
theorem key_of_wo (h : KtG n es ts D U wo) (h' : KtG n' es' ts' D' U' wo') (hs : ∀ d, sortU (D.keysAt wo d) = sortU (D'.keysAt wo' d)) {k k' : Nat} (hk : k < D.n) (hk' : k' < D'.n) (hd : D.dep k = D'.dep k') (e : wo k = wo' k') : D.key wo k = D'.key wo' k' := by
 rw [h.w k hk, h'.w k' hk', ← hd] at e
 have m2 := mem_keys (wo := wo') hk'
 rw [← hd] at m2
 exact rankB_two (hs _) (mem_keys hk) m2 e
theorem sub_same (h : KtG n es ts D U wo) (h' : KtG n' es' ts' D' U' wo') (hU : U = U') (hs : ∀ d, sortU (D.keysAt wo d) = sortU (D'.keysAt wo' d)) : ∀ (f q q' : Nat), D.m ≤ q → q < D.n → D'.m ≤ q' → q' < D'.n → D.dep q = D'.dep q' → D.keyC wo q = D'.keyC wo' q' →
  (∀ p nx, goS (seqS (fun v => ts.getD v 0) (D.chD wo) f) (D.chD wo (D.cv q)) p nx = goS (seqS (fun v => ts'.getD v 0) (D'.chD wo') f) (D'.chD wo' (D'.cv q')) p nx) := by
 have lab : ∀ v v', v < n → v' < n' → D.sh v = D'.sh v' → ts.getD v 0 = ts'.getD v' 0 := fun v v' hv hv' e => by
  rw [h.s.sh v hv, h'.s.sh v' hv', ← hU] at e
  exact idxOf_two ((h.s.mem _).2 ⟨v, hv, rfl⟩) (hU ▸ (h'.s.mem _).2 ⟨v', hv', rfl⟩) e
 have shs : D.shs = D'.shs := by rw [h.s.shs, h'.s.shs, hU]
 intro f
 induction f with
 | zero =>
  intro q q' h1 h2 h3 h4 hd e
  obtain ⟨e1, e2⟩ := keyC_inj h h' h1 h2 h3 h4 e
  have hl : (D.below wo q).length = (D'.below wo' q').length := by have := congrArg List.length e2; simpa using this
  refine goS_congr ?_ fun i c c' _ _ p nx => rfl
  unfold Kt.chD
  rw [(h.v.cv q h1 h2).1, (h'.v.cv q' h3 h4).1]
  simp only [List.length_map]
  exact hl
 | succ f ih =>
  intro q q' h1 h2 h3 h4 hd e
  obtain ⟨e1, e2⟩ := keyC_inj h h' h1 h2 h3 h4 e
  have hl : (D.below wo q).length = (D'.below wo' q').length := by have := congrArg List.length e2; simpa using this
  have c1 : D.chD wo (D.cv q) = (D.below wo q).map (D.oth (D.cv q)) := by
   conv => lhs; unfold Kt.chD
   rw [(h.v.cv q h1 h2).1]
  have c2 : D'.chD wo' (D'.cv q') = (D'.below wo' q').map (D'.oth (D'.cv q')) := by
   conv => lhs; unfold Kt.chD
   rw [(h'.v.cv q' h3 h4).1]
  rw [c1, c2]
  refine goS_congr (by simpa using hl) fun i c c' hc hc' p nx => ?_
  rw [List.getElem?_map] at hc hc'
  cases hb : (D.below wo q)[i]? with
  | none => rw [hb] at hc; simp at hc
  | some b =>
  cases hb' : (D'.below wo' q')[i]? with
  | none => rw [hb'] at hc'; simp at hc'
  | some b' =>
  rw [hb] at hc
  rw [hb'] at hc'
  simp only [Option.map_some, Option.some.injEq] at hc hc'
  obtain ⟨b1, b2⟩ := (h.v.bs_cut h1 h2).1 (Kt.mem_below.1 (List.mem_of_getElem? hb)).1
  obtain ⟨d1, d2⟩ := (h'.v.bs_cut h3 h4).1 (Kt.mem_below.1 (List.mem_of_getElem? hb')).1
  have bn : b < D.n := by have := h.v.mn; omega
  have dn : b' < D'.n := by have := h'.v.mn; omega
  have bu : D.up b = (q : Int) := by
   rcases h.v.adj q b h2 (Kt.mem_below.1 (List.mem_of_getElem? hb)).1 with e | e
   · exact absurd e.symm (Kt.mem_below.1 (List.mem_of_getElem? hb)).2
   · exact e
  have du : D'.up b' = (q' : Int) := by
   rcases h'.v.adj q' b' h4 (Kt.mem_below.1 (List.mem_of_getElem? hb')).1 with e | e
   · exact absurd e.symm (Kt.mem_below.1 (List.mem_of_getElem? hb')).2
   · exact e
  have hwo : wo b = wo' b' := by
   have := congrArg (fun l : List Nat => l[i]?) e2; simpa [hb, hb'] using this
  have hdb : D.dep b = D'.dep b' := by rw [(h.v.updep bn bu).2.2.2, (h'.v.updep dn du).2.2.2, hd]
  have hkey := key_of_wo h h' hs bn dn hdb hwo
  unfold Kt.key at hkey
  rw [if_pos b1, if_pos d1] at hkey
  have t1 : D.tint wo b (D.cv q) = 0 := by unfold Kt.tint; rw [(h.v.cv q h1 h2).1]; simp only; rw [if_pos bu.symm]
  have t2 : D'.tint wo' b' (D'.cv q') = 0 := by unfold Kt.tint; rw [(h'.v.cv q' h3 h4).1]; simp only; rw [if_pos du.symm]
  have ht := keyB_inj h h' b1 d1 b2 d2 t1 t2 hkey
  obtain ⟨o1, o2, o3, o4, o5⟩ := h.v.oth_on b1 b2
  obtain ⟨p1, p2, p3, p4, p5⟩ := h'.v.oth_on d1 d2
  rw [hc] at ht o1 o2 o3
  rw [hc'] at ht p1 p2 p3
  have key1 : ∀ q2, D.kn c = some q2 → (q2 : Int) ≠ D.up b := fun q2 hq2 e => by
   have : q2 = q := by omega
   have := (h.v.kn c q2 hq2).2.2; rw [‹q2 = q›] at this; exact o2 this.symm
  have key2 : ∀ q2, D'.kn c' = some q2 → (q2 : Int) ≠ D'.up b' := fun q2 hq2 e => by
   have : q2 = q' := by omega
   have := (h'.v.kn c' q2 hq2).2.2; rw [‹q2 = q'›] at this; exact p2 this.symm
  have s1 := h.sh_lt o3
  have s2 := h'.sh_lt p3
  unfold Kt.tint at ht
  unfold seqS
  cases k1 : D.kn c with
  | none =>
   cases k2 : D'.kn c' with
   | none =>
    rw [k1, k2] at ht; simp only at ht; have z1 : D.chD wo c = [] := by unfold Kt.chD; rw [k1]
    have z2 : D'.chD wo' c' = [] := by unfold Kt.chD; rw [k2]
    rw [z1, z2, lab c c' o3 p3 (by omega)]; rfl
   | some q2' =>
    rw [k1, k2] at ht; simp only at ht; rw [if_neg (key2 q2' k2)] at ht; omega
  | some q2 =>
   cases k2 : D'.kn c' with
   | none =>
    rw [k1, k2] at ht; simp only at ht; rw [if_neg (key1 q2 k1)] at ht; omega
   | some q2' =>
    rw [k1, k2] at ht; simp only at ht; rw [if_neg (key1 q2 k1), if_neg (key2 q2' k2)] at ht; obtain ⟨m1, m2, m3⟩ := h.v.kn c q2 k1; obtain ⟨m4, m5, m6⟩ := h'.v.kn c' q2' k2; have hw2 : wo q2 = wo' q2' := by omega
    have u1 : D.up q2 = (b : Int) := by
     rcases h.v.adj b q2 bn ((h.v.bs_block b1).2 ⟨m1, m2, by rw [m3]; exact o1⟩) with e | e
     · exact absurd e.symm (key1 q2 k1)
     · exact e
    have u2 : D'.up q2' = (b' : Int) := by
     rcases h'.v.adj b' q2' dn ((h'.v.bs_block d1).2 ⟨m4, m5, by rw [m6]; exact p1⟩) with e | e
     · exact absurd e.symm (key2 q2' k2)
     · exact e
    have hd2 : D.dep q2 = D'.dep q2' := by rw [(h.v.updep m2 u1).2.2.2, (h'.v.updep m5 u2).2.2.2, hdb]
    have hk2 := key_of_wo h h' hs m2 m5 hd2 hw2; unfold Kt.key at hk2; rw [if_neg (by omega), if_neg (by omega)] at hk2; have hlab : ts.getD c 0 = ts'.getD c' 0 := by
     have := (keyC_inj h h' m1 m2 m4 m5 hk2).1; rw [m3, m6] at this; exact lab c c' o3 p3 this
    have := ih q2 q2' m1 m2 m4 m5 hd2 hk2; rw [m3, m6] at this; rw [hlab, this]
end KtG
end Go.Proofs.YtagjdkkfmfombaaGreat
namespace Go.Proofs.YtagjdkkfmfombaaGreat
namespace KtG
variable {n : Nat} {es es' : List (Int × Int)} {ts ts' : List Int} {D D' : Kt} {U U' : List Int} {wo wo' : Nat → Nat} {φ ψ : Nat → Nat}
theorem root_eq (h : KtG n es ts D U wo) (h' : KtG n es' ts' D' U' wo') (I : KtI n D D' φ ψ) : ψ D.root = D'.root := by
 obtain ⟨c, L, ht, hn, hb, hc⟩ := h.t
 obtain ⟨c', L', ht', hn', hb', hc'⟩ := h'.t
 have em := I.m
 have en := I.nn
 obtain rfl : c' = c := by omega
 rw [em] at ht' hn' hb' hc'
 have iso := I.iso
 rw [hb, hb', hn] at iso
 have al : ∀ x, x < D.m + c' → (TreeT.endT D.m c' L' (ψ x) ↔ TreeT.endT D.m c' L x) := fun x hx => by
  unfold TreeT.endT
  rw [iso.alive ht.treeG ht'.treeG _ x hx]
 have hr := h.v.hung.rt
 refine ht'.centre_one ⟨(al _ (by omega)).2 hc.1, fun hm i hi he => ?_⟩ hc'
 obtain ⟨j, hj, rfl⟩ := iso.sur (y := i) (by omega)
 have k1 := I.kd j (by omega)
 have k2 := I.kd D.root hr
 exact hc.2 (by omega) j (by omega) ((al j hj).1 he)
theorem up_dep (h : KtG n es ts D U wo) (h' : KtG n es' ts' D' U' wo') (I : KtI n D D' φ ψ) : ∀ d k, k < D.n → D.dep k ≤ d → D'.dep (ψ k) = D.dep k ∧ (∀ p : Nat, D.up k = p → D'.up (ψ k) = (ψ p : Nat)) ∧ (D.up k = -1 → D'.up (ψ k) = -1) := by
 have hroot := root_eq h h' I
 have en := I.nn
 intro d
 induction d with
 | zero =>
  intro k hk hd
  by_cases e : k = D.root
  ·
   subst e; rw [hroot]; refine ⟨by rw [h'.v.hung.dpr]; omega, fun p hp => ?_, fun _ => h'.v.hung.upr⟩; rw [h.v.hung.upr] at hp; omega
  ·
   obtain ⟨p, _, _, _, h4⟩ := h.v.hung.par k hk e; omega
 | succ d ih =>
  intro k hk hd
  by_cases e : k = D.root
  ·
   subst e; rw [hroot]; refine ⟨by rw [h'.v.hung.dpr, h.v.hung.dpr], fun p hp => ?_, fun _ => h'.v.hung.upr⟩; rw [h.v.hung.upr] at hp; omega
  ·
   obtain ⟨p, h1, h2, h3, h4⟩ := h.v.hung.par k hk e; obtain ⟨i1, i2, i3⟩ := ih p h1 (by omega); have hpk := (I.iso.bs k p hk h1).1 h3; have key : D'.up (ψ k) = (ψ p : Nat) := by
    rcases h'.v.adj (ψ k) (ψ p) (by have := I.iso.lt k hk; omega) hpk with e2 | e2
    · exact e2
    ·
     exfalso; by_cases er : p = D.root
     · rw [er, hroot, h'.v.hung.upr] at e2; omega
     ·
      obtain ⟨pp, g1, g2, g3, g4⟩ := h.v.hung.par p h1 er; rw [i2 pp g2] at e2; have := I.iso.inj pp k g1 hk (by omega); subst this; omega
   refine ⟨?_, fun p' hp' => ?_, fun hn => by omega⟩
   · rw [(h'.v.updep (by have := I.iso.lt k hk; omega) key).2.2.2, i1, h4]
   ·
    have : p' = p := by omega
    rw [this]; exact key
theorem shades (h : KtG n es ts D U wo) (h' : KtG n es' ts' D' U' wo') (i : IsoG n es ts es' ts' φ) : U = U' ∧ D'.shs = D.shs ∧ ∀ v, v < n → D'.sh (φ v) = D.sh v := by
 obtain ⟨χ, hχ, ib⟩ := i.back
 have hU : U = U' := rise_eq h.s.up h'.s.up fun x => by
  rw [h.s.mem, h'.s.mem]
  constructor
  ·
   rintro ⟨v, hv, rfl⟩; exact ⟨φ v, i.lt v hv, i.lab v hv⟩
  ·
   rintro ⟨v, hv, rfl⟩; exact ⟨χ v, (hχ v hv).1, ib.lab v hv⟩
 refine ⟨hU, by rw [h.s.shs, h'.s.shs, hU], fun v hv => ?_⟩
 rw [h.s.sh v hv, h'.s.sh _ (i.lt v hv), ← hU, i.lab v hv]
theorem tint_same (h : KtG n es ts D U wo) (h' : KtG n es' ts' D' U' wo') (i : IsoG n es ts es' ts' φ) (I : KtI n D D' φ ψ) {k v : Nat} (hk : k < D.m) (hv : v < n) (hon : D.onB k v) (ih : ∀ x, x < D.n → D.dep x = D.dep k + 1 → wo' (ψ x) = wo x) : D'.tint wo' (ψ k) (φ v) = D.tint wo k v := by
 obtain ⟨_, s1, s2⟩ := shades h h' i
 have hkn : k < D.n := by have := h.v.mn; omega
 obtain ⟨u1, u2, u3⟩ := up_dep h h' I _ k hkn (Nat.le_refl _)
 unfold Kt.tint
 rw [I.kn v hv, s1, s2 v hv]
 cases hq : D.kn v with
 | none => rfl
 | some q =>
  obtain ⟨k1, k2, k3⟩ := h.v.kn v q hq
  simp only [Option.map_some]
  have hadj := h.v.adj k q hkn ((h.v.bs_block hk).2 ⟨k1, k2, by rw [k3]; exact hon⟩)
  by_cases e : (q : Int) = D.up k
  · rw [if_pos e, if_pos (u2 q e.symm).symm]
  ·
   have hup : D.up q = (k : Int) := by
    rcases hadj with e2 | e2
    · exact absurd e2.symm e
    · exact e2
   rw [if_neg e, if_neg fun e2 => ?_, ih q k2 (h.v.updep k2 hup).2.2.2]; by_cases er : k = D.root
   ·
    rw [u3 (by rw [er]; exact h.v.hung.upr)] at e2; omega
   ·
    obtain ⟨p, p1, p2, _, _⟩ := h.v.hung.par k hkn er; rw [u2 p p2] at e2; have := I.iso.inj q p k2 p1 (by omega); exact e (by rw [this, p2])
theorem key_same (h : KtG n es ts D U wo) (h' : KtG n es' ts' D' U' wo') (i : IsoG n es ts es' ts' φ) (I : KtI n D D' φ ψ) {k : Nat} (hk : k < D.n) (ih : ∀ x, x < D.n → D.dep x = D.dep k + 1 → wo' (ψ x) = wo x) : D'.key wo' (ψ k) = D.key wo k := by
 have em := I.m
 have en := I.nn
 have hkd := I.kd k hk
 obtain ⟨_, s1, s2⟩ := shades h h' i
 unfold Kt.key
 by_cases hm : k < D.m
 ·
  rw [if_pos hm, if_pos (by omega)]
  have a := h.v.ends hm
  have o1 := (I.on k (D.ex k) hm (by omega)).2 (.inl rfl)
  have o2 := (I.on k (D.ey k) hm (by omega)).2 (.inr rfl)
  have t1 := tint_same h h' i I hm (by omega) (.inl rfl) ih
  have t2 := tint_same h h' i I hm (by omega) (.inr rfl) ih
  have hne : φ (D.ex k) ≠ φ (D.ey k) := fun e => by
   have := I.inj _ _ (by omega) (by omega) e; omega
  unfold Kt.onB at o1 o2
  unfold Kt.keyB
  rw [key2_eq, key2_eq]
  have hc : (D'.ex (ψ k) = φ (D.ex k) ∧ D'.ey (ψ k) = φ (D.ey k)) ∨ (D'.ex (ψ k) = φ (D.ey k) ∧ D'.ey (ψ k) = φ (D.ex k)) := by omega
  rcases hc with ⟨e1, e2⟩ | ⟨e1, e2⟩
  · rw [e1, e2, t1, t2]
  · rw [e1, e2, t1, t2, Int.min_comm, Int.max_comm]
 ·
  rw [if_neg hm, if_neg (by omega)]
  unfold Kt.keyC
  have hcv := I.cv k (by omega) hk
  rw [hcv, s2 _ (h.v.cv k (by omega) hk).2]
  obtain ⟨u1, u2, u3⟩ := up_dep h h' I _ k hk (Nat.le_refl _)
  have hsub : ∀ x ∈ D.kids k, x < D.n ∧ D.dep x = D.dep k + 1 := fun x hx => by
   unfold Kt.kids at hx; obtain ⟨x1, x2⟩ := List.mem_filter.1 hx; have hx3 : ¬ (x : Int) = D.up k := by simpa using x2
   have xm := ((h.v.bs_cut (by omega) hk).1 x1).1; have xn : x < D.n := by have := h.v.mn; omega
   rcases h.v.adj k x hk x1 with e | e
   · exact absurd e.symm hx3
   · exact ⟨xn, (h.v.updep xn e).2.2.2⟩
  have hkids : (D'.kids (ψ k)).Perm ((D.kids k).map ψ) := by
   refine (List.perm_ext_iff_of_nodup ((h'.v.bnd _).sublist List.filter_sublist) (nodup_map_on ((h.v.bnd _).sublist List.filter_sublist) fun x hx y hy e => I.iso.inj x y (hsub x hx).1 (hsub y hy).1 e)).2 fun y => ?_; have hup : ∀ x, x < D.n → ((ψ x : Int) = D'.up (ψ k) ↔ (x : Int) = D.up k) := fun x hx => by
    by_cases er : k = D.root
    ·
     rw [u3 (by rw [er]; exact h.v.hung.upr)]; have : D.up k = -1 := by rw [er]; exact h.v.hung.upr
     omega
    ·
     obtain ⟨p, p1, p2, _, _⟩ := h.v.hung.par k hk er; rw [u2 p p2, p2]; constructor
     ·
      intro e; have := I.iso.inj x p hx p1 (by omega); omega
     ·
      intro e; have : x = p := by omega
      rw [this]
   rw [List.mem_filter, List.mem_map]; constructor
   ·
    rintro ⟨y1, y2⟩; have hym := ((h'.v.bs_cut (by omega) (by have := I.iso.lt k hk; omega)).1 y1).1; obtain ⟨x, hx, rfl⟩ := I.iso.sur (y := y) (by have := h'.v.mn; omega); refine ⟨x, List.mem_filter.2 ⟨(I.iso.bs k x hk hx).2 y1, ?_⟩, rfl⟩; have := hup x hx; simp only [Bool.not_eq_true', decide_eq_false_iff_not] at y2 ⊢; exact fun e => y2 (this.2 e)
   ·
    rintro ⟨x, hx, rfl⟩; obtain ⟨x1, x2⟩ := List.mem_filter.1 hx; have xn := (hsub x (by unfold Kt.kids; exact hx)).1; refine ⟨(I.iso.bs k x hk xn).1 x1, ?_⟩; have := hup x xn; simp only [Bool.not_eq_true', decide_eq_false_iff_not] at x2 ⊢; exact fun e => x2 (this.1 e)
  have hw : (D'.below wo' (ψ k)).map wo' = (D.below wo k).map wo := by
   refine sorted_perm_eq ?_ (below_sortedV _ _ _) (below_sortedV _ _ _); refine ((below_perm D' wo' (ψ k)).map wo').trans ((hkids.map wo').trans ?_); rw [List.map_map]; refine (List.Perm.of_eq (List.map_congr_left fun x hx => ?_)).trans ((below_perm D wo k).map wo).symm; exact ih x (hsub x hx).1 (hsub x hx).2
  have hw2 := congrArg (List.map fun x : Nat => (x : Int)) hw
  rw [List.map_map, List.map_map] at hw2
  show bytesL (_ :: (D'.below wo' (ψ k)).map ((fun x : Nat => (x : Int)) ∘ wo')) = bytesL (_ :: (D.below wo k).map ((fun x : Nat => (x : Int)) ∘ wo))
  rw [hw2]
theorem keys_mem (h : KtG n es ts D U wo) (h' : KtG n es' ts' D' U' wo') (I : KtI n D D' φ ψ) {d : Nat} (hk : ∀ k, k < D.n → D.dep k = d → D'.key wo' (ψ k) = D.key wo k) : sortU (D.keysAt wo d) = sortU (D'.keysAt wo' d) := by
 have en := I.nn
 refine sortU_same fun x => ?_
 unfold Kt.keysAt
 rw [List.mem_map, List.mem_map]
 constructor
 ·
  rintro ⟨k, hk1, rfl⟩
  obtain ⟨h1, h2⟩ := List.mem_filter.1 hk1
  have hkn := List.mem_range.1 h1
  have hd : D.dep k = d := by simpa using h2
  refine ⟨ψ k, List.mem_filter.2 ⟨List.mem_range.2 (by have := I.iso.lt k hkn; omega), ?_⟩, hk k hkn hd⟩
  simp only [beq_iff_eq]
  rw [(up_dep h h' I _ k hkn (Nat.le_refl _)).1, hd]
 ·
  rintro ⟨k', hk1, rfl⟩
  obtain ⟨h1, h2⟩ := List.mem_filter.1 hk1
  obtain ⟨k, hkn, rfl⟩ := I.iso.sur (y := k') (by have := List.mem_range.1 h1; omega)
  have hd : D.dep k = d := by
   have : D'.dep (ψ k) = d := by simpa using h2
   rw [← this, (up_dep h h' I _ k hkn (Nat.le_refl _)).1]
  exact ⟨k, List.mem_filter.2 ⟨List.mem_range.2 hkn, by simp [hd]⟩, (hk k hkn hd).symm⟩
theorem worths (h : KtG n es ts D U wo) (h' : KtG n es' ts' D' U' wo') (i : IsoG n es ts es' ts' φ) (I : KtI n D D' φ ψ) : ∀ j k, k < D.n → D.n ≤ D.dep k + j → wo' (ψ k) = wo k := by
 have en := I.nn
 intro j
 induction j with
 | zero => intro k hk hd; have := h.v.dl k hk; omega
 | succ j ih =>
  intro k hk hd
  have hkey : ∀ k2, k2 < D.n → D.dep k2 = D.dep k → D'.key wo' (ψ k2) = D.key wo k2 := fun k2 h2 e2 => key_same h h' i I h2 fun x hx hxd => ih x hx (by omega)
  rw [h.w k hk, h'.w (ψ k) (by have := I.iso.lt k hk; omega), hkey k hk rfl, (up_dep h h' I _ k hk (Nat.le_refl _)).1]
  unfold rankB
  rw [keys_mem h h' I hkey]
theorem all_same (h : KtG n es ts D U wo) (h' : KtG n es' ts' D' U' wo') (i : IsoG n es ts es' ts' φ) (I : KtI n D D' φ ψ) : (∀ k, k < D.n → D'.key wo' (ψ k) = D.key wo k) ∧ ∀ d, sortU (D.keysAt wo d) = sortU (D'.keysAt wo' d) := by
 have hk : ∀ k, k < D.n → D'.key wo' (ψ k) = D.key wo k := fun k hk => key_same h h' i I hk fun x hx _ => worths h h' i I D.n x hx (by omega)
 exact ⟨hk, fun d => keys_mem h h' I fun k hk1 _ => hk k hk1⟩
theorem vert_same (h : KtG n es ts D U wo) (h' : KtG n es' ts' D' U' wo') (hU : U = U') (hs : ∀ d, sortU (D.keysAt wo d) = sortU (D'.keysAt wo' d)) (hm : D.root < D.m) (hm' : D'.root < D'.m) {a a' : Nat} (ha : D.onB D.root a) (ha' : D'.onB D'.root a') (ht : D.tint wo D.root a = D'.tint wo' D'.root a') (f : Nat) :
  ts.getD a 0 = ts'.getD a' 0 ∧ ∀ p nx, goS (seqS (fun v => ts.getD v 0) (D.chD wo) f) (D.chD wo a) p nx = goS (seqS (fun v => ts'.getD v 0) (D'.chD wo') f) (D'.chD wo' a') p nx := by
 have shs : D.shs = D'.shs := by rw [h.s.shs, h'.s.shs, hU]
 have lab : ∀ v v', v < n → v' < n → D.sh v = D'.sh v' → ts.getD v 0 = ts'.getD v' 0 := fun v v' hv hv' e => by
  rw [h.s.sh v hv, h'.s.sh v' hv', ← hU] at e
  exact idxOf_two ((h.s.mem _).2 ⟨v, hv, rfl⟩) (hU ▸ (h'.s.mem _).2 ⟨v', hv', rfl⟩) e
 have o3 := (h.v.oth_on hm ha).2.2.2.1
 have p3 := (h'.v.oth_on hm' ha').2.2.2.1
 have s1 := h.sh_lt o3
 have s2 := h'.sh_lt p3
 have n1 : ∀ q : Nat, (q : Int) ≠ D.up D.root := fun q e => by rw [h.v.hung.upr] at e; omega
 have n2 : ∀ q : Nat, (q : Int) ≠ D'.up D'.root := fun q e => by rw [h'.v.hung.upr] at e; omega
 unfold Kt.tint at ht
 cases k1 : D.kn a with
 | none =>
  cases k2 : D'.kn a' with
  | none =>
   rw [k1, k2] at ht; simp only at ht; have z1 : D.chD wo a = [] := by unfold Kt.chD; rw [k1]
   have z2 : D'.chD wo' a' = [] := by unfold Kt.chD; rw [k2]
   rw [z1, z2]; exact ⟨lab a a' o3 p3 (by omega), fun _ _ => rfl⟩
  | some q2' =>
   rw [k1, k2] at ht; simp only at ht; rw [if_neg (n2 q2')] at ht; omega
 | some q2 =>
  cases k2 : D'.kn a' with
  | none =>
   rw [k1, k2] at ht; simp only at ht; rw [if_neg (n1 q2)] at ht; omega
  | some q2' =>
   rw [k1, k2] at ht; simp only at ht; rw [if_neg (n1 q2), if_neg (n2 q2')] at ht; obtain ⟨m1, m2, m3⟩ := h.v.kn a q2 k1; obtain ⟨m4, m5, m6⟩ := h'.v.kn a' q2' k2; have u1 : D.up q2 = (D.root : Int) := by
    rcases h.v.adj D.root q2 h.v.hung.rt ((h.v.bs_block hm).2 ⟨m1, m2, by rw [m3]; exact ha⟩) with e | e
    · exact absurd e.symm (n1 q2)
    · exact e
   have u2 : D'.up q2' = (D'.root : Int) := by
    rcases h'.v.adj D'.root q2' h'.v.hung.rt ((h'.v.bs_block hm').2 ⟨m4, m5, by rw [m6]; exact ha'⟩) with e | e
    · exact absurd e.symm (n2 q2')
    · exact e
   have hd2 : D.dep q2 = D'.dep q2' := by rw [(h.v.updep m2 u1).2.2.2, (h'.v.updep m5 u2).2.2.2, h.v.hung.dpr, h'.v.hung.dpr]
   have hk2 := key_of_wo h h' hs m2 m5 hd2 (by omega); unfold Kt.key at hk2; rw [if_neg (by omega), if_neg (by omega)] at hk2; have hsh := (keyC_inj h h' m1 m2 m4 m5 hk2).1; rw [m3, m6] at hsh; have := sub_same h h' hU hs f q2 q2' m1 m2 m4 m5 hd2 hk2; rw [m3, m6] at this; exact ⟨lab a a' o3 p3 hsh, this⟩
theorem ordB_tint (D : Kt) (wo : Nat → Nat) (k : Nat) : ∃ a b, D.ordB wo k = [a, b] ∧ D.onB k a ∧ D.onB k b ∧ D.tint wo k a = min (D.tint wo k (D.ex k)) (D.tint wo k (D.ey k)) ∧ D.tint wo k b = max (D.tint wo k (D.ex k)) (D.tint wo k (D.ey k)) := by
 unfold Kt.ordB ord2
 by_cases e : D.tint wo k (D.ey k) < D.tint wo k (D.ex k)
 ·
  rw [if_pos e]
  exact ⟨_, _, rfl, .inr rfl, .inl rfl, by omega, by omega⟩
 ·
  rw [if_neg e]
  exact ⟨_, _, rfl, .inl rfl, .inr rfl, by omega, by omega⟩
theorem seq_same (h : KtG n es ts D U wo) (h' : KtG n es' ts' D' U' wo') (i : IsoG n es ts es' ts' φ) : KtV.seqO D wo ts = KtV.seqO D' wo' ts' := by
 obtain ⟨ψ, I⟩ := map h h' i
 obtain ⟨hkey, hs⟩ := all_same h h' i I
 have hroot := root_eq h h' I
 have em := I.m
 have en := I.nn
 obtain ⟨hU, -, -⟩ := shades h h' i
 have hrl := h.v.hung.rt
 have hkd := I.kd D.root hrl
 have hk0 := hkey D.root hrl
 rw [hroot] at hk0 hkd
 unfold Kt.key at hk0
 unfold KtV.seqO
 by_cases hm : D.root < D.m
 ·
  have hm' : D'.root < D'.m := by omega
  rw [if_pos hm, if_pos hm'] at hk0
  rw [if_pos hm, if_pos hm', en]
  obtain ⟨a, b, o1, o2, o3, o4, o5⟩ := ordB_tint D wo D.root
  obtain ⟨a', b', p1, p2, p3, p4, p5⟩ := ordB_tint D' wo' D'.root
  have e1 := h.v.ends hm
  have e2 := h'.v.ends hm'
  have hi := key2_inj (h'.tint_le (k := D'.root) (v := D'.ex D'.root) (by omega)) (h'.tint_le (k := D'.root) (v := D'.ey D'.root) (by omega)) (h.tint_le (k := D.root) (v := D.ex D.root) (by omega)) (h.tint_le (k := D.root) (v := D.ey D.root) (by omega)) hk0
  obtain ⟨l1, g1⟩ := vert_same h h' hU hs hm hm' o2 p2 (by rw [o4, p4, hi.1]) (D.n + 1)
  obtain ⟨l2, g2⟩ := vert_same h h' hU hs hm hm' o3 p3 (by rw [o5, p5, hi.2]) (D.n + 1)
  rw [o1, p1]
  simp only
  have hlen : ((D.chD wo a).flatMap (preS (D.chD wo) (D.n + 1))).length = ((D'.chD wo' a').flatMap (preS (D'.chD wo') (D.n + 1))).length := by
   rw [← goS_len (seqS_len (fun v => ts.getD v 0) (D.chD wo) (D.n + 1)) _ 0 2, ← goS_len (seqS_len (fun v => ts'.getD v 0) (D'.chD wo') (D.n + 1)) _ 0 2, g1]
  rw [l1, l2, g1, g2, hlen]
 ·
  have hm' : ¬ D'.root < D'.m := by omega
  rw [if_neg hm, if_neg hm'] at hk0
  rw [if_neg hm, if_neg hm', en]
  have := sub_same h h' hU hs (D.n + 1) D.root D'.root (by omega) hrl (by omega) h'.v.hung.rt (by rw [h.v.hung.dpr, h'.v.hung.dpr]) hk0.symm
  have hcv := I.cv D.root (by omega) hrl
  rw [hroot] at hcv
  have hlab : ts.getD (D.cv D.root) 0 = ts'.getD (D'.cv D'.root) 0 := by rw [hcv]; exact i.lab _ (h.v.cv _ (by omega) hrl).2
  show seqS _ _ ((D.n + 1) + 1) _ 0 0 = seqS _ _ ((D.n + 1) + 1) _ 0 0
  unfold seqS
  rw [hlab, this]
theorem codes_same (h : KtG n es ts D U wo) (h' : KtG n es' ts' D' U' wo') (i : IsoG n es ts es' ts' φ) : codeNums ts (KtV.ordO D wo) es = codeNums ts' (KtV.ordO D' wo') es' := by
 rw [(h.v.tellO wo ts).code h.v.tr, (h'.v.tellO wo' ts').code h'.v.tr, seq_same h h' i]
end KtG
end Go.Proofs.YtagjdkkfmfombaaGreat
namespace Go.Proofs.YtagjdkkfmfombaaGreat
def linksN (es : List (Int × Int)) (cuts : List Nat) (k : Nat) : List (Nat × Nat) := (List.range k).flatMap fun i => ((List.range cuts.length).filter fun j : Nat => (cuts[j]?.map fun v => decide ((v : Int) = (es.getD i (0, 0)).1 ∨ (v : Int) = (es.getD i (0, 0)).2)).getD false).map fun j => (i, j)
theorem linksT_eq (es : List (Int × Int)) (cuts : List Nat) (k : Nat) : linksT es cuts k = (linksN es cuts k).map fun p => ((p.1 : Int), (p.2 : Int)) := by
 unfold linksT linksN link1
 rw [List.map_flatMap]
 congr 1
 funext i
 rw [List.map_map]
 rfl
structure CutsOk (n : Nat) (es : List (Int × Int)) (cuts : List Nat) : Prop where
 nd : cuts.Nodup
 lt : ∀ v ∈ cuts, v < n
 mem : ∀ v, v < n → (v ∈ cuts ↔ ∃ (k l : Nat) (hk : k < es.length) (hl : l < es.length), k ≠ l ∧ ((v : Int) = es[k].1 ∨ (v : Int) = es[k].2) ∧ ((v : Int) = es[l].1 ∨ (v : Int) = es[l].2))
theorem TreeI.hv {n : Nat} {es : List (Int × Int)} {order : List Nat} {up : List Int} (h : TreeI n es order up) (hn : 0 < n) : HV n es 0 (fun v => up.getD v 0) (fun v => order.idxOf v) := by
 refine ⟨hn, by show up.getD 0 0 = -1; rw [List.getD_eq_getElem?_getD, h.root]; rfl, fun v hv hne => ?_⟩
 obtain ⟨u, h1, h2, h3, h4⟩ := h.par v hv hne
 exact ⟨u, h2, by show up.getD v 0 = (u : Int); rw [List.getD_eq_getElem?_getD, h1]; rfl, h4, h3⟩
theorem cuts_ok {n : Nat} {es : List (Int × Int)} (ht : TreeV n es) {order : List Nat} {up : List Int} (hi : TreeI n es order up) : CutsOk n es (cutsT order up n) := by
 have hv := hi.hv ht.pos
 have hr := ht.right
 refine ⟨List.nodup_range.sublist List.filter_sublist, fun v hv => List.mem_range.1 (List.mem_filter.1 hv).1, fun v hvn => ?_⟩
 have hmem : v ∈ cutsT order up n ↔ cutB order up n v = true := by
  unfold cutsT
  rw [List.mem_filter, List.mem_range]
  exact ⟨fun h => h.2, fun h => ⟨hvn, h⟩⟩
 have htake : order.take n = order := List.take_of_length_le (by rw [hi.len]; omega)
 have hch : chN order up n v = (order.filter fun x => up.getD x 0 == (v : Int)).length := by unfold chN; rw [htake]
 have hchild : ∀ x, x ∈ (order.filter fun x => up.getD x 0 == (v : Int)) ↔ x < n ∧ up.getD x 0 = (v : Int) := fun x => by
  rw [List.mem_filter]
  simp only [beq_iff_eq]
  exact ⟨fun h => ⟨hi.lt x h.1, h.2⟩, fun h => ⟨hi.all x h.1, h.2⟩⟩
 have hcnd : (order.filter fun x => up.getD x 0 == (v : Int)).Nodup := hi.nd.sublist List.filter_sublist
 have hedge : ∀ x, x ∈ adj es v → ∃ k, ∃ hk : k < es.length, (es[k] = ((v : Int), (x : Int)) ∨ es[k] = ((x : Int), (v : Int))) := fun x hx => by
  obtain ⟨j, hj, he⟩ := (mem_adj hr v x).1 hx
  exact ⟨j, hj, he⟩
 have two : ∀ x y, x ≠ y → x ∈ adj es v → y ∈ adj es v → ∃ (k l : Nat) (hk : k < es.length) (hl : l < es.length), k ≠ l ∧ ((v : Int) = es[k].1 ∨ (v : Int) = es[k].2) ∧ ((v : Int) = es[l].1 ∨ (v : Int) = es[l].2) := fun x y hne hx hy => by
  obtain ⟨k, hk, e1⟩ := hedge x hx
  obtain ⟨l, hl, e2⟩ := hedge y hy
  have nx := adj_ne hr hx
  have ny := adj_ne hr hy
  refine ⟨k, l, hk, hl, fun e => ?_, ?_, ?_⟩
  ·
   subst e; rcases e1 with e1 | e1 <;> rcases e2 with e2 | e2 <;> (rw [e1] at e2; simp only [Prod.mk.injEq] at e2; omega)
  · rcases e1 with e1 | e1 <;> rw [e1] <;> simp
  · rcases e2 with e2 | e2 <;> rw [e2] <;> simp
 have hadjc : ∀ x, x < n → up.getD x 0 = (v : Int) → x ∈ adj es v := fun x hx e => (hv.root hx e).2.2.1
 rw [hmem]
 unfold cutB
 rw [hch]
 constructor
 ·
  intro h
  simp only [Bool.or_eq_true, Bool.and_eq_true, decide_eq_true_eq, beq_iff_eq] at h
  rcases h with h | ⟨h, h2⟩
  ·
   obtain ⟨x, y, hx, hy, hne⟩ : ∃ x y, x ∈ (order.filter fun x => up.getD x 0 == (v : Int)) ∧ y ∈ (order.filter fun x => up.getD x 0 == (v : Int)) ∧ x ≠ y := by
    refine ⟨(order.filter fun x => up.getD x 0 == (v : Int))[0], (order.filter fun x => up.getD x 0 == (v : Int))[1], List.getElem_mem _, List.getElem_mem _, fun e => ?_⟩; have := nd_inj hcnd _ _ e; omega
   obtain ⟨x1, x2⟩ := (hchild x).1 hx; obtain ⟨y1, y2⟩ := (hchild y).1 hy; exact two x y hne (hadjc x x1 x2) (hadjc y y1 y2)
  ·
   obtain ⟨x, hx⟩ : ∃ x, x ∈ (order.filter fun x => up.getD x 0 == (v : Int)) := List.exists_mem_of_length_pos (by omega); obtain ⟨x1, x2⟩ := (hchild x).1 hx; obtain ⟨u, hu⟩ : ∃ u : Nat, up.getD v 0 = (u : Int) := ⟨(up.getD v 0).toNat, by omega⟩
   obtain ⟨_, u1, u2, u3⟩ := hv.root hvn hu; obtain ⟨_, _, w2, w3⟩ := hv.root x1 x2; exact two x u (fun e => by subst e; omega) (hadjc x x1 x2) (adj_symV hr u2)
 ·
  rintro ⟨k, l, hk, hl, hne, h1, h2⟩
  have hok := (rightB_iff n es).1 hr
  have other : ∀ k (hk : k < es.length), ((v : Int) = es[k].1 ∨ (v : Int) = es[k].2) → ∃ x, x ∈ adj es v ∧ (es[k] = ((v : Int), (x : Int)) ∨ es[k] = ((x : Int), (v : Int))) := fun k hk h => by
   have ho := hok.2.2.2.1 k hk; rcases h with e | e
   · refine ⟨es[k].2.toNat, (mem_adj hr v _).2 ⟨k, hk, .inl ?_⟩, .inl ?_⟩ <;> exact Prod.ext e.symm (by show es[k].2 = ((es[k].2.toNat : Nat) : Int); omega)
   · refine ⟨es[k].1.toNat, (mem_adj hr v _).2 ⟨k, hk, .inr ?_⟩, .inr ?_⟩ <;> exact Prod.ext (by show es[k].1 = ((es[k].1.toNat : Nat) : Int); omega) e.symm
  obtain ⟨x, x1, x2⟩ := other k hk h1
  obtain ⟨y, y1, y2⟩ := other l hl h2
  have hxy : x ≠ y := fun e => by
   subst e; have nx := adj_ne hr x1; have k1 := hok.2.2.2.1 k hk; have l1 := hok.2.2.2.1 l hl; have : es[k] = es[l] := by
    rcases x2 with e1 | e1 <;> rcases y2 with e2 | e2
    · rw [e1, e2]
    · rw [e1] at k1; rw [e2] at l1; simp only at k1 l1; omega
    · rw [e1] at k1; rw [e2] at l1; simp only at k1 l1; omega
    · rw [e1, e2]
   exact hne (nd_inj (right_nodup hr) hk hl this)
  have nx := adj_ne hr x1
  have ny := adj_ne hr y1
  have inC : ∀ z, z ∈ adj es v → z < n → up.getD v 0 ≠ (z : Int) → z ∈ (order.filter fun x => up.getD x 0 == (v : Int)) := fun z hz hzn hu => by
   refine (hchild z).2 ⟨hzn, ?_⟩; rcases hv.edge ht hz with e | e
   · exact e
   · exact absurd e hu
  simp only [Bool.or_eq_true, Bool.and_eq_true, decide_eq_true_eq, beq_iff_eq]
  have one : ∀ z, z ∈ adj es v → z < n → up.getD v 0 ≠ (z : Int) → 0 ≤ up.getD v 0 → 1 < (order.filter fun x => up.getD x 0 == (v : Int)).length ∨ ((order.filter fun x => up.getD x 0 == (v : Int)).length = 1 ∧ 0 ≤ up.getD v 0) := fun z hz hzn hu h0 => by
   have := List.length_pos_of_mem (inC z hz hzn hu); omega
  by_cases ex : up.getD v 0 = (x : Int)
  · exact one y y1 ny.2.2 (by omega) (by omega)
  ·
   by_cases ey : up.getD v 0 = (y : Int)
   · exact one x x1 nx.2.2 ex (by omega)
   ·
    left; have := nodup_len_le (l := [x, y]) (m := (order.filter fun x => up.getD x 0 == (v : Int))) (by simp [hxy]) fun z hz => by
     simp only [List.mem_cons, List.not_mem_nil, or_false] at hz; rcases hz with e | e
     · rw [e]; exact inC x x1 nx.2.2 ex
     · rw [e]; exact inC y y1 ny.2.2 ey
    simp only [List.length_cons, List.length_nil] at this; omega
def ktOf (es : List (Int × Int)) (cuts : List Nat) (U ts : List Int) (root : Nat) (up : Nat → Int) (dep : Nat → Nat) : Kt where
 m := es.length
 n := es.length + cuts.length
 bs := bsT es.length (linksN es cuts es.length)
 root := root
 up := up
 dep := dep
 ex k := (es.getD k (0, 0)).1.toNat
 ey k := (es.getD k (0, 0)).2.toNat
 cv q := cuts.getD (q - es.length) 0
 kn v := if v ∈ cuts then some (es.length + cuts.idxOf v) else none
 sh v := U.idxOf (ts.getD v 0)
 shs := U.length
theorem mem_linksN {es : List (Int × Int)} {cuts : List Nat} {p : Nat × Nat} : p ∈ linksN es cuts es.length ↔ ∃ (hi : p.1 < es.length) (hj : p.2 < cuts.length), (cuts[p.2] : Int) = es[p.1].1 ∨ (cuts[p.2] : Int) = es[p.1].2 := by
 unfold linksN
 rw [List.mem_flatMap]
 constructor
 ·
  rintro ⟨i, hi, hp⟩
  obtain ⟨j, hj, rfl⟩ := List.mem_map.1 hp
  obtain ⟨h1, h2⟩ := List.mem_filter.1 hj
  rw [List.mem_range] at hi h1
  refine ⟨hi, h1, ?_⟩
  rw [List.getElem?_eq_getElem h1, List.getD_eq_getElem?_getD, List.getElem?_eq_getElem hi] at h2
  simpa using h2
 ·
  rintro ⟨hi, hj, h⟩
  refine ⟨p.1, List.mem_range.2 hi, List.mem_map.2 ⟨p.2, List.mem_filter.2 ⟨List.mem_range.2 hj, ?_⟩, rfl⟩⟩
  rw [List.getElem?_eq_getElem hj, List.getD_eq_getElem?_getD, List.getElem?_eq_getElem hi]
  simpa using h
theorem nodup_pairs {k : Nat} {f : Nat → List Nat} (hf : ∀ i, (f i).Nodup) : ((List.range k).flatMap fun i => (f i).map fun j => (i, j)).Nodup := by
 induction k with
 | zero => simp
 | succ k ih =>
  rw [List.range_succ, List.flatMap_append, List.nodup_append]
  refine ⟨ih, ?_, fun a ha b hb e => ?_⟩
  ·
   simp only [List.flatMap_cons, List.flatMap_nil, List.append_nil]; exact nodup_map_on (hf k) fun x _ y _ e => (Prod.mk.inj e).2
  ·
   subst e; obtain ⟨i, hi, h1⟩ := List.mem_flatMap.1 ha; obtain ⟨j, _, rfl⟩ := List.mem_map.1 h1; simp only [List.flatMap_cons, List.flatMap_nil, List.append_nil] at hb; obtain ⟨j', _, e⟩ := List.mem_map.1 hb; have := List.mem_range.1 hi; have := (Prod.mk.inj e).1; omega
theorem linksN_nodup (es : List (Int × Int)) (cuts : List Nat) : (linksN es cuts es.length).Nodup := nodup_pairs fun _ => List.nodup_range.sublist List.filter_sublist
theorem ends_get {n : Nat} {es : List (Int × Int)} (hr : rightB n es = true) {k : Nat} (hk : k < es.length) : ∃ x y : Nat, es[k] = ((x : Int), (y : Int)) ∧ x < y ∧ y < n ∧ es.getD k (0, 0) = ((x : Int), (y : Int)) := by
 have ho := ((rightB_iff n es).1 hr).2.2.2.1 k hk
 refine ⟨es[k].1.toNat, es[k].2.toNat, Prod.ext (by show es[k].1 = _; omega) (by show es[k].2 = _; omega), by omega, by omega, ?_⟩
 rw [List.getD_eq_getElem?_getD, List.getElem?_eq_getElem hk]
 exact Prod.ext (by show es[k].1 = _; omega) (by show es[k].2 = _; omega)
theorem tree_links {n : Nat} {es : List (Int × Int)} {cuts : List Nat} (ht : TreeV n es) (h2 : 2 ≤ n) (hc : CutsOk n es cuts) : TreeT es.length cuts.length (linksN es cuts es.length) := by
 have hr := ht.right
 have hlen := ht.len
 obtain ⟨m, hm⟩ : ∃ m, m = es.length := ⟨_, rfl⟩
 obtain ⟨P, hP⟩ : ∃ P, P = (List.range es.length).flatMap fun i => [(es.getD i (0, 0)).1.toNat, (es.getD i (0, 0)).2.toNat].map fun j => (i, j) := ⟨_, rfl⟩
 have hPnd : P.Nodup := by
  have : ∀ k, k ≤ es.length → ((List.range k).flatMap fun i => [(es.getD i (0, 0)).1.toNat, (es.getD i (0, 0)).2.toNat].map fun j => (i, j)).Nodup := fun k => by
   induction k with
   | zero => intro _; simp
   | succ k ih =>
    intro hk; obtain ⟨x, y, e1, e2, e3, e4⟩ := ends_get hr (k := k) (by omega); rw [List.range_succ, List.flatMap_append, List.nodup_append]; refine ⟨ih (by omega), ?_, fun a ha b hb e => ?_⟩
    ·
     simp only [List.flatMap_cons, List.flatMap_nil, List.append_nil, e4]; simp; omega
    ·
     subst e; obtain ⟨i, hi, h1⟩ := List.mem_flatMap.1 ha; obtain ⟨j, _, rfl⟩ := List.mem_map.1 h1; simp only [List.flatMap_cons, List.flatMap_nil, List.append_nil] at hb; obtain ⟨j', _, e⟩ := List.mem_map.1 hb; have := List.mem_range.1 hi; have := (Prod.mk.inj e).1; omega
  rw [hP]; exact this _ (Nat.le_refl _)
 have hPl : P.length = 2 * es.length := by
  rw [hP]
  have : ∀ l : List Nat, (l.flatMap fun i => [(es.getD i (0, 0)).1.toNat, (es.getD i (0, 0)).2.toNat].map fun j => (i, j)).length = 2 * l.length := fun l => by
   induction l with
   | nil => rfl
   | cons a l ih => rw [List.flatMap_cons, List.length_append, ih]; simp; omega
  rw [this, List.length_range]
 have hPm : ∀ p : Nat × Nat, p ∈ P ↔ ∃ hi : p.1 < es.length, (p.2 : Int) = es[p.1].1 ∨ (p.2 : Int) = es[p.1].2 := fun p => by
  rw [hP, List.mem_flatMap]
  constructor
  ·
   rintro ⟨i, hi, hp⟩; obtain ⟨j, hj, rfl⟩ := List.mem_map.1 hp; rw [List.mem_range] at hi; obtain ⟨x, y, e1, e2, e3, e4⟩ := ends_get hr hi; refine ⟨hi, ?_⟩; rw [e4] at hj; simp at hj; rw [e1]; simp only; omega
  ·
   rintro ⟨hi, h⟩; obtain ⟨x, y, e1, e2, e3, e4⟩ := ends_get hr hi; refine ⟨p.1, List.mem_range.2 hi, List.mem_map.2 ⟨p.2, ?_, rfl⟩⟩; rw [e1] at h; rw [e4]; simp only at h; simp; omega
 have hlt : ∀ p ∈ P, p.2 < n := fun p hp => by
  obtain ⟨hi, h⟩ := (hPm p).1 hp
  obtain ⟨x, y, e1, e2, e3, e4⟩ := ends_get hr hi
  rw [e1] at h
  simp only at h
  omega
 have hsome : ∀ v, v < n → ∃ k, (k, v) ∈ P := fun v hv => by
  obtain ⟨r, hr', hne⟩ : ∃ r, r < n ∧ v ≠ r := by
   by_cases e : v = 0
   · exact ⟨1, by omega, by omega⟩
   · exact ⟨0, by omega, e⟩
  obtain ⟨up, dep, hh⟩ := ht.hung hr'
  obtain ⟨u, _, _, h3, _⟩ := hh.par v hv hne
  obtain ⟨j, hj, he⟩ := (mem_adj hr u v).1 h3
  refine ⟨j, (hPm _).2 ⟨hj, ?_⟩⟩
  rcases he with e | e <;> rw [e] <;> simp
 have hcut : ∀ k l v, (k, v) ∈ P → (l, v) ∈ P → k ≠ l → v ∈ cuts := fun k l v h1 h2 hne => by
  obtain ⟨hk, e1⟩ := (hPm _).1 h1
  obtain ⟨hl, e2⟩ := (hPm _).1 h2
  exact (hc.mem v (hlt _ h1)).2 ⟨k, l, hk, hl, hne, e1, e2⟩
 have hL : ∀ p : Nat × Nat, p ∈ linksN es cuts es.length ↔ ∃ hj : p.2 < cuts.length, (p.1, cuts[p.2]) ∈ P := fun p => by
  rw [mem_linksN]
  constructor
  ·
   rintro ⟨hi, hj, h⟩; exact ⟨hj, (hPm _).2 ⟨hi, h⟩⟩
  ·
   rintro ⟨hj, h⟩; obtain ⟨hi, e⟩ := (hPm _).1 h; exact ⟨hi, hj, e⟩
 have hidx : ∀ v ∈ cuts, cuts.idxOf v < cuts.length ∧ cuts[cuts.idxOf v]? = some v := fun v hv => ⟨List.idxOf_lt_length_iff.2 hv, get_idx hv⟩
 refine ⟨by omega, fun p hp => ?_, linksN_nodup es cuts, ?_, ?_⟩
 ·
  obtain ⟨hi, hj, _⟩ := mem_linksN.1 hp
  exact ⟨hi, hj⟩
 ·
  
  have s1 := filter_split P (fun _ => true) (fun p => decide (p.2 ∈ cuts)) fun _ _ _ => rfl
  have e0 : (P.filter fun _ => true) = P := List.filter_eq_self.2 fun _ _ => rfl
  simp only [Bool.true_and] at s1
  rw [e0, hPl] at s1
  have a1 : (P.filter fun p => decide (p.2 ∈ cuts)).length = (linksN es cuts es.length).length := by
   refine Nat.le_antisymm ?_ ?_
   ·
    refine inj_len (fun p => (p.1, cuts.idxOf p.2)) (hPnd.sublist List.filter_sublist) (fun p hp q hq e => ?_) fun p hp => ?_
    ·
     have pc := of_decide_eq_true (List.mem_filter.1 hp).2; have qc := of_decide_eq_true (List.mem_filter.1 hq).2; simp only [Prod.mk.injEq] at e; have g1 := get_idx pc; have g2 := get_idx qc; rw [e.2, g2] at g1; exact Prod.ext e.1 (Option.some.inj g1).symm
    ·
     have pc := of_decide_eq_true (List.mem_filter.1 hp).2; obtain ⟨i1, i2⟩ := hidx _ pc; refine (hL _).2 ⟨i1, ?_⟩; rw [List.getElem?_eq_getElem i1] at i2; simp only [Option.some.inj i2]; exact (List.mem_filter.1 hp).1
   ·
    refine inj_len (fun p => (p.1, cuts.getD p.2 0)) (linksN_nodup es cuts) (fun p hp q hq e => ?_) fun p hp => ?_
    ·
     obtain ⟨pj, _⟩ := (hL p).1 hp; obtain ⟨qj, _⟩ := (hL q).1 hq; simp only [Prod.mk.injEq, List.getD_eq_getElem?_getD, List.getElem?_eq_getElem pj, List.getElem?_eq_getElem qj, Option.getD_some] at e; exact Prod.ext e.1 (nd_inj hc.nd pj qj e.2)
    ·
     obtain ⟨pj, h⟩ := (hL p).1 hp; simp only [List.getD_eq_getElem?_getD, List.getElem?_eq_getElem pj, Option.getD_some]; exact List.mem_filter.2 ⟨h, by simp⟩
  have a2 : (P.filter fun p => !decide (p.2 ∈ cuts)).length = ((List.range n).filter fun v => !decide (v ∈ cuts)).length := by
   refine Nat.le_antisymm ?_ ?_
   ·
    refine inj_len (fun p => p.2) (hPnd.sublist List.filter_sublist) (fun p hp q hq e => ?_) fun p hp => ?_
    ·
     obtain ⟨p1, p2⟩ := List.mem_filter.1 hp; obtain ⟨q1, q2⟩ := List.mem_filter.1 hq; refine Classical.byContradiction fun hne => ?_; have : p.1 ≠ q.1 := fun e1 => hne (Prod.ext e1 e); have := hcut p.1 q.1 p.2 p1 (by rw [show p.2 = q.2 from e]; exact q1) this; simp [this] at p2
    ·
     obtain ⟨p1, p2⟩ := List.mem_filter.1 hp; exact List.mem_filter.2 ⟨List.mem_range.2 (hlt p p1), p2⟩
   ·
    have hex : ∀ v, ∃ k, v < n → (k, v) ∈ P := fun v => by
     by_cases hv : v < n
     ·
      obtain ⟨k, hk⟩ := hsome v hv; exact ⟨k, fun _ => hk⟩
     · exact ⟨0, fun h => absurd h hv⟩
    obtain ⟨kk, hkk⟩ := Classical.axiomOfChoice hex; refine inj_len (fun v => (kk v, v)) (List.nodup_range.sublist List.filter_sublist) (fun p _ q _ e => (Prod.mk.inj e).2) fun v hv => ?_; obtain ⟨v1, v2⟩ := List.mem_filter.1 hv; exact List.mem_filter.2 ⟨hkk v (List.mem_range.1 v1), v2⟩
  have s2 := filter_split (List.range n) (fun _ => true) (fun v => decide (v ∈ cuts)) fun _ _ _ => rfl
  have e2 : ((List.range n).filter fun _ => true) = List.range n := List.filter_eq_self.2 fun _ _ => rfl
  simp only [Bool.true_and] at s2
  rw [e2, List.length_range] at s2
  have a3 : ((List.range n).filter fun v => decide (v ∈ cuts)).length = cuts.length := nodup_same (List.nodup_range.sublist List.filter_sublist) hc.nd fun x => by
   rw [List.mem_filter, List.mem_range]; simp only [decide_eq_true_eq]; exact ⟨fun h => h.2, fun h => ⟨hc.lt x h, h⟩⟩
  omega
 ·
  
  intro Z h0 hstep
  have hrow0 : ∀ i j, Z (0, i) → (i, j) ∈ linksN es cuts es.length → Z (1, j) := fun i j hz hp => by
   obtain ⟨hi, hj, _⟩ := mem_linksN.1 hp; exact hstep 0 i j hz (by omega) hi ((mem_rowT (by omega)).2 (by simpa using hp))
  have hrow1 : ∀ i j, Z (1, j) → (i, j) ∈ linksN es cuts es.length → Z (0, i) := fun i j hz hp => by
   obtain ⟨hi, hj, _⟩ := mem_linksN.1 hp; exact hstep 1 j i hz (by omega) hj ((mem_rowT (by omega)).2 (by simpa using hp))
  have hshare : ∀ k l v, (k, v) ∈ P → (l, v) ∈ P → Z (0, k) → Z (0, l) := fun k l v h1 h2 hz => by
   by_cases e : k = l
   · rw [← e]; exact hz
   ·
    have hvc := hcut k l v h1 h2 e; obtain ⟨i1, i2⟩ := hidx v hvc; rw [List.getElem?_eq_getElem i1] at i2; have p1 : (k, cuts.idxOf v) ∈ linksN es cuts es.length := (hL _).2 ⟨i1, by simp only [Option.some.inj i2]; exact h1⟩; have p2 : (l, cuts.idxOf v) ∈ linksN es cuts es.length := (hL _).2 ⟨i1, by simp only [Option.some.inj i2]; exact h2⟩; exact hrow1 l _ (hrow0 k _ hz p1) p2
  have hm0 : 0 < es.length := by omega
  obtain ⟨x0, y0, e1, e2, e3, e4⟩ := ends_get hr hm0
  have hx0 : (0, x0) ∈ P := (hPm _).2 ⟨hm0, by rw [e1]; simp⟩
  obtain ⟨up, dep, hh⟩ := ht.hung (r := x0) (by omega)
  have hall : ∀ v, AncV up x0 v → v < n → ∀ k, (k, v) ∈ P → Z (0, k) := fun v ha => by
   induction ha with
   | refl => intro _ k hk; exact hshare 0 k x0 hx0 hk h0
   | @step u v _ e ih =>
    intro hv k hk; obtain ⟨_, hu, h3, _⟩ := hh.root hv e; obtain ⟨j, hj, he⟩ := (mem_adj hr u v).1 h3; have j1 : (j, u) ∈ P := (hPm _).2 ⟨hj, by rcases he with e | e <;> rw [e] <;> simp⟩; have j2 : (j, v) ∈ P := (hPm _).2 ⟨hj, by rcases he with e | e <;> rw [e] <;> simp⟩; exact hshare j k v j2 hk (ih hu j j1)
  have hall2 : ∀ k v, (k, v) ∈ P → Z (0, k) := fun k v hk => hall v (AncV.of hh _ v (Nat.le_refl _) (hlt _ hk)) (hlt _ hk) k hk
  intro k v hk hv
  by_cases e : k = 0
  ·
   subst e; have hv' : v < es.length := hv; obtain ⟨x, y, f1, f2, f3, f4⟩ := ends_get hr hv'; exact hall2 v x ((hPm _).2 ⟨hv', by rw [f1]; simp⟩)
  ·
   obtain rfl : k = 1 := by omega
   have hv' : v < cuts.length := hv; obtain ⟨k, hkp⟩ := hsome cuts[v] (hc.lt _ (List.getElem_mem _)); exact hrow0 k v (hall2 k _ hkp) ((hL _).2 ⟨hv', hkp⟩)
theorem hung_adj {m c : Nat} {L : List (Nat × Nat)} {root : Nat} {up : Nat → Int} {dep : Nat → Nat} (ht : TreeT m c L) (h : Hung (m + c) (bsT m L) root up dep) {x y : Nat} (_hx : x < m + c) (hy : y ∈ bsT m L x) : up x = (y : Int) ∨ up y = (x : Int) := by
 have hpr : ∀ k, k < m + c → k ≠ root → ∃ p : Nat, p < m + c ∧ up k = p ∧ p ∈ bsT m L k ∧ dep k = dep p + 1 := h.par
 let pr : Nat → Nat := fun k => (up k).toNat
 have hp : ∀ k, k < m + c → k ≠ root → up k = (pr k : Int) ∧ pr k ∈ bsT m L k ∧ dep k = dep (pr k) + 1 := fun k hk hne => by
  obtain ⟨p, h1, h2, h3, h4⟩ := hpr k hk hne
  have : pr k = p := by show (up k).toNat = p; rw [h2]; rfl
  rw [this]; exact ⟨h2, h3, h4⟩
 have hnd : (((List.range (m + c)).filter fun k => decide (k ≠ root)).map fun k => lkT m (pr k) k).Nodup := by
  refine nodup_map_on (List.nodup_range.sublist List.filter_sublist) fun a ha b hb e => ?_
  rw [List.mem_filter, List.mem_range] at ha hb
  obtain ⟨a1, a2, a3⟩ := hp a ha.1 (by simpa using ha.2)
  obtain ⟨b1, b2, b3⟩ := hp b hb.1 (by simpa using hb.2)
  rcases HgI.lk_inj ht a2 b2 e with ⟨_, e2⟩ | ⟨e1, e2⟩
  · exact e2
  ·
   rw [e1] at a3; rw [← e2] at b3; omega
 have hcnt : (((List.range (m + c)).filter fun k => decide (k ≠ root)).map fun k => lkT m (pr k) k).length = L.length := by
  rw [List.length_map]
  have : (List.range (m + c)).filter (fun v => decide (v ≠ root)) = (List.range (m + c)).erase root := by
   rw [List.nodup_range.erase_eq_filter]; congr 1; funext v; by_cases q : v = root <;> simp [q]
  rw [this, List.length_erase_of_mem (List.mem_range.2 h.rt), List.length_range]
  have := ht.len; omega
 have hlm := HgI.lk_mem ht hy
 have hex : lkT m y x ∈ ((List.range (m + c)).filter fun k => decide (k ≠ root)).map fun k => lkT m (pr k) k := by
  refine Classical.byContradiction fun hno => ?_
  have hle := List.Nodup.length_le_of_subset (l₁ := ((List.range (m + c)).filter fun k => decide (k ≠ root)).map fun k => lkT m (pr k) k) (l₂ := L.erase (lkT m y x)) hnd fun z hz => by
   have hze : z ≠ lkT m y x := fun q => hno (q ▸ hz); obtain ⟨k, hk, rfl⟩ := List.mem_map.1 hz; rw [List.mem_filter, List.mem_range] at hk; exact (List.mem_erase_of_ne hze).2 (HgI.lk_mem ht (hp k hk.1 (by simpa using hk.2)).2.1)
  rw [hcnt, List.length_erase_of_mem hlm] at hle
  have := List.length_pos_of_mem hlm
  omega
 obtain ⟨k, hk, e⟩ := List.mem_map.1 hex
 rw [List.mem_filter, List.mem_range] at hk
 obtain ⟨k1, k2, k3⟩ := hp k hk.1 (by simpa using hk.2)
 rcases HgI.lk_inj ht k2 hy e with ⟨e1, e2⟩ | ⟨e1, e2⟩
 · left; rw [← e2, k1, e1]
 · right; rw [← e2, k1, e1]
theorem hung_lev {K : Nat} {bs : Nat → List Nat} {root : Nat} {up : Nat → Int} {dep : Nat → Nat} (h : Hung K bs root up dep) {k : Nat} (hk : k < K) : dep k < K := by
 have hlv : ∀ j k, k < K → dep k = j → ∀ d, d ≤ j → ∃ p, p < K ∧ dep p = d := by
  intro j
  induction j with
  | zero => intro k hk e d hd; exact ⟨k, hk, by omega⟩
  | succ j ih =>
   intro k hk e d hd; by_cases hdj : d = j + 1
   · exact ⟨k, hk, by omega⟩
   ·
    by_cases er : k = root
    · rw [er, h.dpr] at e; omega
    ·
     obtain ⟨p, h1, _, _, h4⟩ := h.par k hk er; exact ih p h1 (by omega) d (by omega)
 have hex : ∀ d, ∃ p, d ≤ dep k → p < K ∧ dep p = d := fun d => by
  by_cases hd : d ≤ dep k
  ·
   obtain ⟨p, hp⟩ := hlv (dep k) k hk rfl d hd; exact ⟨p, fun _ => hp⟩
  · exact ⟨0, fun h => absurd h hd⟩
 obtain ⟨f, hf⟩ := Classical.axiomOfChoice hex
 have := inj_len (l := List.range (dep k + 1)) (m := List.range K) f List.nodup_range (fun x hx y hy e => by
  rw [List.mem_range] at hx hy
  have a := (hf x (by omega)).2
  have b := (hf y (by omega)).2
  rw [e, b] at a
  omega) fun x hx => List.mem_range.2 (hf x (by have := List.mem_range.1 hx; omega)).1
 simp at this
 omega
section
variable {n : Nat} {es : List (Int × Int)} {cuts : List Nat} {U ts : List Int} {root : Nat} {up : Nat → Int} {dep : Nat → Nat}
theorem ktV_of (ht : TreeV n es) (h2 : 2 ≤ n) (hc : CutsOk n es cuts) (hh : Hung (es.length + cuts.length) (bsT es.length (linksN es cuts es.length)) root up dep) : KtV n es (ktOf es cuts U ts root up dep) := by
 have hr := ht.right
 have htt := tree_links ht h2 hc
 have hlt : ∀ p ∈ linksN es cuts es.length, p.1 < es.length := fun p hp => (htt.lt p hp).1
 obtain ⟨D, hD⟩ : ∃ D, D = ktOf es cuts U ts root up dep := ⟨_, rfl⟩
 have hex : ∀ k (hk : k < es.length), es[k] = ((D.ex k : Int), (D.ey k : Int)) := fun k hk => by
  obtain ⟨x, y, e1, e2, e3, e4⟩ := ends_get hr hk
  have a : D.ex k = x := by rw [hD]; show (es.getD k (0, 0)).1.toNat = x; rw [e4]; rfl
  have b : D.ey k = y := by rw [hD]; show (es.getD k (0, 0)).2.toNat = y; rw [e4]; rfl
  rw [a, b, e1]
 have hon : ∀ k v (hk : k < es.length), D.onB k v ↔ ((v : Int) = es[k].1 ∨ (v : Int) = es[k].2) := fun k v hk => by
  rw [hex k hk]
  unfold Kt.onB
  simp only
  omega
 have hcv : ∀ q, D.cv q = cuts.getD (q - es.length) 0 := fun q => by rw [hD]; rfl
 have hkn : ∀ v, D.kn v = if v ∈ cuts then some (es.length + cuts.idxOf v) else none := fun v => by rw [hD]; rfl
 have hm : D.m = es.length := by rw [hD]; rfl
 have hn : D.n = es.length + cuts.length := by rw [hD]; rfl
 have hbs : D.bs = bsT es.length (linksN es cuts es.length) := by rw [hD]; rfl
 have hupD : D.up = up := by rw [hD]; rfl
 have hdpD : D.dep = dep := by rw [hD]; rfl
 have hrtD : D.root = root := by rw [hD]; rfl
 rw [← hD]
 have hvn : ∀ k v (hk : k < es.length), D.onB k v → v < n := fun k v hk h => by
  obtain ⟨x, y, e1, e2, e3, e4⟩ := ends_get hr hk
  have := (hon k v hk).1 h
  rw [e1] at this
  simp only at this
  omega
 have hget : ∀ j (hj : j < cuts.length), cuts.getD j 0 = cuts[j] := fun j hj => by rw [List.getD_eq_getElem?_getD, List.getElem?_eq_getElem hj]; rfl
 refine ⟨ht, hm, fun k hk => ?_, by rw [hm]; have := ht.len; omega, fun q h1 h3 => ?_, fun v q hq => ?_, fun v k l hk h1 h3 h4 h5 => ?_, fun v q hq => ?_, fun x y => ?_, fun x => by rw [hbs]; exact htt.treeG.nd x, by rw [hn, hbs, hrtD, hupD, hdpD]; exact hh, fun x y hx hy => ?_, fun k hk => ?_, by omega⟩
 ·
  rw [hm] at hk
  rw [List.getElem?_eq_getElem hk, hex k hk]
 ·
  have hj : q - es.length < cuts.length := by omega
  rw [hcv, hget _ hj]
  refine ⟨?_, hc.lt _ (List.getElem_mem _)⟩
  rw [hkn, if_pos (List.getElem_mem _), hc.nd.idxOf_getElem]
  congr 1
  omega
 ·
  rw [hkn] at hq
  split at hq
  ·
   rename_i hv; have := List.idxOf_lt_length_iff.2 hv; have e := Option.some.inj hq; refine ⟨by omega, by omega, ?_⟩; rw [hcv, show q - es.length = cuts.idxOf v by omega, hget _ this]; have := get_idx hv; rw [List.getElem?_eq_getElem ‹_›] at this; exact Option.some.inj this
  · cases hq
 ·
  refine Classical.byContradiction fun hne => ?_
  rw [hm] at h1 h3
  have hv := (hc.mem v (hvn k v h1 h4)).2 ⟨k, l, h1, h3, hne, (hon k v h1).1 h4, (hon l v h3).1 h5⟩
  rw [hkn, if_pos hv] at hk
  cases hk
 ·
  rw [hkn] at hq
  split at hq
  ·
   rename_i hv; obtain ⟨k, l, hk, hl, hne, h1, h2⟩ := (hc.mem v (hc.lt v hv)).1 hv; exact ⟨k, l, by omega, by omega, hne, (hon k v hk).2 h1, (hon l v hl).2 h2⟩
  · cases hq
 ·
  rw [hbs, mem_bsT hlt]
  constructor
  ·
   rintro ⟨p, hp, ⟨rfl, rfl⟩ | ⟨rfl, rfl⟩⟩
   ·
    obtain ⟨hi, hj, he⟩ := mem_linksN.1 hp; refine .inl ⟨by omega, by omega, by omega, (hon _ _ hi).2 ?_⟩; rw [hcv, show es.length + p.2 - es.length = p.2 by omega, hget _ hj]; exact he
   ·
    obtain ⟨hi, hj, he⟩ := mem_linksN.1 hp; refine .inr ⟨by omega, by omega, by omega, (hon _ _ hi).2 ?_⟩; rw [hcv, show es.length + p.2 - es.length = p.2 by omega, hget _ hj]; exact he
  ·
   rintro (⟨a1, a2, a3, a4⟩ | ⟨a1, a2, a3, a4⟩)
   ·
    have hj : y - es.length < cuts.length := by omega
    rw [hm] at a1; have := (hon _ _ a1).1 a4; rw [hcv, hget _ hj] at this; exact ⟨(x, y - es.length), mem_linksN.2 ⟨a1, hj, this⟩, .inl ⟨rfl, by show y = es.length + (y - es.length); omega⟩⟩
   ·
    have hj : x - es.length < cuts.length := by omega
    rw [hm] at a3; have := (hon _ _ a3).1 a4; rw [hcv, hget _ hj] at this; exact ⟨(y, x - es.length), mem_linksN.2 ⟨a3, hj, this⟩, .inr ⟨rfl, by show x = es.length + (x - es.length); omega⟩⟩
 ·
  rw [hn] at hx
  rw [hbs] at hy
  rw [hupD]
  exact hung_adj htt hh hx hy
 ·
  rw [hn] at hk ⊢
  rw [hdpD]
  exact hung_lev hh hk
theorem ktOk_of (ht : TreeV n es) (h2 : 2 ≤ n) (hc : CutsOk n es cuts) (hh : Hung (es.length + cuts.length) (bsT es.length (linksN es cuts es.length)) root up dep) (hU : U.length ≤ 1000) (hm : ∀ v, v < n → ts.getD v 0 ∈ U) {F : Int → Option Int} (hF : ∀ v, v < n → F v = ((ktOf es cuts U ts root up dep).kn v).map fun q => (q : Int)) : (ktOf es cuts U ts root up dep).Ok n F := by
 have hV := ktV_of (U := U) (ts := ts) ht h2 hc hh
 have hn := ((rightB_iff n es).1 ht.right).2.1
 have hcl : cuts.length ≤ n := by
  have := nodup_len_le hc.nd (m := List.range n) fun x hx => List.mem_range.2 (hc.lt x hx)
  simpa using this
 have hNl : (ktOf es cuts U ts root up dep).n = es.length + cuts.length := rfl
 have hml : (ktOf es cuts U ts root up dep).m = es.length := rfl
 obtain ⟨D, hD⟩ : ∃ D, D = ktOf es cuts U ts root up dep := ⟨_, rfl⟩
 have hsh : ∀ v, v < n → D.sh v < D.shs := fun v hv => by rw [hD]; exact List.idxOf_lt_length_iff.2 (hm v hv)
 have hshs : D.shs ≤ 1000 := by rw [hD]; exact hU
 rw [← hD] at hV hNl hml hF ⊢
 have hlen := ht.len
 refine ⟨by omega, by omega, hV.mn, fun k x hx => ?_, hV.bnd, fun k hk => hV.ends hk, fun q h1 h3 => (hV.cv q h1 h3).2, hF, fun v q hq => ⟨(hV.kn v q hq).1, (hV.kn v q hq).2.1⟩, fun k hk => ?_, hsh, hshs, by omega, fun k x hk hx hne => ?_, fun k v q hk hv hq => ?_, fun k hk hd => ?_⟩
 ·
  rcases (hV.bs k x).1 hx with ⟨_, _, h, _⟩ | ⟨_, _, h, _⟩
  · exact h
  · have := hV.mn; omega
 ·
  by_cases e : k = D.root
  · rw [e, hV.hung.upr]; have := hV.hung.rt; omega
  ·
   obtain ⟨p, h1, h3, _, _⟩ := hV.hung.par k hk e; rw [h3]; omega
 ·
  have hxn : x < D.n := by
   rcases (hV.bs k x).1 hx with ⟨_, _, h, _⟩ | ⟨_, _, h, _⟩
   · exact h
   · have := hV.mn; omega
  rcases hV.adj k x hk hx with e | e
  · exact absurd e.symm hne
  · exact (hV.updep hxn e).2.2.2
 ·
  obtain ⟨k1, k2, k3⟩ := hV.kn v q hq
  exact (hV.bs_block hk).2 ⟨k1, k2, by rw [k3]; exact hv⟩
 ·
  have e : k ≠ D.root := fun e => by rw [e, hV.hung.dpr] at hd; omega
  obtain ⟨p, h1, _, _, h4⟩ := hV.hung.par k hk e
  exact ⟨p, h1, h4⟩
theorem shOk_of (hl : ts.length = n) (root : Nat) (up : Nat → Int) (dep : Nat → Nat) : ShOk n ts (ktOf es cuts (Lib.compact (ts.mergeSort fun x y => decide (x ≤ y))) ts root up dep) (Lib.compact (ts.mergeSort fun x y => decide (x ≤ y))) := by
 have hp : (ts.mergeSort fun x y => decide (x ≤ y)).Pairwise (· ≤ ·) := by
  have := List.pairwise_mergeSort (le := fun x y : Int => decide (x ≤ y)) (fun a b c h1 h2 => by simp only [decide_eq_true_eq] at *; omega) (fun a b => by simp only [Bool.or_eq_true, decide_eq_true_eq]; omega) ts
  exact this.imp fun h => by simpa using h
 obtain ⟨h1, h2⟩ := compact_strict _ hp
 refine ⟨h1, fun x => ?_, rfl, fun v hv => rfl⟩
 rw [h2, List.mem_mergeSort]
 constructor
 ·
  intro hx
  obtain ⟨i, hi, rfl⟩ := List.getElem_of_mem hx
  exact ⟨i, by omega, by rw [List.getD_eq_getElem?_getD, List.getElem?_eq_getElem hi]; rfl⟩
 ·
  rintro ⟨v, hv, rfl⟩
  rw [List.getD_eq_getElem?_getD, List.getElem?_eq_getElem (by omega)]
  exact List.getElem_mem _
end
end Go.Proofs.YtagjdkkfmfombaaGreat
