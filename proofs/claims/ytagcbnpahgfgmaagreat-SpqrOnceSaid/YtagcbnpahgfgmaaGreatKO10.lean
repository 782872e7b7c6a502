/- Facts that the claim rests on, part 11. -/
import Derived.Test.YtagcbnpahgfgmaaGreatKO09
namespace Go.Proofs.YtagcbnpahgfgmaaGreat
open Go Go.RowKit
theorem sides_take_le {ls : List Lk} {wo : List Int} (hR : RightL ls) (f t i : Nat) (hi : i ≤ (groupsL ls wo).length) : (inS f t (groupsL ls wo) i).length + (outS f t (groupsL ls wo) i).length ≤ ls.length := by
 rw [inS_len f t _ i hi]
 have h := congrArg (fun l => (lensL l).sum) (List.take_append_drop i (groupsL ls wo))
 have h2 := lens_sum (wo := wo) hR
 unfold lensL at h h2 ⊢
 simp only [List.map_append, List.sum_append] at h
 omega
set_option maxRecDepth 100000 in
set_option maxHeartbeats 8000000 in
theorem sides_walk (a : Option Addr) (cap : Nat) (ls : List Lk) (p q num : Int) (w : World) (hr : RdL w a ls) (h2 : twoL ls = true) (hmay : mayB ls p q = true) (hp : WfZ p) (hq : WfZ q) :
  Calls Tryz.prog 71 #[.slice a ls.length cap, .int .i64 p, .int .i64 q, .int .i64 num] w (RetSides w (sidesL ls p q num)) := by
 have hR := two_right h2
 have hn := hR.1
 obtain ⟨G, hG⟩ : ∃ G, G = groupsL ls [p, q] := ⟨_, rfl⟩
 have hcl : classesL ls p q = (G, 0) := by unfold classesL; rw [hmay, hG]; rfl
 have hGl : G.length ≤ 1000 := by rw [hG]; exact groups_len_le _ _
 have hGr : ∀ (i : Nat) r, G[i]? = some r → 0 < r.length ∧ r.length ≤ 1000 := fun i r h => by
  rw [hG] at h
  obtain ⟨i0, _, X⟩ := grp_at ((rightL_iff ls).2 hR) h
  exact ⟨List.length_pos_of_mem X.self, Nat.le_trans X.sub.length_le hn⟩
 have hGr2 : ∀ r ∈ G, r.length ≤ 100000 := fun r hr => by
  obtain ⟨i, hi⟩ := List.getElem?_of_mem hr
  have := (hGr i r hi).2
  omega
 obtain ⟨⟨F, T⟩, hft⟩ : ∃ ft, ft = fromTo ls.length G := ⟨_, rfl⟩
 have hsd : sidesL ls p q num = (sortL ((p, q, num) :: inS F T G G.length), sortL ((p, q, num) :: outS F T G G.length)) := by
  unfold sidesL
  simp only
  rw [← hG, ← hft]
 have hidx : (F = 0 ∧ T = 2 ∧ idxZ ls.length G = -1) ∨ (T = F + 1 ∧ idxZ ls.length G = (F : Int) ∧ F < G.length) := by
  unfold fromTo at hft
  unfold idxZ
  cases hf : G.findIdx? (chosenB ls.length) with
  | none => rw [hf] at hft; cases hft; exact .inl ⟨rfl, rfl, rfl⟩
  | some i =>
   rw [hf] at hft; cases hft; exact .inr ⟨rfl, rfl, by rw [List.findIdx?_eq_some_iff_getElem] at hf; exact hf.1⟩
 have hTb : T ≤ 1001 ∧ F ≤ 1001 := by rcases hidx with ⟨a1, a2, _⟩ | ⟨a1, _, a3⟩ <;> omega
 have htl : ∀ f t i, i ≤ G.length → (inS f t G i).length + (outS f t G i).length ≤ ls.length := fun f t i hi => by rw [hG] at hi ⊢; exact sides_take_le hR f t i hi
 have Hcl := Lib.hid hcl; have HG := Lib.hid hG; have HGr := Lib.hid hGr; have HGr2 := Lib.hid hGr2; have Hsd := Lib.hid hsd; have Hidx := Lib.hid hidx; have Htl := Lib.hid htl; have Hp := Lib.hid hp; have Hq := Lib.hid hq
 clear hcl hG hGr hGr2 hft hsd hidx htl h2 hmay hp hq hR
 have hbA := bl_alloc w (.cells #[.slice a ls.length cap] 22)
 have hbx : (w.alloc (.cells #[.slice a ls.length cap] 22)).cell? ⟨w.heap.size, 0, none⟩ = some (.slice a ls.length cap) := by simp
 have hrA := hr.below hbA
 go_enter Tryz.func71, Tryz.ntmps71
 go_wp2_with fail
 refine (classes_walk a cap ls p q _ hrA (by omega) Hp.out Hq.out).mono ?_
 rw [Hcl.out]
 rintro e w1 ⟨vo, vals, rfl, hL, hb1⟩
 simp only at hL ⊢
 obtain ⟨ao, co, rfl, hrG, _, _⟩ := hL.read
 have hbW := bl_trans hbA hb1
 have hbx1 := keep_cell hb1 hbx
 clear hL hb1 hbx hrA hbA hr
 go_wp2_with fail
 refine (indexG_walk ao a co w.heap.size ls.length cap G _ hrG hbx1 (by omega) (by omega) HGr2.out).mono ?_
 rintro e w' ⟨rfl, rfl⟩
 obtain ⟨z, hz⟩ : ∃ z, z = idxZ ls.length G := ⟨_, rfl⟩
 rw [← hz]
 have Hz := Lib.hid hz
 clear hz
 go_upto_if 32 with (fail)
 go_cut [13, 14] (fun f t wx => f = .int .i64 (F : Nat) ∧ t = .int .i64 (T : Nat) ∧ w1 = wx)
 case first =>
  rcases Hidx.out with ⟨rfl, rfl, hz⟩ | ⟨rfl, hz, hFl⟩
  ·
   rw [← Hz.out] at hz; subst hz; go_wp2_with fail; go_meet
   exact ⟨rfl, rfl, rfl⟩
  ·
   rw [← Hz.out] at hz; have z0 : decide (0 ≤ z) = true := by simp; omega
   have hz2 : z = (F : Int) := hz; subst hz2; clear z0; go_wp2_with fail; go_meet
   exact ⟨rfl, by go_num, rfl⟩
 case rest =>
 obtain ⟨rfl, rfl, rfl⟩ := hcut
 obtain ⟨x0, hx0⟩ : ∃ x0 : Lk, x0 = (p, q, num) := ⟨_, rfl⟩
 go_upto_region 9 with (fail)
 have ha1 := bl_alloc w1 (.cells #[.int .i64 p, .int .i64 q, .int .i64 num] 38)
 have hx1 : Row (w1.alloc (.cells #[.int .i64 p, .int .i64 q, .int .i64 num] 38)) w1.heap.size 38 3 1 (lkCells [x0]) := by
  have := row_new w1 #[.int .i64 p, .int .i64 q, .int .i64 num] 38 3 1 rfl (by unfold maxLen; omega)
  rw [hx0]
  simpa [lkCells] using this
 have hs2 : (w1.alloc (.cells #[.int .i64 p, .int .i64 q, .int .i64 num] 38)).heap.size = w1.heap.size + 1 := by simp
 generalize w1.alloc (.cells #[.int .i64 p, .int .i64 q, .int .i64 num] 38) = w2 at ha1 hx1 hs2 ⊢
 have ha2 := bl_alloc w2 (.cells #[.int .i64 p, .int .i64 q, .int .i64 num] 38)
 have hy1 : Row (w2.alloc (.cells #[.int .i64 p, .int .i64 q, .int .i64 num] 38)) (w1.heap.size + 1) 38 3 1 (lkCells [x0]) := by
  have := row_new w2 #[.int .i64 p, .int .i64 q, .int .i64 num] 38 3 1 rfl (by unfold maxLen; omega)
  rw [hs2] at this
  rw [hx0]
  simpa [lkCells] using this
 have hx2 := hx1.below ha2 hx1.lt
 have hb3 : Below w1.heap.size w1 (w2.alloc (.cells #[.int .i64 p, .int .i64 q, .int .i64 num] 38)) := bl_trans ha1 ha2
 generalize w2.alloc (.cells #[.int .i64 p, .int .i64 q, .int .i64 num] 38) = w3 at hy1 hx2 hb3 ⊢
 have hou : OwnL w3 (.slice (some ⟨w1.heap.size, 0, none⟩) 1 1) [x0] := hx2.own rfl (Nat.le_refl _)
 have hov : OwnL w3 (.slice (some ⟨w1.heap.size + 1, 0, none⟩) 1 1) [x0] := hy1.own rfl (Nat.le_refl _)
 have Hou := Lib.hid hou; have Hov := Lib.hid hov; have Hx0 := Lib.hid hx0
 clear hx1 hx2 hy1 ha1 ha2 hs2 hou hov hx0
 go_wp2_with fail
 go_loopg [16, 17, 48] G.length (fun r ov tv iv wj => ∃ (i : Nat) (u v : Value), i + r = G.length ∧ iv = .int .i64 i ∧ u = ov ∧ v = tv ∧ OwnL wj u (x0 :: inS F T G i) ∧ OwnL wj v (x0 :: outS F T G i) ∧ (∀ g, u.ownBlock = some g → w1.heap.size ≤ g) ∧ (∀ g, v.ownBlock = some g → w1.heap.size ≤ g ∧ u.ownBlock ≠ some g) ∧ Below w1.heap.size w1 wj)
 case atStart => exact ⟨0, _, _, by omega, rfl, rfl, rfl, Hou.out, Hov.out, (fun g hg => by have e : w1.heap.size = g := Option.some.inj hg; omega), (fun g hg => by have e : w1.heap.size + 1 = g := Option.some.inj hg; exact ⟨by omega, fun h => by have e2 : w1.heap.size = g := Option.some.inj h; omega⟩), hb3⟩
 case round =>
  clear hb3
  obtain ⟨i, u, v, hi, rfl, rfl, rfl, hu, hv, hub, hvb, hbj⟩ := hrel
  have Hi := Lib.hid hi; have Hu := Lib.hid hu; have Hv := Lib.hid hv; have Hlu := Lib.hid hub; have Hlv := Lib.hid hvb
  clear hu hv hub hvb
  by_cases hil : i < G.length
  ·
   clear hi; obtain ⟨R, hR⟩ : ∃ R, G[i] = R := ⟨_, rfl⟩
   have hRi : G[i]? = some R := by rw [List.getElem?_eq_getElem hil, hR]
   obtain ⟨bo, oo, au, cu, rfl, p0G, hrR, hRc, hcm⟩ := hrG i R hRi; have hR0 := HGr.out i R hRi; obtain ⟨b1, o1, rfl, _⟩ := hrR.at 0 hR0.1; have p0 := keep_cell hbj p0G; have e1 := inS_succ F T G i hil; have e2 := outS_succ F T G i hil; rw [hR] at e1 e2; have htl := Htl.out F T i (by omega); have hlt1 := Hidx.out; obtain ⟨hR1, hR2⟩ := hR0; clear hRi hR hlt1; by_cases hF : F ≤ i
   ·
    have q1 : decide ((F : Int) ≤ (i : Int)) = true := by simp; omega
    have q1' : decide (F ≤ i) = true := by simpa using hF
    by_cases hT : i < T
    ·
     have q2 : decide ((i : Int) < (T : Int)) = true := by simp; omega
     have q2' : decide (i < T) = true := by simpa using hT
     rw [if_pos ⟨hF, hT⟩] at e1; rw [if_pos ⟨hF, hT⟩, List.append_nil] at e2; have hPA : x0 :: inS F T G (i + 1) = (x0 :: inS F T G i) ++ R := by rw [e1] <;> simp
     have hPB : x0 :: outS F T G (i + 1) = x0 :: outS F T G i := by rw [e2] <;> simp
     obtain ⟨oA, hoA⟩ : ∃ o, o = x0 :: inS F T G i := ⟨_, rfl⟩
     obtain ⟨oB, hoB⟩ : ∃ o, o = x0 :: outS F T G i := ⟨_, rfl⟩
     have hua := Hu.out; have hub := Hv.out; have hoAl : oA.length ≤ 1001 := by rw [hoA, List.length_cons]; omega
     rw [← hoA] at hua hPA; rw [← hoB] at hub hPB; have Hua := Lib.hid hua; have Hub := Lib.hid hub; have HPA := Lib.hid hPA; have HPB := Lib.hid hPB; have hnews : ∀ (j : Nat) v, (lkCells R)[j]? = some v → wr.cell? ((⟨b1, o1, none⟩ : Addr).add j) = some v := fun j v hj => by
      obtain ⟨b', o', e1, e2⟩ := (hrR.below hbj) j v hj; cases e1; rw [addr_add]; exact e2
     have Hone := Lib.hid (lkCells_one R); have Hnews := Lib.hid hnews; have Hlen := Lib.hid (lkCells_length R); have hltB : ∀ g, v.ownBlock = some g → g < wr.heap.size := fun g h => Own.lt hub h; have hneAB : ∀ g, v.ownBlock = some g → u.ownBlock ≠ some g := (fun g h => (Hlv.out g h).2)
     have hloA : ∀ g, u.ownBlock = some g → w1.heap.size ≤ g := Hlu.out; have HltB := Lib.hid hltB; have HneAB := Lib.hid hneAB; have HloA := Lib.hid hloA; clear hua hub hPA hPB hoA hoB hnews hltB hneAB hloA; go_wp2_with (at_builtin; refine wpList_append_row _ rfl (.tmp 61) (.tmp 62) 22 rfl 38 (.agg #[.int .i64 0, .int .i64 0, .int .i64 0]) 3 24 Tryz.underlying22 link_info rfl u oA.length _ rfl Hua.out ⟨b1, o1, none⟩ R.length cu (lkCells R) rfl Hlen.out Hnews.out Hone.out (by omega) (by unfold maxLen; omega) (by omega) ?_); intro g5 c5 w5 hr5 hc5 hg5 hor5; have hb5 : Below w1.heap.size w1 w5 := hbj.grown hg5 hbj.size (fun j hj => HloA.out j hj); have hg6 : w1.heap.size ≤ g5 := by
      rcases hor5 with h | h
      · exact HloA.out g5 h
      · have := hbj.size; omega
     have hg7 : ∀ g, v.ownBlock = some g → g5 ≠ g := fun g hg e => by
      subst e; rcases hor5 with h | h
      · exact HneAB.out g5 hg h
      · have := HltB.out g5 hg; omega
     have hr6 : OwnL w5 (.slice (some ⟨g5, 0, none⟩) (oA.length + R.length) c5) (oA ++ R) := by
      have h1 : Row w5 g5 38 3 c5 (lkCells (oA ++ R)) := by rw [lkCells_append]; exact hr5
      have := h1.own (n := oA.length + R.length) (by rw [lkCells_length]; simp) hc5; unfold OwnL; rw [List.length_append]; exact this
     have hr7 : OwnL w5 v oB := OwnL.grown Hub.out hg5 HneAB.out; have Hr6 := Lib.hid hr6; have Hr7 := Lib.hid hr7; have Hg7 := Lib.hid hg7; clear hr5 hg5 hor5 hr6 hr7 hg7; go_wp2_with fail; go_roundg (gk - 1)
     case measure => have := Hi.out; omega
     case rel => exact ⟨i + 1, _, v, by have := Hi.out; omega, by go_num, rfl, rfl, by rw [HPA.out]; exact Hr6.out, by rw [HPB.out]; exact Hr7.out, (fun g hg => by cases hg; exact hg6), (fun g hg => ⟨(Hlv.out g hg).1, fun h => by cases h; exact Hg7.out _ hg rfl⟩), hb5⟩
    ·
     have q2 : decide ((i : Int) < (T : Int)) = false := by simp; omega
     have q2' : decide (i < T) = false := by simpa using hT
     rw [if_neg (fun h => hT h.2), List.append_nil] at e1; rw [if_neg (fun h => hT h.2)] at e2; have hPA : x0 :: outS F T G (i + 1) = (x0 :: outS F T G i) ++ R := by rw [e2] <;> simp
     have hPB : x0 :: inS F T G (i + 1) = x0 :: inS F T G i := by rw [e1] <;> simp
     obtain ⟨oA, hoA⟩ : ∃ o, o = x0 :: outS F T G i := ⟨_, rfl⟩
     obtain ⟨oB, hoB⟩ : ∃ o, o = x0 :: inS F T G i := ⟨_, rfl⟩
     have hua := Hv.out; have hub := Hu.out; have hoAl : oA.length ≤ 1001 := by rw [hoA, List.length_cons]; omega
     rw [← hoA] at hua hPA; rw [← hoB] at hub hPB; have Hua := Lib.hid hua; have Hub := Lib.hid hub; have HPA := Lib.hid hPA; have HPB := Lib.hid hPB; have hnews : ∀ (j : Nat) v, (lkCells R)[j]? = some v → wr.cell? ((⟨b1, o1, none⟩ : Addr).add j) = some v := fun j v hj => by
      obtain ⟨b', o', e1, e2⟩ := (hrR.below hbj) j v hj; cases e1; rw [addr_add]; exact e2
     have Hone := Lib.hid (lkCells_one R); have Hnews := Lib.hid hnews; have Hlen := Lib.hid (lkCells_length R); have hltB : ∀ g, u.ownBlock = some g → g < wr.heap.size := fun g h => Own.lt hub h; have hneAB : ∀ g, u.ownBlock = some g → v.ownBlock ≠ some g := (fun g h h2 => (Hlv.out g h2).2 h)
     have hloA : ∀ g, v.ownBlock = some g → w1.heap.size ≤ g := (fun g h => (Hlv.out g h).1)
     have HltB := Lib.hid hltB; have HneAB := Lib.hid hneAB; have HloA := Lib.hid hloA; clear hua hub hPA hPB hoA hoB hnews hltB hneAB hloA; go_wp2_with (at_builtin; refine wpList_append_row _ rfl (.tmp 64) (.tmp 65) 22 rfl 38 (.agg #[.int .i64 0, .int .i64 0, .int .i64 0]) 3 24 Tryz.underlying22 link_info rfl v oA.length _ rfl Hua.out ⟨b1, o1, none⟩ R.length cu (lkCells R) rfl Hlen.out Hnews.out Hone.out (by omega) (by unfold maxLen; omega) (by omega) ?_); intro g5 c5 w5 hr5 hc5 hg5 hor5; have hb5 : Below w1.heap.size w1 w5 := hbj.grown hg5 hbj.size (fun j hj => HloA.out j hj); have hg6 : w1.heap.size ≤ g5 := by
      rcases hor5 with h | h
      · exact HloA.out g5 h
      · have := hbj.size; omega
     have hg7 : ∀ g, u.ownBlock = some g → g5 ≠ g := fun g hg e => by
      subst e; rcases hor5 with h | h
      · exact HneAB.out g5 hg h
      · have := HltB.out g5 hg; omega
     have hr6 : OwnL w5 (.slice (some ⟨g5, 0, none⟩) (oA.length + R.length) c5) (oA ++ R) := by
      have h1 : Row w5 g5 38 3 c5 (lkCells (oA ++ R)) := by rw [lkCells_append]; exact hr5
      have := h1.own (n := oA.length + R.length) (by rw [lkCells_length]; simp) hc5; unfold OwnL; rw [List.length_append]; exact this
     have hr7 : OwnL w5 u oB := OwnL.grown Hub.out hg5 HneAB.out; have Hr6 := Lib.hid hr6; have Hr7 := Lib.hid hr7; have Hg7 := Lib.hid hg7; clear hr5 hg5 hor5 hr6 hr7 hg7; go_wp2_with fail; go_roundg (gk - 1)
     case measure => have := Hi.out; omega
     case rel => exact ⟨i + 1, u, _, by have := Hi.out; omega, by go_num, rfl, rfl, by rw [HPB.out]; exact Hr7.out, by rw [HPA.out]; exact Hr6.out, Hlu.out, (fun g hg => by cases hg; exact ⟨hg6, fun h => Hg7.out _ h rfl⟩), hb5⟩
   ·
    have q1 : decide ((F : Int) ≤ (i : Int)) = false := by simp; omega
    have q1' : decide (F ≤ i) = false := by simpa using hF
    rw [if_neg (fun h => hF h.1), List.append_nil] at e1; rw [if_neg (fun h => hF h.1)] at e2; have hPA : x0 :: outS F T G (i + 1) = (x0 :: outS F T G i) ++ R := by rw [e2] <;> simp
    have hPB : x0 :: inS F T G (i + 1) = x0 :: inS F T G i := by rw [e1] <;> simp
    obtain ⟨oA, hoA⟩ : ∃ o, o = x0 :: outS F T G i := ⟨_, rfl⟩
    obtain ⟨oB, hoB⟩ : ∃ o, o = x0 :: inS F T G i := ⟨_, rfl⟩
    have hua := Hv.out; have hub := Hu.out; have hoAl : oA.length ≤ 1001 := by rw [hoA, List.length_cons]; omega
    rw [← hoA] at hua hPA; rw [← hoB] at hub hPB; have Hua := Lib.hid hua; have Hub := Lib.hid hub; have HPA := Lib.hid hPA; have HPB := Lib.hid hPB; have hnews : ∀ (j : Nat) v, (lkCells R)[j]? = some v → wr.cell? ((⟨b1, o1, none⟩ : Addr).add j) = some v := fun j v hj => by
     obtain ⟨b', o', e1, e2⟩ := (hrR.below hbj) j v hj; cases e1; rw [addr_add]; exact e2
    have Hone := Lib.hid (lkCells_one R); have Hnews := Lib.hid hnews; have Hlen := Lib.hid (lkCells_length R); have hltB : ∀ g, u.ownBlock = some g → g < wr.heap.size := fun g h => Own.lt hub h; have hneAB : ∀ g, u.ownBlock = some g → v.ownBlock ≠ some g := (fun g h h2 => (Hlv.out g h2).2 h)
    have hloA : ∀ g, v.ownBlock = some g → w1.heap.size ≤ g := (fun g h => (Hlv.out g h).1)
    have HltB := Lib.hid hltB; have HneAB := Lib.hid hneAB; have HloA := Lib.hid hloA; clear hua hub hPA hPB hoA hoB hnews hltB hneAB hloA; go_wp2_with (at_builtin; refine wpList_append_row _ rfl (.tmp 64) (.tmp 65) 22 rfl 38 (.agg #[.int .i64 0, .int .i64 0, .int .i64 0]) 3 24 Tryz.underlying22 link_info rfl v oA.length _ rfl Hua.out ⟨b1, o1, none⟩ R.length cu (lkCells R) rfl Hlen.out Hnews.out Hone.out (by omega) (by unfold maxLen; omega) (by omega) ?_); intro g5 c5 w5 hr5 hc5 hg5 hor5; have hb5 : Below w1.heap.size w1 w5 := hbj.grown hg5 hbj.size (fun j hj => HloA.out j hj); have hg6 : w1.heap.size ≤ g5 := by
     rcases hor5 with h | h
     · exact HloA.out g5 h
     · have := hbj.size; omega
    have hg7 : ∀ g, u.ownBlock = some g → g5 ≠ g := fun g hg e => by
     subst e; rcases hor5 with h | h
     · exact HneAB.out g5 hg h
     · have := HltB.out g5 hg; omega
    have hr6 : OwnL w5 (.slice (some ⟨g5, 0, none⟩) (oA.length + R.length) c5) (oA ++ R) := by
     have h1 : Row w5 g5 38 3 c5 (lkCells (oA ++ R)) := by rw [lkCells_append]; exact hr5
     have := h1.own (n := oA.length + R.length) (by rw [lkCells_length]; simp) hc5; unfold OwnL; rw [List.length_append]; exact this
    have hr7 : OwnL w5 u oB := OwnL.grown Hub.out hg5 HneAB.out; have Hr6 := Lib.hid hr6; have Hr7 := Lib.hid hr7; have Hg7 := Lib.hid hg7; clear hr5 hg5 hor5 hr6 hr7 hg7; go_wp2_with fail; go_roundg (gk - 1)
    case measure => have := Hi.out; omega
    case rel => exact ⟨i + 1, u, _, by have := Hi.out; omega, by go_num, rfl, rfl, by rw [HPB.out]; exact Hr7.out, by rw [HPA.out]; exact Hr6.out, Hlu.out, (fun g hg => by cases hg; exact ⟨hg6, fun h => Hg7.out _ h rfl⟩), hb5⟩
  ·
   have hin : i = G.length := by omega
   subst hin; have htl := Htl.out F T G.length (Nat.le_refl _); obtain ⟨X, hX⟩ : ∃ X, X = x0 :: inS F T G G.length := ⟨_, rfl⟩
   obtain ⟨Y, hY⟩ : ∃ Y, Y = x0 :: outS F T G G.length := ⟨_, rfl⟩
   have hXl : X.length ≤ 1001 := by rw [hX, List.length_cons]; omega
   have hYl : Y.length ≤ 1001 := by rw [hY, List.length_cons]; omega
   have hsd := Hsd.out; rw [← Hx0.out, ← hX, ← hY] at hsd; have hu := Hu.out; have hv := Hv.out; rw [← hX] at hu; rw [← hY] at hv; obtain ⟨au, cu, rfl, hru, _, _, _⟩ := OwnL.read hu; obtain ⟨av, cv, rfl, hrv, _, _, _⟩ := OwnL.read hv; have Hsd2 := Lib.hid hsd; have hB1 := bl_trans hbW hbj; clear hX hY hsd hu hv hi htl; go_wp2_with fail; refine (sorted_walk au cu X _ hru (by omega)).mono ?_; rintro e w5 ⟨v5, rfl, ho5, hg5, hb5⟩; have hrv5 := hrv.below hb5; have hB5 := bl_trans hB1 hb5; go_wp2_with fail; refine (sorted_walk av cv Y _ hrv5 (by omega)).mono ?_; rintro e w6 ⟨v6, rfl, ho6, hg6, hb6⟩; have ho5' : OwnL w6 v5 (sortL X) := Own.ext ho5 hb6; have hs1 := hB1.size; have hs5 := hB5.size; have hB6 := bl_trans hB5 hb6; have Ho5 := Lib.hid ho5'; have Ho6 := Lib.hid ho6; have Hg5 := Lib.hid hg5; have Hg6 := Lib.hid hg6; clear ho5 ho5' ho6 hg5 hg6 hb5 hb6; go_wp2_with fail; go_ret2; rw [Hsd2.out]; exact ⟨v5, v6, rfl, Ho5.out, Ho6.out, fun g hg => by have := Hg5.out g hg; omega, fun g hg => by have := Hg6.out g hg; omega, hB6⟩
end Go.Proofs.YtagcbnpahgfgmaaGreat
namespace Go.Proofs.YtagcbnpahgfgmaaGreat
open Go Go.RowKit
theorem RdL.grown {w w' : World} {a : Option Addr} {ls : List Lk} (h : RdL w a ls) {k : Option Nat} (hg : w.grownBy w' k) (hne : ∀ ad, a = some ad → k ≠ some ad.block) : RdL w' a ls := by
 intro i u hu
 obtain ⟨b, o, e, hc⟩ := h i u hu
 exact ⟨b, o, e, grown_cell hg hc (hne _ e)⟩
def FreeB (vals : List Value) (g : Nat) : Prop := ∀ (i : Nat) a n c ad, vals[i]? = some (.slice a n c) → a = some ad → ad.block ≠ g
structure PRows (w : World) (B : Nat) (vo : Value) (vals : List Value) (gs : List (List Lk)) : Prop where
 len : vals.length = gs.length
 outer : Own w vo 22 1 vals.length vals
 lo : ∀ g, vo.ownBlock = some g → B ≤ g
 row : ∀ (i : Nat) r, gs[i]? = some r → ∃ a c, vals[i]? = some (.slice a r.length c) ∧ RdL w a r ∧ r.length ≤ c ∧ c ≤ maxLen ∧ ∀ ad, a = some ad → ad.block < w.heap.size
namespace PRows
variable {w w' : World} {B : Nat} {vo : Value} {vals : List Value} {gs : List (List Lk)}
theorem start (w : World) (B : Nat) : PRows w B (.slice none 0 0) [] [] := ⟨rfl, own_nil _ _ _, fun g hg => by simp [Value.ownBlock] at hg, fun i r hr => by simp at hr⟩
theorem grown (h : PRows w B vo vals gs) {k : Option Nat} (hg : w.grownBy w' k) (ho : ∀ g, vo.ownBlock = some g → k ≠ some g) (hf : ∀ g, k = some g → FreeB vals g) : PRows w' B vo vals gs :=
 ⟨h.len, h.outer.grown hg ho, h.lo, fun i r hr => by
  obtain ⟨a, c, h1, h2, h3, h4, h5⟩ := h.row i r hr
  exact ⟨a, c, h1, h2.grown hg (fun ad ha hk => hf _ hk i a _ c ad h1 ha rfl), h3, h4, fun ad ha => by have := h5 ad ha; have := hg.size; omega⟩⟩
theorem ext (h : PRows w B vo vals gs) (hb : Below w.heap.size w w') : PRows w' B vo vals gs :=
 h.grown (k := none) ⟨hb.os, hb.tape, hb.output, hb.size, fun i hi _ => hb.block i hi⟩ (fun _ _ => by simp) (fun _ hk => by cases hk)
theorem free_new (h : PRows w B vo vals gs) {g : Nat} (hg : w.heap.size ≤ g) : FreeB vals g := fun i a n c ad hv ha e => by
 have hi := (List.getElem?_eq_some_iff.1 hv).1
 rw [h.len] at hi
 obtain ⟨a', c', h1, _, _, _, h5⟩ := h.row i gs[i] (List.getElem?_eq_getElem hi)
 rw [hv] at h1
 cases h1
 have := h5 ad ha
 omega
theorem pop {g n cap : Nat} {u : Value} {r : List Lk} (h : PRows w B (.slice (some ⟨g, 0, none⟩) n cap) (vals ++ [u]) (gs ++ [r])) :
  PRows w B (.slice (some ⟨g, 0, none⟩) vals.length cap) vals gs ∧ vals.length = gs.length ∧ n = vals.length + 1 ∧ ∃ a c, u = .slice a r.length c ∧ RdL w a r ∧ r.length ≤ c ∧ c ≤ maxLen ∧ ∀ ad, a = some ad → ad.block < w.heap.size := by
 have hl := h.len
 simp at hl
 rcases h.outer.2 with ⟨e, _⟩ | ⟨g', cap', e, hc, hr⟩
 · cases e
 ·
  cases e
  have hr2 : Row w g 22 1 cap vals := by
   have := hr.take vals.length; rwa [List.take_left] at this
  refine ⟨⟨hl, ⟨by simp, .inr ⟨g, cap, rfl, by simp at hc; omega, hr2⟩⟩, h.lo, fun i q hq => ?_⟩, hl, by simp, ?_⟩
  ·
   have hi := (List.getElem?_eq_some_iff.1 hq).1; obtain ⟨a, c, h1, h2⟩ := h.row i q (by rw [List.getElem?_append_left hi]; exact hq); rw [List.getElem?_append_left (by omega)] at h1; exact ⟨a, c, h1, h2⟩
  ·
   obtain ⟨a, c, h1, h2⟩ := h.row gs.length r (by simp); rw [← hl] at h1; simp at h1; exact ⟨a, c, h1, h2⟩
theorem push (h : PRows w B vo vals gs) {a : Option Addr} {c : Nat} {r : List Lk} (hr : RdL w a r) (hc1 : r.length ≤ c) (hc2 : c ≤ maxLen) (hlt : ∀ ad, a = some ad → ad.block < w.heap.size)
  {G cap : Nat} (hrow : Row w' G 22 1 cap (vals ++ [.slice a r.length c])) (hc : vals.length + 1 ≤ cap) (hg : w.grownBy w' vo.ownBlock) (hor : vo.ownBlock = some G ∨ w.heap.size ≤ G) (hB : B ≤ w.heap.size)
  (hf : ∀ g, vo.ownBlock = some g → FreeB vals g) (hfa : ∀ g, vo.ownBlock = some g → ∀ ad, a = some ad → ad.block ≠ g) :
  PRows w' B (.slice (some ⟨G, 0, none⟩) (vals.length + 1) cap) (vals ++ [.slice a r.length c]) (gs ++ [r]) := by
 refine ⟨by simp [h.len], ⟨by simp, .inr ⟨G, cap, by simp, by simpa using hc, hrow⟩⟩, fun g hg' => ?_, fun i q hq => ?_⟩
 ·
  cases hg'
  rcases hor with h1 | h1
  · exact h.lo _ h1
  · exact Nat.le_trans hB h1
 ·
  by_cases hi : i < gs.length
  ·
   rw [List.getElem?_append_left hi] at hq; obtain ⟨a', c', h1, h2, h3, h4, h5⟩ := h.row i q hq; refine ⟨a', c', by rw [List.getElem?_append_left (by rw [h.len]; exact hi)]; exact h1, h2.grown hg (fun ad ha hk => hf _ hk i a' _ c' ad h1 ha rfl), h3, h4, fun ad ha => by have := h5 ad ha; have := hg.size; omega⟩
  ·
   have h1 := (List.getElem?_eq_some_iff.1 hq).1; simp at h1; obtain rfl : i = gs.length := by omega
   simp at hq; subst hq; exact ⟨a, c, by rw [← h.len]; simp, hr.grown hg (fun ad ha hk => hfa _ hk ad ha rfl), hc1, hc2, fun ad ha => by have := hlt ad ha; have := hg.size; omega⟩
theorem read (h : PRows w B vo vals gs) : ∃ a c, vo = .slice a gs.length c ∧ RdLs w a gs ∧ gs.length ≤ c ∧ c ≤ maxLen := by
 rcases h.outer.2 with ⟨rfl, h0⟩ | ⟨G, cap, rfl, hc, hr⟩
 ·
  have : gs = [] := List.eq_nil_of_length_eq_zero (by rw [← h.len]; exact h0)
  subst this
  exact ⟨none, 0, rfl, fun i r hr => by simp at hr, by simp, by unfold maxLen; omega⟩
 ·
  refine ⟨some ⟨G, 0, none⟩, cap, by rw [h.len], fun i r hgr => ?_, by rw [← h.len]; exact hc, hr.cap_le⟩
  obtain ⟨a, c, h1, h2, h3, h4, _⟩ := h.row i r hgr
  have hi : i < vals.length := by rw [h.len]; exact (List.getElem?_eq_some_iff.1 hgr).1
  exact ⟨G, 0, a, c, rfl, by rw [Nat.zero_add, hr.cell? i hi, h1], h2, h3, h4⟩
end PRows
theorem FreeB.app {vals : List Value} {g : Nat} (h : FreeB vals g) {a : Option Addr} {n c : Nat} (ha : ∀ ad, a = some ad → ad.block ≠ g) : FreeB (vals ++ [.slice a n c]) g := by
 intro i a' n' c' ad hv he
 by_cases hi : i < vals.length
 ·
  rw [List.getElem?_append_left hi] at hv
  exact h i a' n' c' ad hv he
 ·
  have h1 := (List.getElem?_eq_some_iff.1 hv).1
  simp at h1
  obtain rfl : i = vals.length := by omega
  simp at hv
  obtain ⟨rfl, _, _⟩ := hv
  exact ha ad he
theorem FreeB.sub {vals : List Value} {u : Value} {g : Nat} (h : FreeB (vals ++ [u]) g) : FreeB vals g := fun i a n c ad hv he =>
 h i a n c ad (by rw [List.getElem?_append_left (List.getElem?_eq_some_iff.1 hv).1]; exact hv) he
theorem FreeB.last {vals : List Value} {a : Option Addr} {n c g : Nat} (h : FreeB (vals ++ [.slice a n c]) g) : ∀ ad, a = some ad → ad.block ≠ g := fun ad he => h vals.length a n c ad (by simp) he
theorem FreeB.nil (g : Nat) : FreeB [] g := fun i a n c ad hv => by simp at hv
end Go.Proofs.YtagcbnpahgfgmaaGreat
namespace Go.Proofs.YtagcbnpahgfgmaaGreat
open Go Go.RowKit
theorem alloc_size (w : World) (o : Obj) : (w.alloc o).heap.size = w.heap.size + 1 := by simp
theorem grown_refl (w : World) (r : Option Nat) : w.grownBy w r := ⟨rfl, rfl, rfl, Nat.le_refl _, fun _ _ _ => rfl⟩
theorem PRows.push2 {w w' : World} {B : Nat} {vo : Value} {vals : List Value} {gs : List (List Lk)} (h : PRows w B vo vals gs) {a a' : Option Addr} {c c' : Nat} {r r' : List Lk} (hr : RdL w a r) (hc1 : r.length ≤ c) (hc2 : c ≤ maxLen) (hlt : ∀ ad, a = some ad → ad.block < w.heap.size)
  (hr' : RdL w a' r') (hc1' : r'.length ≤ c') (hc2' : c' ≤ maxLen) (hlt' : ∀ ad, a' = some ad → ad.block < w.heap.size)
  {G cap : Nat} (hrow : Row w' G 22 1 cap (vals ++ [.slice a r.length c, .slice a' r'.length c'])) (hc : vals.length + 2 ≤ cap) (hg : w.grownBy w' vo.ownBlock) (hor : vo.ownBlock = some G ∨ w.heap.size ≤ G) (hB : B ≤ w.heap.size)
  (hf : ∀ g, vo.ownBlock = some g → FreeB vals g) (hfa : ∀ g, vo.ownBlock = some g → ∀ ad, a = some ad → ad.block ≠ g) (hfa' : ∀ g, vo.ownBlock = some g → ∀ ad, a' = some ad → ad.block ≠ g) :
  PRows w' B (.slice (some ⟨G, 0, none⟩) (vals.length + 2) cap) (vals ++ [.slice a r.length c] ++ [.slice a' r'.length c']) (gs ++ [r] ++ [r']) := by
 have hrow' : Row w' G 22 1 cap (vals ++ [.slice a r.length c] ++ [.slice a' r'.length c']) := by rw [List.append_assoc]; exact hrow
 have h1 := h.push hr hc1 hc2 hlt (w' := w') (G := G) (cap := cap) (by
  have := hrow'.take (vals.length + 1)
  rwa [List.take_left' (by simp)] at this) (by omega) hg hor hB hf hfa
 have hGl := hrow.lt
 have hne : ∀ (ad : Addr), (a = some ad ∨ a' = some ad) → ad.block ≠ G := fun ad had e => by
  rcases hor with h1 | h1
  ·
   rcases had with h2 | h2
   · exact hfa _ h1 ad h2 e
   · exact hfa' _ h1 ad h2 e
  ·
   rcases had with h2 | h2
   · have := hlt ad h2; omega
   · have := hlt' ad h2; omega
 have hfG : FreeB vals G := by
  rcases hor with h1 | h1
  · exact hf _ h1
  · exact h.free_new h1
 have h2 := h1.push (hr'.grown hg (fun ad ha hk => hfa' _ hk ad ha rfl)) hc1' hc2' (fun ad ha => by have := hlt' ad ha; have := hg.size; omega) (w' := w') (G := G) (cap := cap) (by simpa using hrow')
  (by simp; omega) (grown_refl w' _) (.inl rfl) (by have := hg.size; omega) (fun g hg' => by cases hg'; exact hfG.app fun ad ha => hne ad (.inl ha)) (fun g hg' ad ha => by cases hg'; exact hne ad (.inr ha))
 simpa using h2
structure CrossB (vt vo : Value) (valsT valsO : List Value) : Prop where
 t : ∀ g, vt.ownBlock = some g → vo.ownBlock ≠ some g ∧ FreeB valsT g ∧ FreeB valsO g
 o : ∀ g, vo.ownBlock = some g → FreeB valsT g ∧ FreeB valsO g
def RetSplit (w : World) (ls : List Lk) (next : Int) (e : Ending) (w' : World) : Prop :=
 ∃ a c out n, e = .returned (.tuple #[.slice a out.length c, .int .i64 n, .int .i64 0]) ∧ RdLs w' a out ∧ SplitTo ls next out n ∧ out.length ≤ 1001 ∧ (∀ r ∈ out, r.length ≤ 1000) ∧ Below w.heap.size w w'
set_option maxRecDepth 100000 in
set_option maxHeartbeats 8000000 in
theorem split_walk (a : Option Addr) (cap : Nat) (ls : List Lk) (next : Int) (w : World) (hr : RdL w a ls) (h2 : twoL ls = true) (hn1 : 1 ≤ next) (hn2 : next ≤ 1047576) (hv : ∀ k ∈ ls, k.2.2 < next) :
  Calls Tryz.prog 35 #[.slice a ls.length cap, .int .i64 next] w (RetSplit w ls next) := by
 have hn := (two_right h2).1
 have q1 : decide (next < 1) = false := by simp; omega
 have q2 : decide (1047576 < next) = false := by simp; omega
 have H2 := Lib.hid h2; have Hv := Lib.hid hv
 clear h2 hv
 go_enter Tryz.func35, Tryz.ntmps35
 go_wp2_with fail
 go_step3
 go_wp2_with fail
 refine (two_walk a cap ls _ hr (by omega)).mono ?_
 rw [H2.out]
 rintro e w1 ⟨rfl, hb1⟩
 have hr1 := hr.below hb1
 go_wp2_with fail
 go_loopg [29] ls.length (fun r iv wj => ∃ i : Nat, i + r = ls.length ∧ iv = .int .i64 i ∧ Below w1.heap.size w1 wj)
 case atStart => exact ⟨0, by omega, rfl, bl_refl _⟩
 case round =>
  obtain ⟨i, hi, rfl, hb⟩ := hrel
  have Hi := Lib.hid hi
  by_cases hil : i < ls.length
  ·
   clear hi; obtain ⟨b, o, rfl, c0, c1, c2⟩ := (hr1.below hb).at i hil; have hlt := Hv.out _ (List.getElem_mem hil); obtain ⟨⟨x, y, z⟩, hx⟩ : ∃ x : Lk, ls[i] = x := ⟨_, rfl⟩
   rw [hx] at c0 c1 c2 hlt; simp only at c0 c1 c2 hlt; have q3 : decide (next ≤ z) = false := by simp; omega
   clear hx hlt; go_wp2_with fail; go_roundg (gk - 1)
   case measure => have := Hi.out; omega
   case rel => exact ⟨i + 1, by have := Hi.out; omega, by go_num, bl_trans hb (bl_alloc _ _)⟩
  ·
   have hin : i = ls.length := by omega
   subst hin; clear hi; have hr2 := hr1.below hb; have hB2 := bl_trans hb1 hb; clear q1 q2; go_wp2_with fail; refine (clone_walk a cap ls _ hr2 (by omega)).mono ?_; rintro e w3 ⟨v3, rfl, ho3, _, hb3⟩; obtain ⟨a3, c3, rfl, hr3, _, hc3m, hc3⟩ := ho3.read; have hB3 := bl_trans hB2 hb3; have hlt3 : ∀ ad, a3 = some ad → ad.block < w3.heap.size := fun ad e => by
    subst e; exact Own.lt ho3 rfl
   clear ho3 hb3 hB2 hr2 hb; have hA := bl_alloc w3 (.cells #[.slice a3 ls.length c3] 22); have hrow : Row (w3.alloc (.cells #[.slice a3 ls.length c3] 22)) w3.heap.size 22 1 1 [.slice a3 ls.length c3] := row_lit w3 [.slice a3 ls.length c3] _ (by unfold maxLen; simp); have hPT : PRows (w3.alloc (.cells #[.slice a3 ls.length c3] 22)) w3.heap.size (.slice (some ⟨w3.heap.size, 0, none⟩) 1 1) [.slice a3 ls.length c3] [ls] := by
    refine ⟨rfl, ⟨rfl, .inr ⟨_, 1, rfl, Nat.le_refl _, hrow⟩⟩, fun g hg => by have e : w3.heap.size = g := Option.some.inj hg; omega, fun i r hi => ?_⟩; match i with
    | 0 =>
     simp at hi; subst hi; exact ⟨a3, c3, rfl, hr3.below hA, hc3, hc3m, fun ad e => by have := hlt3 ad e; simp; omega⟩
    | i + 1 => simp at hi
   have hfr3 : FreeB [.slice a3 ls.length c3] w3.heap.size := fun i a n c ad hv e => by
    match i with
    | 0 =>
     simp at hv; obtain ⟨rfl, _, _⟩ := hv; have := hlt3 ad e; omega
    | i + 1 => simp at hv
   have hB4 := bl_trans hB3 hA; have HPT := Lib.hid hPT; have Hfr3 := Lib.hid hfr3; clear hPT hfr3 hrow hlt3 hr3; go_upto_region 13 with (fail)
   have hB3s := hB3.size; generalize w3.alloc (.cells #[.slice a3 ls.length c3] 22) = w4 at HPT hA hB4 ⊢; obtain ⟨B, hBe⟩ : ∃ B, B = w3.heap.size := ⟨_, rfl⟩
   have hBw : w.heap.size ≤ B := by rw [hBe]; exact hB3s
   rw [← hBe] at HPT Hfr3 ⊢; clear hBe hA hB3s hB3; have hfm0 : fmL [ls] ≤ 997 := by unfold fmL; simp; omega
   have Hfm0 := Lib.hid hfm0; clear hfm0; go_wp2_with fail; go_step3; go_wp2_with fail
   go_loopg [1, 9, 10] (2 * fmL [ls] + 1) (fun r nv ov tv wj => ∃ (s : SpS) (vt vo : Value) (valsT valsO : List Value), nv = .int .i64 s.next ∧ vo = ov ∧ vt = tv ∧ 2 * fmL s.todo + s.todo.length = r ∧ (∃ k, SpS.steps k ⟨[ls], [], next⟩ = s) ∧ PRows wj B vt valsT s.todo ∧ PRows wj B vo valsO s.out ∧ CrossB vt vo valsT valsO ∧
    (∀ t ∈ s.todo, t.length ≤ 1000) ∧ (∀ t ∈ s.out, t.length ≤ 1000) ∧ s.todo.length + s.out.length + fmL s.todo ≤ 1000 ∧ 1 ≤ s.next ∧ s.next + fmL s.todo ≤ next + 1000 ∧ B ≤ wj.heap.size ∧ Below w.heap.size w wj)
   case atStart =>
    have h1 := Hfm0.out
    exact ⟨⟨[ls], [], next⟩, _, _, _, [], rfl, rfl, rfl, rfl, ⟨0, rfl⟩, HPT.out, PRows.start _ _, ⟨fun g hg => by have e : B = g := Option.some.inj hg; subst e; exact ⟨fun h => by simp [Value.ownBlock] at h, Hfr3.out, FreeB.nil _⟩, fun g hg => by simp [Value.ownBlock] at hg⟩,
     fun t ht => by simp at ht; subst ht; exact hn, fun t ht => by simp at ht, by simp only [List.length_cons, List.length_nil]; omega, hn1, by simp only; omega, by have := Own.lt HPT.out.outer (g := B) rfl; omega, hB4⟩
   case round =>
    obtain ⟨s, vt, vo, valsT, valsO, rfl, rfl, rfl, hgk, hst, hT, hO, hX, hsz, hszo, hcnt, hnx1, hnx2, hBj, hbj⟩ := hrel; have Hgk := Lib.hid hgk; have Hst := Lib.hid hst; have HO := Lib.hid hO; have HX := Lib.hid hX; have Hsz := Lib.hid hsz; have Hszo := Lib.hid hszo; have Hcnt := Lib.hid hcnt; have Hnx2 := Lib.hid hnx2; clear hgk hst hO hX hsz hszo hcnt hnx2; obtain ⟨todo, out, nx⟩ := s; simp only at Hgk Hst hT HO Hsz Hszo Hcnt hnx1 Hnx2 ⊢; rcases List.eq_nil_or_concat todo with rfl | ⟨T, top, rfl⟩
    ·
     obtain ⟨at_, ct, rfl, _, _, _⟩ := hT.read; obtain ⟨ao, co, rfl, hro, _, _⟩ := HO.out.read; obtain ⟨k, hk⟩ := Hst.out; have hsp : SplitTo ls next out nx := ⟨k, hk⟩
     have Hsp := Lib.hid hsp; have hol : out.length ≤ 1001 := by have := Hcnt.out; omega
     clear hT hk hsp; go_wp2_with fail; try rw [Exit.noGoto_ret]
     exact bodyPost_ret (v := .tuple #[.slice ao out.length co, .int .i64 nx, .int .i64 0]) (by simp [results, Tryz.results35, go_sem]) rfl ⟨ao, co, out, nx, rfl, hro, Hsp.out, hol, Hszo.out, hbj⟩
    ·
     rw [List.concat_eq_append] at Hgk Hst hT Hsz Hcnt Hnx2; rcases List.eq_nil_or_concat valsT with rfl | ⟨VT, u, rfl⟩
     · have := hT.len; simp at this
     rw [List.concat_eq_append] at hT HX; obtain ⟨gt, n, ct, hvt⟩ : ∃ gt n ct, vt = .slice (some ⟨gt, 0, none⟩) n ct := by
      rcases hT.outer.2 with ⟨_, h0⟩ | ⟨g, c, e, _, _⟩
      · simp at h0
      · exact ⟨g, _, c, e⟩
     subst hvt; have hrowT : Row wr gt 22 1 ct (VT ++ [u]) ∧ (VT ++ [u]).length ≤ ct := by
      rcases hT.outer.2 with ⟨e, _⟩ | ⟨g, c, e, hc, hr⟩
      · cases e
      · cases e; exact ⟨hr, hc⟩
     obtain ⟨hT2, hVT, hnn, au, cu, rfl, hru, hcu1, hcu2, hult⟩ := hT.pop; have c0 : wr.cell? ⟨gt, VT.length, none⟩ = some (.slice au top.length cu) := by rw [hrowT.1.cell? _ (by simp)]; simp
     have hctl : VT.length ≤ ct := by have := hrowT.2; simp at this; omega
     obtain ⟨m, hm⟩ : ∃ m, m = VT.length := ⟨_, rfl⟩
     rw [← hm] at c0 hT2 hnn hVT hctl; have htl : top.length ≤ 1000 := Hsz.out top (by simp); have hml : m ≤ 1000 := by have := Hcnt.out; simp at this; omega
     have i1 : IntKind.i64.wrap ((n : Int) - 1) = (m : Int) := by rw [show (n : Int) - 1 = (m : Int) by omega]; exact IntWalk.i64_in _ (by omega)
     have i2 : (n : Int) - 1 = (m : Int) := by omega
     have n0 : decide ((0 : Int) < (n : Int)) = true := by simp; omega
     have n0' : decide (0 < n) = true := by simp; omega
     have m1 : (m : Int) < (n : Int) := by omega
     have m2 : m < n := by omega
     have HT2 := Lib.hid hT2; have Hnn := Lib.hid hnn; have HVT := Lib.hid hVT; have Hm := Lib.hid hm; have Hult := Lib.hid hult; clear hT hT2 hnn hVT hm hrowT hult; obtain ⟨⟨p, q, ok, er⟩, hf⟩ : ∃ f, f = firstC top := ⟨_, rfl⟩
     have Hf := Lib.hid hf; clear hf; go_wp2_with fail; refine (first_walk au cu top _ hru (by omega)).mono ?_; rw [first_c, ← Hf.out]; rintro e w5 ⟨rfl, hb5⟩; have hru5 := hru.below hb5; have hB5 := bl_trans hbj hb5; have hs5 := hb5.size; have hT5 := HT2.out.ext hb5; have hO5 := HO.out.ext hb5; have hgt5 : gt < w5.heap.size := by have := Own.lt HT2.out.outer (g := gt) rfl; omega
     have hult5 : ∀ ad, au = some ad → ad.block < w5.heap.size := fun ad h => by have := Hult.out ad h; omega
     have hfmT : fmL (T ++ [top]) = fmL T + (top.length - 3) := by rw [fm_append]; simp [fmL]
     have HT5 := Lib.hid hT5; have HO5 := Lib.hid hO5; have Hult5 := Lib.hid hult5; have Hfm := Lib.hid hfmT; have hbB5 : B ≤ w5.heap.size := by omega
     clear hT5 hO5 hult5 hfmT hru hb5; cases ok with
     | false =>
      have hb6 := bl_alloc w5 (.cells #[.slice au top.length cu] 22); have hO6 := HO5.out.ext hb6; have hT6 := HT5.out.ext hb6; have hru6 := hru5.below hb6; have hol := hO6.outer; have hcn := Hcnt.out; simp at hcn; have hvb : valsO.length ≤ 1000 := by rw [HO5.out.len]; omega
      have hn1 : (w5.alloc (.cells #[.slice au top.length cu] 22)).cell? ⟨w5.heap.size, 0, none⟩ = some (.slice au top.length cu) := cell_new1 rfl; have hone : ∀ u ∈ [Value.slice au top.length cu], u.oneCell' = true := by intro u hu; rw [List.mem_singleton] at hu; subst hu; rfl
      go_wp2_with (at_builtin; refine wpList_append_row _ rfl (.tmp 64) (.tmp 66) 50 rfl 22 (.slice none 0 0) 1 24 Tryz.underlying50 links_info rfl vo valsO.length valsO rfl hol ⟨w5.heap.size, 0, none⟩ 1 1 [.slice au top.length cu] rfl rfl (one_new hn1) hone (by omega) (by unfold maxLen; omega) (by omega) ?_); intro g' cap' w7 hr7 hc7 hg7 hor7; have hs7 := hg7.size; simp at hs7; have hor8 : vo.ownBlock = some g' ∨ (w5.alloc (.cells #[.slice au top.length cu] 22)).heap.size ≤ g' := hor7.imp id (fun h => by simpa using h); have hlo := HO5.out.lo; have hO7 := hO6.push hru6 hcu1 hcu2 (fun ad h => by have := Hult5.out ad h; simp; omega) hr7 hc7 hg7 hor8 (by simp; omega) (fun g hg => (HX.out.o g hg).2) (fun g hg => (HX.out.o g hg).1.last); have hT7 := hT6.grown hg7 (fun g hg hk => by have e : gt = g := Option.some.inj hg; subst e; exact (HX.out.t gt rfl).1 hk) (fun g hk => (HX.out.o g hk).1.sub); have hX7 : CrossB (.slice (some ⟨gt, 0, none⟩) m ct) (.slice (some ⟨g', 0, none⟩) (valsO.length + 1) cap') VT (valsO ++ [.slice au top.length cu]) := by
       refine ⟨fun g hg => ?_, fun g hg => ?_⟩
       ·
        have e : gt = g := Option.some.inj hg; subst e; obtain ⟨x1, x2, x3⟩ := HX.out.t gt rfl; refine ⟨fun h => ?_, x2.sub, x3.app x2.last⟩; have e : g' = gt := Option.some.inj h; subst e; rcases hor7 with h | h
        · exact x1 h
        · omega
       ·
        have e : g' = g := Option.some.inj hg; subst e; rcases hor8 with h | h
        ·
         obtain ⟨x1, x2⟩ := HX.out.o g' h; exact ⟨x1.sub, x2.app x1.last⟩
        · exact ⟨hT6.free_new h, (hO6.free_new h).app fun ad ha e => by have h8 := Hult5.out ad ha; simp at h; omega⟩
      have hb7 : Below w.heap.size w w7 := (bl_trans hB5 hb6).grown hg7 (by have := hB5.size; simp; omega) (fun j hj => by have := hlo j hj; omega); have HO7 := Lib.hid hO7; have HT7 := Lib.hid hT7; have HX7 := Lib.hid hX7; clear hO7 hT7 hX7 hol hn1 hone hr7 hc7 hg7 hor7 hor8 hO6 hT6 hru6 hb6; go_wp2_with fail; go_roundg (2 * fmL T + T.length)
      case measure =>
       have := Hgk.out; have h2 := Hfm.out; rw [h2] at this; simp at this; omega
      case rel =>
       refine ⟨⟨T, out ++ [top], nx⟩, _, _, VT, _, rfl, rfl, rfl, rfl, ?_, HT7.out, HO7.out, HX7.out, ?_, ?_, ?_, hnx1, ?_, by omega, hb7⟩
       ·
        obtain ⟨k, hk⟩ := Hst.out; exact ⟨k + 1, by rw [steps_succ, hk]; simp [SpS.step, ← Hf.out]⟩
       · exact fun t ht => Hsz.out t (by simp [ht])
       ·
        exact fun t ht => by
         rcases List.mem_append.1 ht with h | h
         · exact Hszo.out t h
         · simp at h; subst h; exact htl
       · have := Hcnt.out; have h2 := Hfm.out; simp at this ⊢; omega
       · have := Hnx2.out; have h2 := Hfm.out; simp only at this ⊢; omega
     | true =>
      obtain ⟨t2, hp, hq, hpq, hpr, _⟩ := firstC_true Hf.out.symm; have hmay : mayB top p q = true := by
       unfold mayB; simp only [t2, Bool.and_true, Bool.and_eq_true, Bool.not_eq_true', beq_eq_false_iff_ne, ne_eq, List.contains_iff_mem]; exact ⟨⟨by omega, hp⟩, hq⟩
      have hok : ∀ z ∈ vertsL top, WfZ z := fun z hz => by
       obtain ⟨x, hx, e⟩ := (mem_vertsL top z).1 hz; have h1 := (two_right t2).2.1 x hx; unfold OkL at h1; rcases e with rfl | rfl <;> exact wfZ_of (by omega)
      have hwp : WfZ p := hok p hp; have hwq : WfZ q := hok q hq; clear hok; obtain ⟨S1, hS1⟩ : ∃ S1, S1 = (sidesL top p q nx).1 := ⟨_, rfl⟩
      obtain ⟨S2, hS2⟩ : ∃ S2, S2 = (sidesL top p q nx).2 := ⟨_, rfl⟩
      have hfs := fm_sides (num := nx) Hf.out.symm; rw [← hS1, ← hS2] at hfs; have HS1 := Lib.hid hS1; have HS2 := Lib.hid hS2; have Hfs := Lib.hid hfs; have hl1 : S1.length ≤ 1000 := by omega
      have hl2 : S2.length ≤ 1000 := by omega
      have Hmay := Lib.hid hmay; have Ht2 := Lib.hid t2; clear hp hq hpq hpr hmay hS1 hS2 hfs t2; go_wp2_with fail; refine (sides_walk au cu top p q nx _ hru5 Ht2.out Hmay.out hwp hwq).mono ?_; rintro e w6 ⟨v1, v2, rfl, ho1, ho2, hg1, hg2, hb6⟩; rw [← HS1.out] at ho1; rw [← HS2.out] at ho2; have hl1' : ∀ g, v1.ownBlock = some g → g < w6.heap.size := fun g h => Own.lt ho1 h; have hl2' : ∀ g, v2.ownBlock = some g → g < w6.heap.size := fun g h => Own.lt ho2 h; obtain ⟨a1, c1, rfl, hr1, he1, hcm1, hc1⟩ := OwnL.read ho1; obtain ⟨a2, c2, rfl, hr2, he2, hcm2, hc2⟩ := OwnL.read ho2; have hlt1 : ∀ ad, a1 = some ad → w5.heap.size ≤ ad.block ∧ ad.block < w6.heap.size := fun ad h => ⟨hg1 _ (he1 _ h), hl1' _ (he1 _ h)⟩
      have hlt2 : ∀ ad, a2 = some ad → w5.heap.size ≤ ad.block ∧ ad.block < w6.heap.size := fun ad h => ⟨hg2 _ (he2 _ h), hl2' _ (he2 _ h)⟩
      have hs6 := hb6.size; have hB6 := bl_trans hB5 hb6; have i3 : IntKind.i64.wrap (nx + 1) = nx + 1 := IntWalk.i64_in _ (by have := Hnx2.out; omega); have hA := bl_alloc w6 (.cells #[.slice a2 S2.length c2, .slice a1 S1.length c1] 22); have hO6 := (HO5.out.ext hb6).ext hA; have hT6 := (HT5.out.ext hb6).ext hA; have hr1' := hr1.below hA; have hr2' := hr2.below hA; have hol := hT6.outer; rw [← Hm.out] at hol; have Hlt1 := Lib.hid hlt1; have Hlt2 := Lib.hid hlt2; have HO6 := Lib.hid hO6; have HT6 := Lib.hid hT6; clear ho1 ho2 hl1' hl2' he1 he2 hg1 hg2 hlt1 hlt2 hb6 hO6 hT6 hr1 hr2; have h0c : (w6.alloc (.cells #[.slice a2 S2.length c2, .slice a1 S1.length c1] 22)).cell? ⟨w6.heap.size, 0, none⟩ = some (.slice a2 S2.length c2) := (two_cells _ _ _ _ rfl).1; have h1c : (w6.alloc (.cells #[.slice a2 S2.length c2, .slice a1 S1.length c1] 22)).cell? ⟨w6.heap.size, 1, none⟩ = some (.slice a1 S1.length c1) := (two_cells _ _ _ _ rfl).2; go_wp2_with (at_builtin; refine wpList_append_row _ rfl (.tmp 78) (.tmp 81) 50 rfl 22 (.slice none 0 0) 1 24 Tryz.underlying50 links_info rfl (.slice (some ⟨gt, 0, none⟩) m ct) m VT rfl hol ⟨w6.heap.size, 0, none⟩ 2 2 [.slice a2 S2.length c2, .slice a1 S1.length c1] rfl rfl ?c1 ?c2 (by omega) (by unfold maxLen; omega) (by omega) ?_)
      case c1 =>
       intro j u hj; match j with
       | 0 => simp at hj; subst hj; simp [Addr.add]
       | 1 => simp at hj; subst hj; simp [Addr.add]
       | j + 2 => simp at hj
      case c2 => intro u hu; simp at hu; rcases hu with rfl | rfl <;> rfl
      intro g' cap' w7 hr7 hc7 hg7 hor7; have hs7 := hg7.size; simp at hs7; have hlo := HO5.out.lo; have hltO : ∀ g, vo.ownBlock = some g → g < w5.heap.size := fun g hg => Own.lt HO5.out.outer hg; have hor8 : some gt = some g' ∨ (w6.alloc (.cells #[.slice a2 S2.length c2, .slice a1 S1.length c1] 22)).heap.size ≤ g' := hor7.imp (fun h => h) (fun h => by rw [alloc_size]; exact h); have hT7 := HT6.out.push2 (r := S2) (r' := S1) hr2' hc2 hcm2 (fun ad h => by have := Hlt2.out ad h; have h9 := alloc_size w6 (.cells #[.slice a2 S2.length c2, .slice a1 S1.length c1] 22); omega) hr1' hc1 hcm1 (fun ad h => by have := Hlt1.out ad h; simp; omega) (by simpa using hr7) (by have := Hm.out; omega) hg7 hor8 (by simp; omega) (fun g hg => by have e : gt = g := Option.some.inj hg; subst e; exact (HX.out.t gt rfl).2.1.sub) (fun g hg ad ha e => by have e2 : gt = g := Option.some.inj hg; have := Hlt2.out ad ha; omega) (fun g hg ad ha e => by have e2 : gt = g := Option.some.inj hg; have := Hlt1.out ad ha; omega); have hO7 := HO6.out.grown hg7 (fun g hg hk => by have e : gt = g := Option.some.inj hk; subst e; exact (HX.out.t gt rfl).1 hg) (fun g hk => by have e : gt = g := Option.some.inj hk; subst e; exact (HX.out.t gt rfl).2.2); have hX7 : CrossB (.slice (some ⟨g', 0, none⟩) (VT.length + 2) cap') vo (VT ++ [.slice a2 S2.length c2] ++ [.slice a1 S1.length c1]) valsO := by
       refine ⟨fun g hg => ?_, fun g hg => ?_⟩
       ·
        have e : g' = g := Option.some.inj hg; subst e; rcases hor8 with h | h
        ·
         have e : gt = g' := Option.some.inj h; subst e; obtain ⟨x1, x2, x3⟩ := HX.out.t gt rfl; exact ⟨x1, (x2.sub.app fun ad ha e => by have := Hlt2.out ad ha; omega).app fun ad ha e => by have := Hlt1.out ad ha; omega, x3⟩
        ·
         have h9 : w6.heap.size + 1 ≤ g' := by simpa using h
         refine ⟨fun hk => by have := hltO _ hk; omega, ((HT6.out.free_new h).app fun ad ha e => by have := Hlt2.out ad ha; omega).app fun ad ha e => by have := Hlt1.out ad ha; omega, HO6.out.free_new h⟩
       ·
        have hgl := hltO g hg; obtain ⟨x1, x2⟩ := HX.out.o g hg; exact ⟨(x1.sub.app fun ad ha e => by have := Hlt2.out ad ha; omega).app fun ad ha e => by have := Hlt1.out ad ha; omega, x2⟩
      have hb7 : Below w.heap.size w w7 := (bl_trans hB6 hA).grown hg7 (by have := hB6.size; simp; omega) (fun j hj => by have e : gt = j := Option.some.inj hj; have := HT2.out.lo gt rfl; omega); have hT8 := hT7; rw [← Hm.out] at hT8; have hX8 := hX7; rw [← Hm.out] at hX8; have HO7 := Lib.hid hO7; have HT7 := Lib.hid hT8; have HX7 := Lib.hid hX8; clear hO7 hT7 hX7 hT8 hX8 hol hr7 hc7 hg7 hor7 hor8 hr1' hr2' h0c h1c hlo hltO hA hru5; go_wp2_with fail; go_roundg (2 * fmL (T ++ [S2] ++ [S1]) + (T ++ [S2] ++ [S1]).length)
      case measure =>
       have := Hgk.out; have h2 := Hfm.out; have h3 := Hfs.out; rw [h2] at this; rw [List.append_assoc, fm_append]; simp at this h3 ⊢; omega
      case rel =>
       refine ⟨⟨T ++ [S2] ++ [S1], out, nx + 1⟩, _, _, _, valsO, rfl, rfl, rfl, rfl, ?_, HT7.out, HO7.out, HX7.out, ?_, Hszo.out, ?_, by simp only; omega, ?_, by omega, hb7⟩
       ·
        obtain ⟨k, hk⟩ := Hst.out; exact ⟨k + 1, by rw [steps_succ, hk, HS1.out, HS2.out]; simp [SpS.step, ← Hf.out]⟩
       ·
        intro t ht; simp at ht; rcases ht with ht | rfl | rfl
        · exact Hsz.out t (by simp [ht])
        · exact hl2
        · exact hl1
       · have := Hcnt.out; have h2 := Hfm.out; have h3 := Hfs.out; simp only [List.append_assoc, fm_append, List.length_append, List.length_cons, List.length_nil] at this h3 ⊢; simp [fmL] at this h3 h2 ⊢; omega
       · have := Hnx2.out; have h2 := Hfm.out; have h3 := Hfs.out; simp only [List.append_assoc, fm_append] at this h3 ⊢; simp [fmL] at this h3 h2 ⊢; omega
end Go.Proofs.YtagcbnpahgfgmaaGreat
namespace Go.Proofs.YtagcbnpahgfgmaaGreat
open Go Go.RowKit
theorem numbered_walk (k : Lk) (cb : Nat) (v : Int) (t : Bool) (w : World) (hb : w.cell? ⟨cb, 0, none⟩ = some (.int .i64 v)) (ht : (k.2.2 == v) = t) :
  Calls Tryz.prog 95 #[.agg #[.int .i64 k.1, .int .i64 k.2.1, .int .i64 k.2.2], .pointer (some ⟨cb, 0, none⟩)] w fun e w' => e = .returned (.bool t) ∧ Below w.heap.size w w' := by
 obtain ⟨k1, k2, k3⟩ := k
 simp only at ht ⊢
 have hA := bl_alloc w (.cells #[.int .i64 k1, .int .i64 k2, .int .i64 k3] 38)
 have hb2 := keep_cell hA hb
 cases t with
 | true =>
  go_enter Tryz.func95, Tryz.ntmps95
  go_wp2_with fail
  go_ret
  exact ⟨rfl, hA⟩
 | false =>
  go_enter Tryz.func95, Tryz.ntmps95
  go_wp2_with fail
  go_ret
  exact ⟨rfl, hA⟩
def idxL (p : Lk → Bool) (ls : List Lk) : Int := match ls.findIdx? p with
 | some i => (i : Int)
 | none => -1
theorem idxL_bd (p : Lk → Bool) (ls : List Lk) : -1 ≤ idxL p ls ∧ idxL p ls < ls.length ∨ idxL p ls = -1 := by
 unfold idxL
 cases h : ls.findIdx? p with
 | none => right; rfl
 | some i => rw [List.findIdx?_eq_some_iff_getElem] at h; obtain ⟨h, _⟩ := h; left; simp only; omega
theorem idxL_neg {p : Lk → Bool} {ls : List Lk} : idxL p ls = -1 ↔ ∀ k ∈ ls, p k = false := by
 unfold idxL
 cases h : ls.findIdx? p with
 | none => rw [List.findIdx?_eq_none_iff] at h; simpa using h
 | some i =>
  rw [List.findIdx?_eq_some_iff_getElem] at h
  obtain ⟨h1, h2, _⟩ := h
  simp only
  constructor
  · intro h; omega
  · intro h; rw [h _ (List.getElem_mem h1)] at h2; cases h2
def RetIdx (w : World) (z : Int) (e : Ending) (w' : World) : Prop := e = .returned (.int .i64 z) ∧ Below w.heap.size w w'
set_option maxHeartbeats 1000000 in
theorem index_walkP (cb : Nat) (p : Lk → Bool) (a : Option Addr) (cap : Nat) (ls : List Lk) (w : World) (hr : RdL w a ls) (hl : ls.length ≤ 100000)
  (hF : ∀ k ∈ ls, ∀ w1, Below w.heap.size w w1 → Calls Tryz.prog 95 #[.agg #[.int .i64 k.1, .int .i64 k.2.1, .int .i64 k.2.2], .pointer (some ⟨cb, 0, none⟩)] w1 fun e w' => e = .returned (.bool (p k)) ∧ Below w1.heap.size w1 w') :
  Calls Tryz.prog 70 #[.slice a ls.length cap, .func (.func 95) #[] #[.pointer (some ⟨cb, 0, none⟩)]] w (RetIdx w (idxL p ls)) := by
 have HF := Lib.hid hF; clear hF
 go_enter Tryz.func70, Tryz.ntmps70
 go_wp2_with fail
 go_loopg [8] ls.length (fun r iv wj => ∃ i : Nat, i + r = ls.length ∧ iv = .int .i64 i ∧ (∀ j (h : j < ls.length), j < i → p ls[j] = false) ∧ Below w.heap.size w wj)
 case atStart => exact ⟨0, by omega, rfl, fun j h hj => absurd hj (by omega), bl_refl _⟩
 case round =>
  obtain ⟨i, hi, rfl, hall, hb⟩ := hrel
  have Hi := Lib.hid hi; have Hall := Lib.hid hall
  clear hall
  by_cases hil : i < ls.length
  ·
   clear hi; obtain ⟨b, o, rfl, c0, c1, c2⟩ := (hr.below hb).at i hil; have hcw := HF.out ls[i] (List.getElem_mem hil) wr hb; obtain ⟨t, ht⟩ : ∃ t, p ls[i] = t := ⟨_, rfl⟩
   rw [ht] at hcw; obtain ⟨⟨x, y, z⟩, hx⟩ : ∃ x : Lk, ls[i] = x := ⟨_, rfl⟩
   rw [hx] at c0 c1 c2 hcw; simp only at c0 c1 c2 hcw; have Hcw := Lib.hid hcw; have Ht := Lib.hid ht; clear hx hcw ht; go_wp2_with fail; refine Hcw.out.mono ?_; rintro e w' ⟨rfl, hb2⟩; have hB := bl_trans hb hb2; clear hb2; cases t with
   | true =>
    have hfin : idxL p ls = (i : Int) := by
     unfold idxL; have : ls.findIdx? p = some i := List.findIdx?_eq_some_iff_getElem.2 ⟨hil, Ht.out, fun j hj => by rw [Hall.out j (by omega) hj]; simp⟩; rw [this]
    have Hfin := Lib.hid hfin; clear hfin; go_wp2_with fail; go_ret; exact ⟨by rw [Hfin.out] <;> rfl, hB⟩
   | false =>
    have hnx : ∀ j (h : j < ls.length), j < i + 1 → p ls[j] = false := fun j h hj => by
     by_cases e : j < i
     · exact Hall.out j h e
     ·
      obtain rfl : j = i := by omega
      exact Ht.out
    have Hnx := Lib.hid hnx; clear hnx; go_wp2_with fail; go_roundg (gk - 1)
    case measure => have := Hi.out; omega
    case rel => exact ⟨i + 1, by have := Hi.out; omega, by go_num, Hnx.out, hB⟩
  ·
   have hin : i = ls.length := by omega
   subst hin; have hfin : idxL p ls = -1 := idxL_neg.2 fun r hr => by
     obtain ⟨j, hj, rfl⟩ := List.getElem_of_mem hr; exact Hall.out j hj hj
   have Hfin := Lib.hid hfin; clear hfin hi; go_wp2_with fail; go_ret; exact ⟨by rw [Hfin.out] <;> rfl, hb⟩
theorem contains_walkP (cb : Nat) (p : Lk → Bool) (a : Option Addr) (cap : Nat) (ls : List Lk) (w : World) (hr : RdL w a ls) (hl : ls.length ≤ 100000)
  (hF : ∀ k ∈ ls, ∀ w1, Below w.heap.size w w1 → Calls Tryz.prog 95 #[.agg #[.int .i64 k.1, .int .i64 k.2.1, .int .i64 k.2.2], .pointer (some ⟨cb, 0, none⟩)] w1 fun e w' => e = .returned (.bool (p k)) ∧ Below w1.heap.size w1 w') :
  Calls Tryz.prog 34 #[.slice a ls.length cap, .func (.func 95) #[] #[.pointer (some ⟨cb, 0, none⟩)]] w (RetT w (ls.any p)) := by
 have HF := Lib.hid hF; clear hF
 obtain ⟨z, hz⟩ : ∃ z, z = idxL p ls := ⟨_, rfl⟩
 have hzt : decide (0 ≤ z) = ls.any p := by
  rw [hz]
  cases h : ls.any p with
  | false =>
   have : idxL p ls = -1 := idxL_neg.2 fun k hk => by
    have := List.any_eq_false.1 h k hk; simpa using this
   rw [this]; decide
  | true =>
   have h1 : ¬ idxL p ls = -1 := fun h2 => by
    obtain ⟨k, hk, h3⟩ := List.any_eq_true.1 h; rw [idxL_neg.1 h2 k hk] at h3; cases h3
   have := idxL_bd p ls; simp; omega
 obtain ⟨t, ht⟩ : ∃ t, t = ls.any p := ⟨_, rfl⟩
 rw [← ht] at hzt ⊢
 have Hz := Lib.hid hz; clear hz ht
 go_enter Tryz.func34, Tryz.ntmps34
 go_wp2_with fail
 refine (index_walkP cb p a cap ls _ hr hl HF.out).mono ?_
 rw [← Hz.out]
 rintro e w1 ⟨rfl, hb1⟩
 go_wp2_with fail
 go_ret
 exact ⟨rfl, hb1⟩
set_option maxHeartbeats 1000000 in
theorem index_walk0  (p : Lk → Bool) (a : Option Addr) (cap : Nat) (ls : List Lk) (w : World) (hr : RdL w a ls) (hl : ls.length ≤ 100000)
  (hF : ∀ k ∈ ls, ∀ w1, Below w.heap.size w w1 → Calls Tryz.prog 32 #[.agg #[.int .i64 k.1, .int .i64 k.2.1, .int .i64 k.2.2]] w1 fun e w' => e = .returned (.bool (p k)) ∧ Below w1.heap.size w1 w') :
  Calls Tryz.prog 70 #[.slice a ls.length cap, .func (.func 32) #[] #[]] w (RetIdx w (idxL p ls)) := by
 have HF := Lib.hid hF; clear hF
 go_enter Tryz.func70, Tryz.ntmps70
 go_wp2_with fail
 go_loopg [8] ls.length (fun r iv wj => ∃ i : Nat, i + r = ls.length ∧ iv = .int .i64 i ∧ (∀ j (h : j < ls.length), j < i → p ls[j] = false) ∧ Below w.heap.size w wj)
 case atStart => exact ⟨0, by omega, rfl, fun j h hj => absurd hj (by omega), bl_refl _⟩
 case round =>
  obtain ⟨i, hi, rfl, hall, hb⟩ := hrel
  have Hi := Lib.hid hi; have Hall := Lib.hid hall
  clear hall
  by_cases hil : i < ls.length
  ·
   clear hi; obtain ⟨b, o, rfl, c0, c1, c2⟩ := (hr.below hb).at i hil; have hcw := HF.out ls[i] (List.getElem_mem hil) wr hb; obtain ⟨t, ht⟩ : ∃ t, p ls[i] = t := ⟨_, rfl⟩
   rw [ht] at hcw; obtain ⟨⟨x, y, z⟩, hx⟩ : ∃ x : Lk, ls[i] = x := ⟨_, rfl⟩
   rw [hx] at c0 c1 c2 hcw; simp only at c0 c1 c2 hcw; have Hcw := Lib.hid hcw; have Ht := Lib.hid ht; clear hx hcw ht; go_wp2_with fail; refine Hcw.out.mono ?_; rintro e w' ⟨rfl, hb2⟩; have hB := bl_trans hb hb2; clear hb2; cases t with
   | true =>
    have hfin : idxL p ls = (i : Int) := by
     unfold idxL; have : ls.findIdx? p = some i := List.findIdx?_eq_some_iff_getElem.2 ⟨hil, Ht.out, fun j hj => by rw [Hall.out j (by omega) hj]; simp⟩; rw [this]
    have Hfin := Lib.hid hfin; clear hfin; go_wp2_with fail; go_ret; exact ⟨by rw [Hfin.out] <;> rfl, hB⟩
   | false =>
    have hnx : ∀ j (h : j < ls.length), j < i + 1 → p ls[j] = false := fun j h hj => by
     by_cases e : j < i
     · exact Hall.out j h e
     ·
      obtain rfl : j = i := by omega
      exact Ht.out
    have Hnx := Lib.hid hnx; clear hnx; go_wp2_with fail; go_roundg (gk - 1)
    case measure => have := Hi.out; omega
    case rel => exact ⟨i + 1, by have := Hi.out; omega, by go_num, Hnx.out, hB⟩
  ·
   have hin : i = ls.length := by omega
   subst hin; have hfin : idxL p ls = -1 := idxL_neg.2 fun r hr => by
     obtain ⟨j, hj, rfl⟩ := List.getElem_of_mem hr; exact Hall.out j hj hj
   have Hfin := Lib.hid hfin; clear hfin hi; go_wp2_with fail; go_ret; exact ⟨by rw [Hfin.out] <;> rfl, hb⟩
theorem contains_walk0  (p : Lk → Bool) (a : Option Addr) (cap : Nat) (ls : List Lk) (w : World) (hr : RdL w a ls) (hl : ls.length ≤ 100000)
  (hF : ∀ k ∈ ls, ∀ w1, Below w.heap.size w w1 → Calls Tryz.prog 32 #[.agg #[.int .i64 k.1, .int .i64 k.2.1, .int .i64 k.2.2]] w1 fun e w' => e = .returned (.bool (p k)) ∧ Below w1.heap.size w1 w') :
  Calls Tryz.prog 34 #[.slice a ls.length cap, .func (.func 32) #[] #[]] w (RetT w (ls.any p)) := by
 have HF := Lib.hid hF; clear hF
 obtain ⟨z, hz⟩ : ∃ z, z = idxL p ls := ⟨_, rfl⟩
 have hzt : decide (0 ≤ z) = ls.any p := by
  rw [hz]
  cases h : ls.any p with
  | false =>
   have : idxL p ls = -1 := idxL_neg.2 fun k hk => by
    have := List.any_eq_false.1 h k hk; simpa using this
   rw [this]; decide
  | true =>
   have h1 : ¬ idxL p ls = -1 := fun h2 => by
    obtain ⟨k, hk, h3⟩ := List.any_eq_true.1 h; rw [idxL_neg.1 h2 k hk] at h3; cases h3
   have := idxL_bd p ls; simp; omega
 obtain ⟨t, ht⟩ : ∃ t, t = ls.any p := ⟨_, rfl⟩
 rw [← ht] at hzt ⊢
 have Hz := Lib.hid hz; clear hz ht
 go_enter Tryz.func34, Tryz.ntmps34
 go_wp2_with fail
 refine (index_walk0  p a cap ls _ hr hl HF.out).mono ?_
 rw [← Hz.out]
 rintro e w1 ⟨rfl, hb1⟩
 go_wp2_with fail
 go_ret
 exact ⟨rfl, hb1⟩
end Go.Proofs.YtagcbnpahgfgmaaGreat
namespace Go.Proofs.YtagcbnpahgfgmaaGreat
open Go Go.RowKit
theorem run_append_zero {P : Program} (w : World) (t ty e : TypeId) (i : TypeInfo) (ht : P.underlying t = some (.slice e)) (hi : P.info? e = some i) (base : Option Addr) (n c : Nat) (hle : n ≤ c) (p : Option Addr) (c' : Nat) :
  (Builtin.append_ #[t, t] ty #[.slice base n c, .slice p 0 c']).run P w = .ok (.slice base n c) w := by
 cases base <;> cases p <;> simp [Builtin.append_, run_underlying ht, sizeOf, typeInfo, hi, Builtin.lenOf, Builtin.firstCells, hle, storeCells, loadCells, loadCellsFrom, Result.andThen]
theorem own_shape {w : World} {v : Value} {e : TypeId} {s n : Nat} {vs : List Value} (h : Own w v e s n vs) : ∃ a c, v = .slice a n c ∧ n ≤ c := by
 rcases h.2 with ⟨rfl, rfl⟩ | ⟨g, cap, rfl, hc, _⟩
 · exact ⟨_, _, rfl, Nat.le_refl _⟩
 · exact ⟨_, _, rfl, hc⟩
def RetGrow (w : World) (e : Ending) (w' : World) : Prop :=
 ∃ v, e = .returned v ∧ Own w' v 38 3 0 [] ∧ (∀ g, v.ownBlock = some g → w.heap.size ≤ g) ∧ Below w.heap.size w w'
theorem zeroC_size (z : Value) (n : Nat) : (Builtin.zeroCells z.cells n).size = n * z.cells.size := by unfold Builtin.zeroCells; simp
set_option maxRecDepth 100000 in
set_option maxHeartbeats 1000000 in
theorem grow_walk (n : Nat) (w : World) (hn : n ≤ 100000) :
  Calls Tryz.prog 129 #[.slice none 0 0, .int .i64 n] w (RetGrow w) := by
 by_cases h0 : n = 0
 ·
  subst h0
  go_enter Tryz.func129, Tryz.ntmps129
  go_wp2_with fail
  go_ret
  exact ⟨_, rfl, own_nil _ _ _, fun g hg => by simp [Value.ownBlock] at hg, bl_refl _⟩
 ·
  have i1 : IntKind.i64.wrap (n : Int) = (n : Int) := IntWalk.i64_in _ (by omega)
  have q1 : decide ((0 : Int) < (n : Int)) = true := by simp; omega
  have q2 : decide (0 < n) = true := by simp; omega
  obtain ⟨i, hi, hz, hsize, hby⟩ := info_parts link_info
  have hap := Lib.run_append_nil_zeros (P := Tryz.prog) w 22 3 22 38 i _ .i64 .i64 Tryz.underlying22 Tryz.underlying3 hi hz n (by omega) (by omega) (by omega) (by rw [hby]; omega)
  have hge := grownCap_ge w n 0 38
  have hcm := grownCap_le_maxLen w n 0 38 (by unfold maxLen; omega)
  have hrow : Row (w.drew.alloc (.cells (Builtin.zeroCells (Value.agg #[.int .i64 0, .int .i64 0, .int .i64 0]).cells n ++ Builtin.zeroCells (Value.agg #[.int .i64 0, .int .i64 0, .int .i64 0]).cells (grownCap w n 0 38 - n)) 38)) w.heap.size 38 3 (grownCap w n 0 38) [] := by
   refine ⟨_, heap_alloc_new w.drew _, ?_, by simp, hcm, rfl⟩; rw [Array.size_append, zeroC_size, zeroC_size, show (Value.agg #[.int .i64 0, .int .i64 0, .int .i64 0]).cells.size = 3 from rfl]; omega
  have hb : Below w.heap.size w (w.drew.alloc (.cells (Builtin.zeroCells (Value.agg #[.int .i64 0, .int .i64 0, .int .i64 0]).cells n ++ Builtin.zeroCells (Value.agg #[.int .i64 0, .int .i64 0, .int .i64 0]).cells (grownCap w n 0 38 - n)) 38)) := by
   have h1 := bl_alloc w.drew (.cells (Builtin.zeroCells (Value.agg #[.int .i64 0, .int .i64 0, .int .i64 0]).cells n ++ Builtin.zeroCells (Value.agg #[.int .i64 0, .int .i64 0, .int .i64 0]).cells (grownCap w n 0 38 - n)) 38); exact (below_drewN (bl_refl w) 1).trans h1
  have HR := Lib.hid hrow; have HB := Lib.hid hb; have HA := Lib.hid hap
  clear hrow hb hap hi hz hsize hby
  generalize (w.drew.alloc (.cells (Builtin.zeroCells (Value.agg #[.int .i64 0, .int .i64 0, .int .i64 0]).cells n ++ Builtin.zeroCells (Value.agg #[.int .i64 0, .int .i64 0, .int .i64 0]).cells (grownCap w n 0 38 - n)) 38)) = w1 at HR HB HA
  generalize grownCap w n 0 38 = C at HR HA hge hcm
  have hC0 : 0 < C := by omega
  clear hcm
  go_enter Tryz.func129, Tryz.ntmps129
  go_wp2_with (at_builtin; refine Lib.wpList_append_run _ rfl (.tmp 20) (.tmp 21) 22 3 rfl (.slice none 0 0) (.int .i64 n) rfl rfl _ _ HA.out ?_)
  go_ret
  exact ⟨_, rfl, HR.out.own (by simp) (Nat.zero_le _), fun g hg => by cases hg; exact Nat.le_refl _, HB.out⟩
def sumN (G : List (List Lk)) (i : Nat) : Nat := ((G.take i).map List.length).sum
theorem sumN_succ (G : List (List Lk)) (i : Nat) (h : i < G.length) : sumN G (i + 1) = sumN G i + G[i].length := by
 unfold sumN
 rw [List.take_succ_eq_append_getElem h, List.map_append, List.sum_append]; simp
theorem sumN_le (G : List (List Lk)) (i : Nat) : sumN G i ≤ sumN G G.length := by
 unfold sumN
 have h := congrArg (fun l : List (List Lk) => (l.map List.length).sum) (List.take_append_drop i G)
 simp only [List.map_append, List.sum_append] at h
 rw [List.take_length]
 omega
def flatN (G : List (List Lk)) (i : Nat) : List Lk := (G.take i).flatten
theorem flatN_succ (G : List (List Lk)) (i : Nat) (h : i < G.length) : flatN G (i + 1) = flatN G i ++ G[i] := by
 unfold flatN
 rw [List.take_succ_eq_append_getElem h, List.flatten_append]; simp
theorem flatN_len (G : List (List Lk)) (i : Nat) : (flatN G i).length = sumN G i := by unfold flatN sumN; rw [List.length_flatten]
set_option maxRecDepth 100000 in
set_option maxHeartbeats 4000000 in
theorem concat_walk (a : Option Addr) (cap : Nat) (G : List (List Lk)) (w : World) (hr : RdLs w a G) (hl : G.length ≤ 1000) (hs : sumN G G.length ≤ 100000) :
  Calls Tryz.prog 96 #[.slice a G.length cap] w (RetLk w G.flatten) := by
 have Hs := Lib.hid hs; clear hs
 go_enter Tryz.func96, Tryz.ntmps96
 go_wp2_with fail
 go_loopg [3, 11] G.length (fun r sv iv wj => ∃ i : Nat, i + r = G.length ∧ iv = .int .i64 i ∧ sv = .int .i64 (sumN G i : Nat) ∧ w = wj)
 case atStart => exact ⟨0, by omega, rfl, by simp [sumN], rfl⟩
 case round =>
  obtain ⟨i, hi, rfl, rfl, rfl⟩ := hrel
  have Hi := Lib.hid hi
  by_cases hil : i < G.length
  ·
   clear hi; obtain ⟨R, hR⟩ : ∃ R, G[i] = R := ⟨_, rfl⟩
   have hRi : G[i]? = some R := by rw [List.getElem?_eq_getElem hil, hR]
   obtain ⟨bo, oo, au, cu, rfl, p0, _, _, _⟩ := hr i R hRi; have e1 := sumN_succ G i hil; rw [hR] at e1; have h1 := sumN_le G (i + 1); have h2 := Hs.out; obtain ⟨S, hS⟩ : ∃ S, S = sumN G i := ⟨_, rfl⟩
   rw [← hS] at e1 ⊢; have b1 : S + R.length ≤ 100000 := by omega
   have i1 : IntKind.i64.wrap ((S : Int) + (R.length : Int)) = (S : Int) + (R.length : Int) := IntWalk.i64_in _ (by omega); have q1 : decide ((S : Int) + (R.length : Int) < 0) = false := by simp; omega
   have HE := Lib.hid e1; have HS := Lib.hid hS; clear hRi hR e1 h1 h2 hS; go_wp2_with fail; go_roundg (gk - 1)
   case measure => have := Hi.out; omega
   case rel => exact ⟨i + 1, by have := Hi.out; omega, by go_num, by rw [HE.out]; go_num, rfl⟩
  ·
   have hin : i = G.length := by omega
   subst hin; have h2 := Hs.out; obtain ⟨S, hS⟩ : ∃ S, S = sumN G G.length := ⟨_, rfl⟩
   rw [← hS] at h2 ⊢; clear hi Hi; have HS := Lib.hid hS; clear hS; go_wp2_with fail; refine (grow_walk S _ h2).mono ?_; rintro e w1 ⟨v1, rfl, ho1, hg1, hb1⟩; have Ho1 := Lib.hid ho1; have Hg1 := Lib.hid hg1; clear ho1 hg1; go_wp2_with fail; go_loopg [6, 27] G.length (fun r ov iv wj => ∃ (i : Nat) (v : Value), i + r = G.length ∧ iv = .int .i64 i ∧ v = ov ∧ OwnL wj v (flatN G i) ∧ (∀ g, v.ownBlock = some g → w.heap.size ≤ g) ∧ Below w.heap.size w wj)
   case atStart => exact ⟨0, v1, by omega, rfl, rfl, Ho1.out, Hg1.out, hb1⟩
   case round =>
    obtain ⟨i, v, hi, rfl, rfl, hv, hlo, hbj⟩ := hrel; have Hi := Lib.hid hi; have Hlo := Lib.hid hlo; clear hlo hb1 Ho1 Hg1; by_cases hil : i < G.length
    ·
     clear hi; obtain ⟨R, hR⟩ : ∃ R, G[i] = R := ⟨_, rfl⟩
     have hRi : G[i]? = some R := by rw [List.getElem?_eq_getElem hil, hR]
     obtain ⟨bo, oo, au, cu, rfl, p0G, hrR, hRc, hcm⟩ := hr i R hRi; have p0 := keep_cell hbj p0G; have e1 := flatN_succ G i hil; rw [hR] at e1; have e2 := flatN_len G (i + 1); rw [e1, List.length_append] at e2; have e3 := sumN_le G (i + 1); obtain ⟨F, hF⟩ : ∃ F, F = flatN G i := ⟨_, rfl⟩
     rw [← hF] at hv e1 e2; have hFl : F.length + R.length ≤ 100000 := by have := Hs.out; omega
     have HE := Lib.hid e1; have Hv := Lib.hid hv; clear hRi hR hF e1 e2 e3 hv; by_cases hR0 : R.length = 0
     ·
      have hRn := List.eq_nil_of_length_eq_zero hR0; subst hRn; obtain ⟨av, cv, hve, hvc⟩ := own_shape Hv.out; subst hve; obtain ⟨i0, hi0, _, _, _⟩ := info_parts link_info; have hap := run_append_zero (P := Tryz.prog) wr 22 22 38 i0 Tryz.underlying22 hi0 av F.length cv hvc au cu; have HA := Lib.hid hap; clear hap hi0; go_wp2_with (at_builtin; refine Lib.wpList_append_run _ rfl (.tmp 31) (.tmp 32) 22 22 rfl (.slice av F.length cv) (.slice au 0 cu) rfl rfl _ _ HA.out ?_); go_roundg (gk - 1)
      case measure => have := Hi.out; omega
      case rel => exact ⟨i + 1, _, by have := Hi.out; omega, by go_num, rfl, by rw [HE.out, List.append_nil]; exact Hv.out, Hlo.out, hbj⟩
     ·
      obtain ⟨b1, o1, rfl, _⟩ := hrR.at 0 (by omega); have hnews : ∀ (j : Nat) v, (lkCells R)[j]? = some v → wr.cell? ((⟨b1, o1, none⟩ : Addr).add j) = some v := fun j v hj => by
       obtain ⟨b', o', e1, e2⟩ := (hrR.below hbj) j v hj; cases e1; rw [addr_add]; exact e2
      have Hone := Lib.hid (lkCells_one R); have Hnews := Lib.hid hnews; have Hlen := Lib.hid (lkCells_length R); clear hnews; go_wp2_with (at_builtin; refine wpList_append_row _ rfl (.tmp 31) (.tmp 32) 22 rfl 38 (.agg #[.int .i64 0, .int .i64 0, .int .i64 0]) 3 24 Tryz.underlying22 link_info rfl v F.length _ rfl Hv.out ⟨b1, o1, none⟩ R.length cu (lkCells R) rfl Hlen.out Hnews.out Hone.out (by omega) (by unfold maxLen; omega) (by omega) ?_); intro g5 c5 w5 hr5 hc5 hg5 hor5; have hb5 : Below w.heap.size w w5 := hbj.grown hg5 hbj.size (fun j hj => Hlo.out j hj); have hg6 : w.heap.size ≤ g5 := by
       rcases hor5 with h | h
       · exact Hlo.out g5 h
       · have := hbj.size; omega
      have hr6 : OwnL w5 (.slice (some ⟨g5, 0, none⟩) (F.length + R.length) c5) (F ++ R) := by
       have h1 : Row w5 g5 38 3 c5 (lkCells (F ++ R)) := by rw [lkCells_append]; exact hr5
       have := h1.own (n := F.length + R.length) (by rw [lkCells_length]; simp) hc5; unfold OwnL; rw [List.length_append]; exact this
      have Hr6 := Lib.hid hr6; clear hr5 hg5 hor5 hr6; go_wp2_with fail; go_roundg (gk - 1)
      case measure => have := Hi.out; omega
      case rel => exact ⟨i + 1, _, by have := Hi.out; omega, by go_num, rfl, by rw [HE.out]; exact Hr6.out, (fun g hg => by cases hg; exact hg6), hb5⟩
    ·
     have hin : i = G.length := by omega
     subst hin; have hfl : flatN G G.length = G.flatten := by unfold flatN; rw [List.take_length]
     have Hfl := Lib.hid hfl; have Hv := Lib.hid hv; clear hi hfl hv; go_wp2_with fail; go_ret; exact ⟨v, rfl, by rw [← Hfl.out]; exact Hv.out, Hlo.out, hbj⟩
end Go.Proofs.YtagcbnpahgfgmaaGreat
namespace Go.Proofs.YtagcbnpahgfgmaaGreat
open Go Go.RowKit
def RetJ (w : World) (ls : List Lk) (e : Ending) (w' : World) : Prop :=
 ∃ v, e = .returned (.tuple #[v, .int .i64 0]) ∧ OwnL w' v ls ∧ (∀ g, v.ownBlock = some g → w.heap.size ≤ g) ∧ Below w.heap.size w w'
theorem drop_at {x x1 x2 : List Lk} {e : Lk} (h : x = x1 ++ e :: x2) (hn : x.Nodup) (hu : ∀ k ∈ x, k.2.2 = e.2.2 → k = e) : dropV e.2.2 x = x1 ++ x2 := by
 subst h
 rw [List.nodup_append] at hn
 obtain ⟨h1, h2, h3⟩ := hn
 rw [List.nodup_cons] at h2
 rw [dropV_append]
 have a1 : dropV e.2.2 x1 = x1 := dropV_self fun k hk hv => h3 k hk e (by simp) (hu k (by simp [hk]) hv)
 have a2 : dropV e.2.2 (e :: x2) = x2 := by
  unfold dropV
  rw [List.filter_cons, if_neg (by simp)]
  exact dropV_self fun k hk hv => h2.1 (by rw [← hu k (by simp [hk]) hv]; exact hk)
 rw [a1, a2]
theorem idx_at {x x1 x2 : List Lk} {e : Lk} (h : x = x1 ++ e :: x2) (hn : x.Nodup) (hu : ∀ k ∈ x, k.2.2 = e.2.2 → k = e) : idxL (fun k => k.2.2 == e.2.2) x = (x1.length : Int) := by
 subst h
 rw [List.nodup_append] at hn
 obtain ⟨h1, h2, h3⟩ := hn
 unfold idxL
 have : (x1 ++ e :: x2).findIdx? (fun k => k.2.2 == e.2.2) = some x1.length := by
  rw [List.findIdx?_eq_some_iff_getElem]
  refine ⟨by simp, by simp, fun j hj => ?_⟩
  rw [List.getElem_append_left hj]
  intro hv
  have hv := beq_iff_eq.1 hv
  exact h3 _ (List.getElem_mem hj) e (by simp) (hu _ (by simp [List.getElem_mem hj]) hv)
 rw [this]
theorem tail_no {x x1 x2 : List Lk} {e : Lk} (h : x = x1 ++ e :: x2) (hn : x.Nodup) (hu : ∀ k ∈ x, k.2.2 = e.2.2 → k = e) : (x2.any fun k => k.2.2 == e.2.2) = false := by
 subst h
 rw [List.nodup_append] at hn
 obtain ⟨h1, h2, h3⟩ := hn
 rw [List.nodup_cons] at h2
 rw [List.any_eq_false]
 intro k hk hv
 exact h2.1 (by rw [← hu k (by simp [hk]) (by simpa using hv)]; exact hk)
def fromA (b o k cap : Nat) : Option Addr := if cap = k then some ⟨b, o, none⟩ else some ⟨b, o + k * 3, none⟩
theorem rdL_from {w : World} {b o : Nat} {ls : List Lk} (h : RdL w (some ⟨b, o, none⟩) ls) (k cap : Nat) (hk : k ≤ ls.length) (hc : ls.length ≤ cap) : RdL w (fromA b o k cap) (ls.drop k) := by
 unfold fromA
 split
 ·
  rename_i e
  have : ls.drop k = [] := List.drop_eq_nil_of_le (by omega)
  rw [this]; exact rdL_nil _ _
 ·
  intro i u hu
  have e : lkCells ls = lkCells (ls.take k) ++ lkCells (ls.drop k) := by rw [← lkCells_append, List.take_append_drop]
  have hl : (lkCells (ls.take k)).length = k * 3 := by rw [lkCells_length, List.length_take]; omega
  obtain ⟨b', o', ha, hc⟩ := h (k * 3 + i) u (by rw [e, List.getElem?_append_right (by omega), hl, show k * 3 + i - k * 3 = i by omega]; exact hu)
  cases ha
  exact ⟨b, o + k * 3, rfl, by rw [← Nat.add_assoc] at hc; exact hc⟩
theorem rdL_head {w : World} {a : Option Addr} {ls : List Lk} (h : RdL w a ls) (k : Nat) : RdL w a (ls.take k) := by
 intro i u hu
 have e : lkCells ls = lkCells (ls.take k) ++ lkCells (ls.drop k) := by rw [← lkCells_append, List.take_append_drop]
 have hi := (List.getElem?_eq_some_iff.1 hu).1
 exact h i u (by rw [e, List.getElem?_append_left hi]; exact hu)
theorem run_from (b o n cap k : Nat) (hk : k ≤ n) (w : World) : (Instr.slice 22 (.slice (some ⟨b, o, none⟩) n cap) (some (.int .i64 k)) none none).run Tryz.prog w = .ok (.slice (fromA b o k cap) (n - k) (cap - k)) w := by
 have hu : Tryz.prog.underlying 22 = some (.slice (Tryz.prog.elem 22)) := by kernel_rfl
 have hs : ∀ w, (sizeOf (Tryz.prog.elem 22)).run Tryz.prog w = .ok 3 w := fun w => by kernel_rfl
 rw [run_slice_l w 22 (some ⟨b, o, none⟩) n cap hu .i64 k (by omega) (by omega), hs]
 unfold fromA sliced
 simp only [Result.andThen, Int.toNat_natCast]
 split <;> simp [Addr.add]
set_option maxRecDepth 100000 in
set_option maxHeartbeats 8000000 in
theorem join_walk (b o ca b' o' cb : Nat) (x y : List Lk) (e : Lk) (w : World) (hrx : RdL w (some ⟨b, o, none⟩) x) (hry : RdL w (some ⟨b', o', none⟩) y) (hca : x.length ≤ ca) (hcb : y.length ≤ cb) (hcam : ca ≤ maxLen) (hcbm : cb ≤ maxLen)
  (Rx : RightL x) (Ry : RightL y) (hv : 1 ≤ e.2.2 ∧ e.2.2 ≤ 1048576) (hx : e ∈ x) (hy : e ∈ y) (ux : ∀ k ∈ x, k.2.2 = e.2.2 → k = e) (uy : ∀ k ∈ y, k.2.2 = e.2.2 → k = e) (hR : RightL (joinL x y e.2.2)) :
  Calls Tryz.prog 73 #[.slice (some ⟨b, o, none⟩) x.length ca, .slice (some ⟨b', o', none⟩) y.length cb, .int .i64 e.2.2] w (RetJ w (joinL x y e.2.2)) := by
 obtain ⟨x1, x2, hxe⟩ := List.append_of_mem hx
 obtain ⟨y1, y2, hye⟩ := List.append_of_mem hy
 have dx := drop_at hxe (right_nodup Rx) ux
 have dy := drop_at hye (right_nodup Ry) uy
 have ix := idx_at hxe (right_nodup Rx) ux
 have iy := idx_at hye (right_nodup Ry) uy
 have tx := tail_no hxe (right_nodup Rx) ux
 have ty := tail_no hye (right_nodup Ry) uy
 have hJ : joinL x y e.2.2 = sortL (x1 ++ x2 ++ (y1 ++ y2)) := by unfold joinL; rw [dx, dy]
 have hlx : x.length = x1.length + x2.length + 1 := by rw [hxe]; simp; omega
 have hly : y.length = y1.length + y2.length + 1 := by rw [hye]; simp; omega
 have hrX := (rightL_iff x).2 Rx
 have hrY := (rightL_iff y).2 Ry
 have hxl := Rx.1; have hyl := Ry.1
 obtain ⟨e1, e2, v⟩ := e
 simp only at hv ux uy dx dy ix iy tx ty hJ hR ⊢
 have q1 : decide (v < 1) = false := by simp; omega
 have hdx : x.drop (x1.length + 1) = x2 := by rw [hxe]; simp
 have hdy : y.drop (y1.length + 1) = y2 := by rw [hye]; simp
 have htx : x.take x1.length = x1 := by rw [hxe]; simp
 have hty : y.take y1.length = y1 := by rw [hye]; simp
 have hex : x[x1.length]'(by omega) = (e1, e2, v) := by simp [hxe]
 have hey : y[y1.length]'(by omega) = (e1, e2, v) := by simp [hye]
 have px := hrx.at x1.length (by omega)
 have py := hry.at y1.length (by omega)
 rw [hex] at px
 rw [hey] at py
 obtain ⟨_, _, z1, p0, p1, p2⟩ := px
 obtain ⟨_, _, z2, s0, s1, s2⟩ := py
 cases z1; cases z2
 simp only at p0 p1 p2 s0 s1 s2
 have i1 : (x1.length : Int) < (x.length : Int) := by omega
 have j1 : (y1.length : Int) < (y.length : Int) := by omega
 have Hix := Lib.hid ix; have Hiy := Lib.hid iy; have Htx := Lib.hid tx; have Hty := Lib.hid ty; have HJ := Lib.hid hJ; have HR := Lib.hid hR; have Hlx := Lib.hid hlx; have Hly := Lib.hid hly
 have HrX := Lib.hid hrX; have HrY := Lib.hid hrY; have Hdx := Lib.hid hdx; have Hdy := Lib.hid hdy; have Htkx := Lib.hid htx; have Htky := Lib.hid hty
 have Hcam := Lib.hid hcam; have Hcbm := Lib.hid hcbm
 clear hex hey
 clear ux uy dx dy ix iy tx ty hJ hR hxe hye hrX hrY hdx hdy htx hty hcam hcbm hx hy Rx Ry hlx hly
 have hA := bl_alloc w (.cells #[.int .i64 v] 3)
 have hvb : (w.alloc (.cells #[.int .i64 v] 3)).cell? ⟨w.heap.size, 0, none⟩ = some (.int .i64 v) := cell_new1 rfl
 have hrxA := hrx.below hA
 have hryA := hry.below hA
 go_enter Tryz.func73, Tryz.ntmps73
 go_wp2_with fail
 refine (lright_walk _ ca x _ hrxA (by omega)).mono ?_
 rw [HrX.out]
 rintro e w1 ⟨rfl, hb1⟩
 have hB1 := bl_trans hA hb1
 have hry1 := hry.below hB1
 have hvb1 := keep_cell hb1 hvb
 clear hb1 hrxA hryA hvb hA
 go_wp2_with fail
 refine (lright_walk _ cb y _ hry1 (by omega)).mono ?_
 rw [HrY.out]
 rintro e w2 ⟨rfl, hb2⟩
 have hB2 := bl_trans hB1 hb2
 have hrx2 := hrx.below hB2
 have hvb2 := keep_cell hb2 hvb1
 clear hb2 hry1 hB1 hvb1
 go_wp2_with fail
 refine (index_walkP w.heap.size (fun k => k.2.2 == v) _ ca x _ hrx2 (by omega) (fun k _ w3 hb3 => numbered_walk k w.heap.size v _ w3 (keep_cell hb3 hvb2) rfl)).mono ?_
 rw [Hix.out]
 rintro e w3 ⟨rfl, hb3⟩
 have hB3 := bl_trans hB2 hb3
 have hry3 := hry.below hB3
 have hvb3 := keep_cell hb3 hvb2
 clear hb3 hrx2 hB2 hvb2
 go_wp2_with fail
 refine (index_walkP w.heap.size (fun k => k.2.2 == v) _ cb y _ hry3 (by omega) (fun k _ w3 hb3 => numbered_walk k w.heap.size v _ w3 (keep_cell hb3 hvb3) rfl)).mono ?_
 rw [Hiy.out]
 rintro e w4 ⟨rfl, hb4⟩
 have hB4 := bl_trans hB3 hb4
 have hrx4 := hrx.below hB4
 have hry4 := hry.below hB4
 have hvb4 := keep_cell hb4 hvb3
 have p0' := keep_cell hB4 p0
 have p1' := keep_cell hB4 p1
 have p2' := keep_cell hB4 p2
 have s0' := keep_cell hB4 s0
 have s1' := keep_cell hB4 s1
 have s2' := keep_cell hB4 s2
 clear hb4 hry3 hB3 hvb3 p0 p1 p2 s0 s1 s2
 have hgt : Tryz.prog.eqGuardType Tryz.prog.depth 38 = false := by kernel_rfl
 have hpe := fun w => lk_eq (e1, e2, v) (e1, e2, v) w
 rw [show decide (((e1, e2, v) : Lk) = (e1, e2, v)) = true by simp] at hpe
 unfold lkV at hpe
 simp only at hpe
 have g1 : decide ((x1.length : Int) < 0) = false := by simp
 have g2 : decide ((y1.length : Int) < 0) = false := by simp
 go_wp2_with fail
 go_quiet (fail)
 have hrx5 := hrx4.below (below_drewN (bl_refl w4) nq)
 have hry5 := hry4.below (below_drewN (bl_refl w4) nq)
 have hB5 := below_drewN hB4 nq
 have hvb5 : (w4.drewN nq).cell? ⟨w.heap.size, 0, none⟩ = some (.int .i64 v) := hvb4
 clear p0' p1' p2' s0' s1' s2' hrx4 hry4 hvb4 hB4 hgt hpe g1 g2
 have f1 : ∀ w, (Instr.slice 22 (.slice (some ⟨b, o, none⟩) x.length ca) (some (.int .i64 ((x1.length : Int) + 1))) none none).run Tryz.prog w = .ok (.slice (fromA b o (x1.length + 1) ca) (x.length - (x1.length + 1)) (ca - (x1.length + 1))) w := fun w => run_from b o x.length ca (x1.length + 1) (by omega) w
 have f2 : ∀ w, (Instr.slice 22 (.slice (some ⟨b', o', none⟩) y.length cb) (some (.int .i64 ((y1.length : Int) + 1))) none none).run Tryz.prog w = .ok (.slice (fromA b' o' (y1.length + 1) cb) (y.length - (y1.length + 1)) (cb - (y1.length + 1))) w := fun w => run_from b' o' y.length cb (y1.length + 1) (by omega) w
 have hn1 : x.length - (x1.length + 1) = x2.length := by have := Hlx.out; omega
 have hn2 : y.length - (y1.length + 1) = y2.length := by have := Hly.out; omega
 have hf1 := rdL_from hrx5 (x1.length + 1) ca (by omega) hca
 have hf2 := rdL_from hry5 (y1.length + 1) cb (by omega) hcb
 rw [Hdx.out] at hf1
 rw [Hdy.out] at hf2
 rw [hn1] at f1
 rw [hn2] at f2
 generalize fromA b o (x1.length + 1) ca = A1 at f1 hf1
 generalize fromA b' o' (y1.length + 1) cb = A2 at f2 hf2
 have hc1 : x2.length ≤ ca - (x1.length + 1) ∧ ca - (x1.length + 1) ≤ maxLen := by have := Hlx.out; have := Hcam.out; omega
 have hc2 : y2.length ≤ cb - (y1.length + 1) ∧ cb - (y1.length + 1) ≤ maxLen := by have := Hly.out; have := Hcbm.out; omega
 generalize ca - (x1.length + 1) = C1 at f1 hc1
 generalize cb - (y1.length + 1) = C2 at f2 hc2
 have Hc1 := Lib.hid hc1; have Hc2 := Lib.hid hc2
 clear hc1 hc2
 have i3 : IntKind.i64.wrap ((x1.length : Int) + 1) = (x1.length : Int) + 1 := IntWalk.i64_in _ (by omega)
 have i4 : IntKind.i64.wrap ((y1.length : Int) + 1) = (y1.length : Int) + 1 := IntWalk.i64_in _ (by omega)
 have hlx2 : x2.length ≤ 1000 := by omega
 have hly2 : y2.length ≤ 1000 := by omega
 clear hn1 hn2
 go_wp2_with fail
 refine (contains_walkP w.heap.size (fun k => k.2.2 == v) A1 C1 x2 _ hf1 (by omega) (fun k _ w3 hb3 => numbered_walk k w.heap.size v _ w3 (keep_cell hb3 hvb5) rfl)).mono ?_
 rw [Htx.out]
 rintro e w6 ⟨rfl, hb6⟩
 have hB6 := bl_trans hB5 hb6
 have hf2' := hf2.below hb6
 have hf1' := hf1.below hb6
 have hvb6 := keep_cell hb6 hvb5
 clear hb6 hf2 hf1 hvb5 hB5 hrx5 hry5
 go_wp2_with fail
 refine (contains_walkP w.heap.size (fun k => k.2.2 == v) A2 C2 y2 _ hf2' (by omega) (fun k _ w3 hb3 => numbered_walk k w.heap.size v _ w3 (keep_cell hb3 hvb6) rfl)).mono ?_
 rw [Hty.out]
 rintro e w7 ⟨rfl, hb7⟩
 have hB7 := bl_trans hB6 hb7
 have hf1 := hf1'.below hb7
 have hf2 := hf2'.below hb7
 have hrx7 := rdL_head (hrx.below hB7) x1.length
 have hry7 := rdL_head (hry.below hB7) y1.length
 rw [Htkx.out] at hrx7
 rw [Htky.out] at hry7
 clear hb7 hf1' hf2' hvb6 hB6
 have hca0 : 0 < ca := by omega
 have hcb0 : 0 < cb := by omega
 have hl1 : x1.length ≤ ca := by omega
 have hl2 : y1.length ≤ cb := by omega
 go_wp2_with fail
 refine regionT (fun _ => True) 14 (by kernel_rfl) ?_
 have hS : True := trivial
 refine tkT 0 ?_ rfl hS ?_ ?_ (by kernel_rfl) (fun _ _ _ h => h) (by rfl); rotate_left; (· intro wS hSw; (try dsimp only at hSw); go_simp; try with_reducible rfl); simp only [Act.put, zA, z0, z1]
 refine tkT 1 ?_ rfl hS ?_ ?_ (by kernel_rfl) (fun _ _ _ h => h) (by rfl); rotate_left; (· intro wS hSw; (try dsimp only at hSw); go_simp; try with_reducible rfl); simp only [Act.put, zA, z0, z1]
 refine tkT 2 ?_ rfl hS ?_ ?_ (by kernel_rfl) (fun _ _ _ h => h) (by rfl); rotate_left; (· intro wS hSw; (try dsimp only at hSw); go_simp; try with_reducible rfl); simp only [Act.put, zA, z0, z1]
 refine tkT 3 ?_ rfl hS ?_ ?_ (by kernel_rfl) (fun _ _ _ h => h) (by rfl); rotate_left; (· intro wS hSw; (try dsimp only at hSw); go_simp; try with_reducible rfl); simp only [Act.put, zA, z0, z1]
 refine tkT 4 ?_ rfl hS ?_ ?_ (by kernel_rfl) (fun _ _ _ h => h) (by rfl); rotate_left; (· intro wS hSw; (try dsimp only at hSw); go_simp; try with_reducible rfl); simp only [Act.put, zA, z0, z1]
 refine tkT 5 ?_ rfl hS ?_ ?_ (by kernel_rfl) (fun _ _ _ h => h) (by rfl); rotate_left; (· intro wS hSw; (try dsimp only at hSw); go_simp; try with_reducible rfl); simp only [Act.put, zA, z0, z1]
 refine tkT 6 ?_ rfl hS ?_ ?_ (by kernel_rfl) (fun _ _ _ h => h) (by rfl); rotate_left; (· intro wS hSw; (try dsimp only at hSw); go_simp; try with_reducible rfl); simp only [Act.put, zA, z0, z1]
 refine tkT 7 ?_ rfl hS ?_ ?_ (by kernel_rfl) (fun _ _ _ h => h) (by rfl); rotate_left; (· intro wS hSw; (try dsimp only at hSw); go_simp; try with_reducible rfl); simp only [Act.put, zA, z0, z1]
 refine tkT 8 ?_ rfl hS ?_ ?_ (by kernel_rfl) (fun _ _ _ h => h) (by rfl); rotate_left; (· intro wS hSw; (try dsimp only at hSw); go_simp; try with_reducible rfl); simp only [Act.put, zA, z0, z1]
 refine tkT 9 ?_ rfl hS ?_ ?_ (by kernel_rfl) (fun _ _ _ h => h) (by rfl); rotate_left; (· intro wS hSw; (try dsimp only at hSw); go_simp; try with_reducible rfl); simp only [Act.put, zA, z0, z1]
 refine tkT 10 ?_ rfl hS ?_ ?_ (by kernel_rfl) (fun _ _ _ h => h) (by rfl); rotate_left; (· intro wS hSw; (try dsimp only at hSw); go_simp; try with_reducible rfl); simp only [Act.put, zA, z0, z1]
 refine tkT 11 ?_ rfl hS ?_ ?_ (by kernel_rfl) (fun _ _ _ h => h) (by rfl); rotate_left; (· intro wS hSw; (try dsimp only at hSw); go_simp; try with_reducible rfl); simp only [Act.put, zA, z0, z1]
 refine tkT 12 ?_ rfl hS ?_ ?_ (by kernel_rfl) (fun _ _ _ h => h) (by rfl); rotate_left; (· intro wS hSw; (try dsimp only at hSw); go_simp; try with_reducible rfl); simp only [Act.put, zA, z0, z1]
 refine tkT 13 ?_ rfl hS ?_ ?_ (by kernel_rfl) (fun _ _ _ h => h) (by rfl); rotate_left; (· intro wS hSw; (try dsimp only at hSw); go_simp; try with_reducible rfl); simp only [Act.put, zA, z0, z1]
 refine oneT (i := 14) rfl (by kernel_rfl) (fun K hK => ?_)
 go_simp
 refine hK _ _ (fun h => absurd h (by omega)) ?_
 clear hK K
 have hA8 : Below w7.heap.size w7 ((w7.alloc (.cells #[.slice (some ⟨b, o, none⟩) x1.length ca, .slice A1 x2.length C1, .slice (some ⟨b', o', none⟩) y1.length cb, .slice A2 y2.length C2] 22)).drew) := (bl_alloc w7 _).drew
 have hrow : Row ((w7.alloc (.cells #[.slice (some ⟨b, o, none⟩) x1.length ca, .slice A1 x2.length C1, .slice (some ⟨b', o', none⟩) y1.length cb, .slice A2 y2.length C2] 22)).drew) w7.heap.size 22 1 4 [.slice (some ⟨b, o, none⟩) x1.length ca, .slice A1 x2.length C1, .slice (some ⟨b', o', none⟩) y1.length cb, .slice A2 y2.length C2] :=
  (row_lit w7 [.slice (some ⟨b, o, none⟩) x1.length ca, .slice A1 x2.length C1, .slice (some ⟨b', o', none⟩) y1.length cb, .slice A2 y2.length C2] _ (by unfold maxLen; simp)).drew
 have hG : RdLs ((w7.alloc (.cells #[.slice (some ⟨b, o, none⟩) x1.length ca, .slice A1 x2.length C1, .slice (some ⟨b', o', none⟩) y1.length cb, .slice A2 y2.length C2] 22)).drew) (some ⟨w7.heap.size, 0, none⟩) [x1, x2, y1, y2] := by
  intro i r hi
  have hc := fun (j : Nat) (hj : j < 4) => hrow.cell? j hj
  match i with
  | 0 => simp at hi; subst hi; exact ⟨_, _, _, _, rfl, by rw [Nat.zero_add, hc 0 (by omega)]; rfl, hrx7.below hA8, hl1, Hcam.out⟩
  | 1 => simp at hi; subst hi; exact ⟨_, _, _, _, rfl, by rw [Nat.zero_add, hc 1 (by omega)]; rfl, hf1.below hA8, Hc1.out.1, Hc1.out.2⟩
  | 2 => simp at hi; subst hi; exact ⟨_, _, _, _, rfl, by rw [Nat.zero_add, hc 2 (by omega)]; rfl, hry7.below hA8, hl2, Hcbm.out⟩
  | 3 => simp at hi; subst hi; exact ⟨_, _, _, _, rfl, by rw [Nat.zero_add, hc 3 (by omega)]; rfl, hf2.below hA8, Hc2.out.1, Hc2.out.2⟩
  | i + 4 => simp at hi
 have hB8 := bl_trans hB7 hA8
 have hsum : sumN [x1, x2, y1, y2] [x1, x2, y1, y2].length ≤ 100000 := by simp [sumN]; omega
 clear hrow hA8 hrx7 hry7 hf1 hf2 f1 f2 hS
 generalize ((w7.alloc (.cells #[.slice (some ⟨b, o, none⟩) x1.length ca, .slice A1 x2.length C1, .slice (some ⟨b', o', none⟩) y1.length cb, .slice A2 y2.length C2] 22)).drew) = w8 at hG hB8 ⊢
 have HG := Lib.hid hG; have Hsum := Lib.hid hsum
 clear hG hsum
 refine oneT (i := 15) rfl (by kernel_rfl) (fun K hK => ?_)
 go_simp
 go_at_call 96
 refine (concat_walk (some ⟨w7.heap.size, 0, none⟩) 4 [x1, x2, y1, y2] _ HG.out (by simp) Hsum.out).mono ?_
 rintro e w9 ⟨v9, rfl, ho9, hg9, hb9⟩
 have hfl : [x1, x2, y1, y2].flatten = x1 ++ x2 ++ (y1 ++ y2) := by simp
 rw [hfl] at ho9
 have hlen : (x1 ++ x2 ++ (y1 ++ y2)).length ≤ 1000 := by
  have h1 := HR.out.1
  rw [HJ.out, sortL_length] at h1
  exact h1
 obtain ⟨a9, c9, rfl, hr9, _, hc9m, hc9⟩ := OwnL.read ho9
 have hB9 := bl_trans hB8 hb9
 generalize hZ : x1 ++ x2 ++ (y1 ++ y2) = Z at hr9 hlen hc9 HJ ⊢
 clear hZ ho9 hg9 hb9 hfl HG Hsum hB8
 go_simp
 refine hK _ _ (fun h => absurd h (by omega)) ?_
 clear hK K
 refine restartT (fun _ => True) 17 (by kernel_rfl) ?_
 have hS : True := trivial
 refine tkT 16 ?_ rfl hS ?_ ?_ (by kernel_rfl) (fun _ _ _ h => h) (by rfl); rotate_left; (· intro wS hSw; (try dsimp only at hSw); go_simp; try with_reducible rfl); simp only [Act.put, zA, z0, z1]
 refine doneT (by kernel_rfl) ?_ _
 have hlz : decide ((1000 : Int) < (Z.length : Int)) = false := by simp; omega
 go_wp2_with fail
 refine (sorted_walk a9 c9 Z _ hr9 (by omega)).mono ?_
 rintro e wa ⟨va, rfl, hoa, hga, hba⟩
 have hBa := bl_trans hB9 hba
 have hlo : ∀ g, va.ownBlock = some g → w.heap.size ≤ g := fun g hg => Nat.le_trans hB9.size (hga g hg)
 have hRZ : RightL (sortL Z) := by rw [← HJ.out]; exact HR.out
 obtain ⟨S, hS⟩ : ∃ S, S = sortL Z := ⟨_, rfl⟩
 rw [← hS] at hoa hRZ
 have Hoa := Lib.hid hoa; have HRS := Lib.hid hRZ; have Hlo := Lib.hid hlo; have HS := Lib.hid hS
 have hSl : S.length ≤ 1000 := hRZ.1
 obtain ⟨aS, cS, hvas, hrS, _, _, _⟩ := OwnL.read hoa
 clear hoa hga hba hRZ hlo hS hB9 hr9
 have hgt : Tryz.prog.eqGuardType Tryz.prog.depth 38 = false := by kernel_rfl
 rw [hvas] at Hoa Hlo ⊢
 clear hvas
 go_wp2_with fail
 go_loopg [86] S.length (fun r iv wj => ∃ i : Nat, i + r = S.length ∧ iv = .int .i64 i ∧ ∃ d, wj = wa.drewN d)
 case atStart => exact ⟨0, by omega, rfl, 0, rfl⟩
 case round =>
  obtain ⟨i, hi, rfl, d, rfl⟩ := hrel
  have Hi := Lib.hid hi
  by_cases hil : i < S.length
  ·
   clear hi; by_cases h0 : i = 0
   ·
    subst h0; go_wp2_with fail; go_quiet (fail)
    go_wp2_with fail; go_roundg (gk - 1)
    case measure => have := Hi.out; omega
    case rel => exact ⟨1, by have := Hi.out; omega, by go_num, d + nq, by first | rfl | rw [World.drewN_drewN]⟩
   ·
    obtain ⟨m, rfl⟩ : ∃ m, i = m + 1 := ⟨i - 1, by omega⟩
    obtain ⟨bs, os, rfl, a0, a1, a2⟩ := hrS.at (m + 1) hil; obtain ⟨bs', os', he, b0, b1, b2⟩ := hrS.at m (by omega); cases he; have hlt : LtL (S[m]'(by omega)) S[m + 1] := List.pairwise_iff_getElem.1 HRS.out.2.2 m (m + 1) (by omega) hil (by omega); have hne : S[m]'(by omega) ≠ S[m + 1] := fun e => LtL.irrefl _ (e ▸ hlt); obtain ⟨⟨x1', x2', x3'⟩, hxe⟩ : ∃ x : Lk, S[m + 1] = x := ⟨_, rfl⟩
    obtain ⟨⟨y1', y2', y3'⟩, hye⟩ : ∃ x : Lk, S[m]'(by omega) = x := ⟨_, rfl⟩
    rw [hxe] at a0 a1 a2 hne; rw [hye] at b0 b1 b2 hne; simp only at a0 a1 a2 b0 b1 b2; have hpe := fun w => lk_eq (y1', y2', y3') (x1', x2', x3') w; rw [show decide (((y1', y2', y3') : Lk) = (x1', x2', x3')) = false by simpa using hne] at hpe; unfold lkV at hpe; simp only at hpe; have i1' : IntKind.i64.wrap ((m : Int) + 1 - 1) = (m : Int) := by rw [show ((m : Int) + 1 - 1) = m by omega]; exact IntWalk.i64_in _ (by omega)
    have i2' : IntKind.i64.wrap (m : Int) = (m : Int) := IntWalk.i64_in _ (by omega); have i3' : (0 : Int) ≤ (m : Int) := by omega
    have i4' : (m : Int) < (S.length : Int) := by omega
    have i5' : m < S.length := by omega
    have i6' : (m : Int) + 1 < (S.length : Int) := by omega
    have i7' : (0 : Int) ≤ (m : Int) + 1 := by omega
    clear hlt hne hxe hye h0; go_wp2_with fail; go_quiet (fail)
    go_wp2_with fail; go_roundg (gk - 1)
    case measure => have := Hi.out; omega
    case rel => exact ⟨m + 1 + 1, by have := Hi.out; omega, by go_num, d + nq, by first | rfl | rw [World.drewN_drewN]⟩
  ·
   clear hi; go_wp2_with fail; go_ret2; exact ⟨_, rfl, by rw [HJ.out, ← HS.out]; exact Own.ext Hoa.out (below_drewN (bl_refl wa) d), Hlo.out, below_drewN hBa _⟩
end Go.Proofs.YtagcbnpahgfgmaaGreat
namespace Go.Proofs.YtagcbnpahgfgmaaGreat
open Go
section
variable {P : Program} {md : Region.Mode} {ops : Array Oper} {Q : Exit → Act → World → Prop} {S : World → Prop} {N : Nat}
def tailL (md : Region.Mode) (ops : Array Oper) (listed : Array Bool) (N : Nat) : Bool :=
 (List.range ops.size).all fun j => decide (j < N) || (List.range N).all fun i => listed.getD i false || waitsB md ops i ops.size j
theorem tailL_late {l0 listed : Array Bool} (ht : tailL md ops l0 N = true) (hsub : ∀ i, l0.getD i false = true → listed.getD i false = true) (hc : closedT md ops listed) {j : Nat} (hj : j ∈ Region.ready md ops listed) (hN : N ≤ j) {i : Nat} (hi : i < N) :
  listed.getD i false = true := by
 obtain ⟨h0, o, ho, hall⟩ := mem_ready.1 hj
 have hjs : j < ops.size := (Array.getElem?_eq_some_iff.1 ho).1
 have h1 := List.all_eq_true.1 ht j (List.mem_range.2 hjs)
 simp only [Bool.or_eq_true, decide_eq_true_eq] at h1
 have h2 := List.all_eq_true.1 (h1.resolve_left (by omega)) i (List.mem_range.2 hi)
 simp only [Bool.or_eq_true] at h2
 rcases h2 with h2 | h2
 · exact hsub i h2
 ·
  refine waits_spec hc _ _ h2 fun o' ho' => ?_
  rw [ho] at ho'
  cases ho'
  exact hall
theorem anyL_first {l0 : Array Bool} {i : Nat} {oi : Oper} {v : Value} (hi : ops[i]? = some oi) (hsel : ∀ (j : Nat) (o : Oper) cs b, ops[j]? = some o → o.op ≠ .select cs b)
  (hQ : ∀ c a w, Q (.panic c) (a.put oi.dst v) w → Q (.panic c) a w) (hiN : i < N) (ht : tailL md ops l0 N = true) :
  ∀ (fuel : Nat) (listed : Array Bool) (a : Act) (w : World), (∀ i, l0.getD i false = true → listed.getD i false = true) → closedT md ops listed →
   (∀ j oj, ops[j]? = some oj → j ≠ i → listed.getD j true = false → (∀ e ∈ oj.after, Region.binds md e = true → e.on ≠ i) → oi.apart ops oj = true) →
   i ∈ Region.ready md ops listed → YieldsIf P ops S oi v a → S w →
   anyT P md ops Q S N fuel (listed.setIfInBounds i true) (a.put oi.dst v) w → anyT P md ops Q S N (fuel + 1) listed a w := by
 intro fuel
 induction fuel with
 | zero =>
  intro listed a w _ hc _ hr hy hS H
  refine ⟨fun h => (by rw [h] at hr; cases hr), fun j hj => ?_⟩
  by_cases hji : j = i
  · subst hji; exact hy.wpOp hi hS ⟨fun _ => hS, H⟩
  ·
   have := ready_mono hj hji; rw [H.1] at this; cases this
 | succ fuel ih =>
  intro listed a w hsub hc hfree hr hy hS H
  refine ⟨fun h => (by rw [h] at hr; cases hr), fun j hj => ?_⟩
  by_cases hji : j = i
  · subst hji; exact hy.wpOp hi hS ⟨fun _ => hS, H⟩
  ·
   have h1 := H.2 j (ready_mono hj hji); obtain ⟨hjun, oj, hoj, hall⟩ := mem_ready.1 hj; have hnot : ∀ e ∈ oj.after, Region.binds md e = true → e.on ≠ i := fun e he hb heq =>
    getD_clash (mem_ready.1 hr).1 (heq ▸ hall e he hb)
   have hjN : j < N := by
    rcases Nat.lt_or_ge j N with h | h
    · exact h
    · exact (getD_clash (mem_ready.1 hr).1 (tailL_late ht hsub hc hj h hiN)).elim
   have h2 := wpOp_putIf hoj (hfree j oj hoj hji hjun hnot) (fun cs b => hsel i oi cs b hi) (fun cs b => hsel j oj cs b hoj) hQ hy h1; have hfree' : ∀ k ok, ops[k]? = some ok → k ≠ i → (listed.setIfInBounds j true).getD k true = false →
     (∀ e ∈ ok.after, Region.binds md e = true → e.on ≠ i) → oi.apart ops ok = true := fun k ok hk hki hun hno => by
    refine hfree k ok hk hki ?_ hno; by_cases hjk : j = k
    · subst hjk; exact hjun
    · rw [getD_set_ne true hjk] at hun; exact hun
   refine wpOp_mono (fun a' w' h3 => ⟨h3.2.1, ih (listed.setIfInBounds j true) a' w' (fun i hi => getD_set_true (hsub i hi)) (closed_set hc hj) hfree' (ready_mono hr (Ne.symm hji)) h3.1 (h3.2.1 hjN) ?_⟩) h2; rw [Array.setIfInBounds_comm _ _ hji]; exact h3.2.2
end
section
variable {P : Program} {md : Region.Mode} {l : List Oper} {Q : Exit → Act → World → Prop} {S : World → Prop} {N : Nat}
theorem takeL {i : Nat} {oi : Oper} {v : Value} {fuel : Nat} {listed : Array Bool} {a : Act} {w : World} (hi : l[i]? = some oi)
  (hB : (Region.noSelect l.toArray && Region.free md l.toArray listed i && (Region.ready md l.toArray listed).contains i && tailL md l.toArray listed N && closedB md l.toArray listed && decide (i < N)) = true)
  (hQ : ∀ c a w, Q (.panic c) (a.put oi.dst v) w → Q (.panic c) a w) (hy : YieldsIf P l.toArray S oi v a) (hS : S w)
  (h : anyT P md l.toArray Q S N fuel (listed.setIfInBounds i true) (a.put oi.dst v) w) : anyT P md l.toArray Q S N (fuel + 1) listed a w := by
 simp only [Bool.and_eq_true, decide_eq_true_eq] at hB
 obtain ⟨⟨⟨⟨⟨hs, hf⟩, hr⟩, ht⟩, hc⟩, hN⟩ := hB
 have hi' : l.toArray[i]? = some oi := by simpa using hi
 exact anyL_first hi' (Region.noSelect_spec hs) hQ hN ht fuel listed a w (fun _ h => h) (closed_spec hc) (Region.free_spec hi' hf) (by simpa using hr) hy hS h
theorem weak_any {S' : World → Prop} {N' : Nat} : ∀ (fuel : Nat) (listed : Array Bool) (a : Act) (w : World), anyT P md l.toArray Q S' N' fuel listed a w → anyT P md l.toArray Q (fun _ => True) N fuel listed a w
 | 0, _, _, _, h => h
 | fuel + 1, _, _, _, h => ⟨h.1, fun i hi => wpOp_mono (fun _ _ h' => ⟨fun _ => trivial, weak_any fuel _ _ _ h'.2⟩) (h.2 i hi)⟩
theorem weakT {fuel : Nat} {listed : Array Bool} {a : Act} {w : World} (S' : World → Prop) (N' : Nat) (h : anyT P md l.toArray Q S' N' fuel listed a w) : anyT P md l.toArray Q (fun _ => True) N fuel listed a w := weak_any fuel listed a w h
end
theorem tkL {P : Program} {md : Region.Mode} {l : List Oper} {Q : Exit → Act → World → Prop} {S : World → Prop} {N : Nat} {oi : Oper} {fuel : Nat} {listed : Array Bool} {a : Act} {w : World} (i : Nat) (v : Value) (hi : l[i]? = some oi) (hS : S w)
 (h2 : ∀ w, S w → (execOp a.eval oi).run P w = .ok (.value v) w)
 (h : anyT P md l.toArray Q S N fuel (listed.setIfInBounds i true) (a.put oi.dst v) w)
 (hB : (Region.noSelect l.toArray && Region.free md l.toArray listed i && (Region.ready md l.toArray listed).contains i && tailL md l.toArray listed N && closedB md l.toArray listed && decide (i < N)) = true)
 (hQ : ∀ c a w, Q (.panic c) (a.put oi.dst v) w → Q (.panic c) a w) (h1 : Region.wanted oi (yielded l.toArray a.tmps) = true) : anyT P md l.toArray Q S N (fuel + 1) listed a w := takeL hi hB hQ (Or.inl ⟨h1, h2⟩) hS h
end Go.Proofs.YtagcbnpahgfgmaaGreat
